/- AppendRune and Join; UnitBack in the evaluator. -/
import Derived.Test.YtbecmoihajlobaaDoorPlainC

section
set_option linter.unusedSimpArgs false
set_option linter.unusedVariables false
/- AppendRune, Join; the laws UnitBack and UnitJoins. -/
namespace Go.Proofs.YtbecmoihajlobaaDoor
open Go Go.Abs Go.RowKit

theorem wrap_u32 {n : Int} (h1 : 0 ≤ n) (h2 : n < 4294967296) : IntKind.u32.wrap n = n := by
  simp [IntKind.wrap, IntKind.bits, IntKind.signed]
  omega

/-- Whose bytes are that were appended to. -/
def accB : List UInt8 → Abs.Own
  | [] => .nl
  | _ :: _ => .un
theorem accB_ok (l : List UInt8) : okApp (accB l) = true := by cases l <;> rfl
theorem accB_app {a b : List UInt8} (hb : b ≠ []) : accB (a ++ b) = .un := by
  cases h : a ++ b with
  | nil => exact absurd (List.append_eq_nil_iff.1 h).2 hb
  | cons x r => rfl

theorem xapp_acc {a b : List UInt8} {o' : Abs.Own} (hb : b ≠ []) (hl : a.length + b.length ≤ 1099511627776) : xapp 1 (.p (.lst (accB a) (bl a))) (.p (.lst o' (bl b))) = some (.p (.lst (accB (a ++ b)) (bl (a ++ b)))) := by
  rw [accB_app hb]
  unfold xapp
  have h1 : decide ((bl a).length + (bl b).length ≤ lim) = true := decide_eq_true (by rw [bl_len, bl_len]; exact hl)
  simp only [elems, ob_sm, accB_ok, szOk_bl, h1, bl_app]
  cases b with
  | nil => exact absurd rfl hb
  | cons x r => rfl

theorem or128 {x : Nat} (h : x < 64) : ((BitVec.ofInt 8 128) ||| (BitVec.ofInt 8 (x : Int))).toNat = 128 + x := by
  have : ∀ x : Fin 64, ((BitVec.ofInt 8 128) ||| (BitVec.ofInt 8 ((x.val : Nat) : Int))).toNat = 128 + x.val := by decide
  exact this ⟨x, h⟩
theorem or192 {x : Nat} (h : x < 32) : ((BitVec.ofInt 8 192) ||| (BitVec.ofInt 8 (x : Int))).toNat = 192 + x := by
  have : ∀ x : Fin 32, ((BitVec.ofInt 8 192) ||| (BitVec.ofInt 8 ((x.val : Nat) : Int))).toNat = 192 + x.val := by decide
  exact this ⟨x, h⟩
theorem or224 {x : Nat} (h : x < 16) : ((BitVec.ofInt 8 224) ||| (BitVec.ofInt 8 (x : Int))).toNat = 224 + x := by
  have : ∀ x : Fin 16, ((BitVec.ofInt 8 224) ||| (BitVec.ofInt 8 ((x.val : Nat) : Int))).toNat = 224 + x.val := by decide
  exact this ⟨x, h⟩
theorem or240 {x : Nat} (h : x < 8) : ((BitVec.ofInt 8 240) ||| (BitVec.ofInt 8 (x : Int))).toNat = 240 + x := by
  have : ∀ x : Fin 8, ((BitVec.ofInt 8 240) ||| (BitVec.ofInt 8 ((x.val : Nat) : Int))).toNat = 240 + x.val := by decide
  exact this ⟨x, h⟩
theorem and63 {x : Nat} (h : x < 256) : ((BitVec.ofInt 8 (x : Int)) &&& (BitVec.ofInt 8 63)).toNat = x % 64 := by
  have : ∀ x : Fin 256, ((BitVec.ofInt 8 ((x.val : Nat) : Int)) &&& (BitVec.ofInt 8 63)).toNat = x.val % 64 := by decide +kernel
  exact this ⟨x, h⟩

theorem fdiv_nat (n k : Nat) : ((n : Int)).fdiv (k : Int) = ((n / k : Nat) : Int) := by
  rw [Int.fdiv_eq_ediv_of_nonneg _ (by omega)]
  rfl

namespace N2
theorem o128 {x : Nat} (h : x < 64) : xbin PP .or 5 (.p (.v (.int .u8 128))) (.p (.v (.int .u8 x))) = some (.p (.v (.int .u8 ((128 + x : Nat) : Int)))) := by
  rw [x_or, show IntKind.bits .u8 = 8 from rfl, or128 h, wrap_u8 (by omega) (by omega)]
theorem o192 {x : Nat} (h : x < 32) : xbin PP .or 5 (.p (.v (.int .u8 192))) (.p (.v (.int .u8 x))) = some (.p (.v (.int .u8 ((192 + x : Nat) : Int)))) := by
  rw [x_or, show IntKind.bits .u8 = 8 from rfl, or192 h, wrap_u8 (by omega) (by omega)]
theorem o224 {x : Nat} (h : x < 16) : xbin PP .or 5 (.p (.v (.int .u8 224))) (.p (.v (.int .u8 x))) = some (.p (.v (.int .u8 ((224 + x : Nat) : Int)))) := by
  rw [x_or, show IntKind.bits .u8 = 8 from rfl, or224 h, wrap_u8 (by omega) (by omega)]
theorem o240 {x : Nat} (h : x < 8) : xbin PP .or 5 (.p (.v (.int .u8 240))) (.p (.v (.int .u8 x))) = some (.p (.v (.int .u8 ((240 + x : Nat) : Int)))) := by
  rw [x_or, show IntKind.bits .u8 = 8 from rfl, or240 h, wrap_u8 (by omega) (by omega)]
theorem n63 {x : Nat} (h : x < 256) : xbin PP .and 5 (.p (.v (.int .u8 x))) (.p (.v (.int .u8 63))) = some (.p (.v (.int .u8 ((x % 64 : Nat) : Int)))) := by
  rw [x_and, show IntKind.bits .u8 = 8 from rfl, and63 h, wrap_u8 (by omega) (by omega)]
theorem s6 (n : Nat) : xbin PP .shr 21 (.p (.v (.int .i32 n))) (.p (.v (.int .u64 6))) = some (.p (.v (.int .i32 ((n / 64 : Nat) : Int)))) := by
  rw [x_shr (by omega), show (2 : Int) ^ min (Int.toNat 6) IntKind.i32.bits = ((64 : Nat) : Int) from rfl, fdiv_nat]
theorem s12 (n : Nat) : xbin PP .shr 21 (.p (.v (.int .i32 n))) (.p (.v (.int .u64 12))) = some (.p (.v (.int .i32 ((n / 4096 : Nat) : Int)))) := by
  rw [x_shr (by omega), show (2 : Int) ^ min (Int.toNat 12) IntKind.i32.bits = ((4096 : Nat) : Int) from rfl, fdiv_nat]
theorem s18 (n : Nat) : xbin PP .shr 21 (.p (.v (.int .i32 n))) (.p (.v (.int .u64 18))) = some (.p (.v (.int .i32 ((n / 262144 : Nat) : Int)))) := by
  rw [x_shr (by omega), show (2 : Int) ^ min (Int.toNat 18) IntKind.i32.bits = ((262144 : Nat) : Int) from rfl, fdiv_nat]
theorem to8 (n : Nat) : xcnv PP 21 5 (.p (.v (.int .i32 n))) = some (.p (.v (.int .u8 ((n % 256 : Nat) : Int)))) := by
  rw [x_cnv Tryd.underlying21 Tryd.underlying5, wrap_u8_mod]
  rfl
theorem to32 {n : Nat} (h : n ≤ 1114111) : xcnv PP 21 47 (.p (.v (.int .i32 n))) = some (.p (.v (.int .u32 n))) := by
  rw [x_cnv Tryd.underlying21 Tryd.underlying47, wrap_u32 (by omega) (by omega)]

theorem app2 {n : Nat} (h1 : ¬ n < 128) (h2 : n < 2048) : [PV.v (.int .u8 ((192 + n / 64 % 256 : Nat) : Int)), .v (.int .u8 ((128 + n % 256 % 64 : Nat) : Int))] = bl (encB n) := by
  unfold encB bl
  rw [if_neg h1, if_pos h2, show n / 64 % 256 = n / 64 by omega, show n % 256 % 64 = n % 64 by omega]
  simp only [List.map_cons, List.map_nil, u8_toNat (show 192 + n / 64 < 256 by omega), u8_toNat (show 128 + n % 64 < 256 by omega)]
theorem app3 {n : Nat} (h2 : ¬ n < 2048) (h3 : n < 65536) : [PV.v (.int .u8 ((224 + n / 4096 % 256 : Nat) : Int)), .v (.int .u8 ((128 + n / 64 % 256 % 64 : Nat) : Int)), .v (.int .u8 ((128 + n % 256 % 64 : Nat) : Int))] = bl (encB n) := by
  unfold encB bl
  rw [if_neg (by omega), if_neg h2, if_pos h3, show n / 4096 % 256 = n / 4096 by omega, show n / 64 % 256 % 64 = n / 64 % 64 by omega, show n % 256 % 64 = n % 64 by omega]
  simp only [List.map_cons, List.map_nil, u8_toNat (show 224 + n / 4096 < 256 by omega), u8_toNat (show 128 + n / 64 % 64 < 256 by omega), u8_toNat (show 128 + n % 64 < 256 by omega)]
theorem app4 {n : Nat} (h3 : ¬ n < 65536) (h4 : n ≤ 1114111) : [PV.v (.int .u8 ((240 + n / 262144 % 256 : Nat) : Int)), .v (.int .u8 ((128 + n / 4096 % 256 % 64 : Nat) : Int)), .v (.int .u8 ((128 + n / 64 % 256 % 64 : Nat) : Int)), .v (.int .u8 ((128 + n % 256 % 64 : Nat) : Int))] = bl (encB n) := by
  unfold encB bl
  rw [if_neg (by omega), if_neg (by omega), if_neg h3, show n / 262144 % 256 = n / 262144 by omega, show n / 4096 % 256 % 64 = n / 4096 % 64 by omega, show n / 64 % 256 % 64 = n / 64 % 64 by omega, show n % 256 % 64 = n % 64 by omega]
  simp only [List.map_cons, List.map_nil, u8_toNat (show 240 + n / 262144 < 256 by omega), u8_toNat (show 128 + n / 4096 % 64 < 256 by omega), u8_toNat (show 128 + n / 64 % 64 < 256 by omega), u8_toNat (show 128 + n % 64 < 256 by omega)]

theorem rune4_val {n : Nat} {a : List UInt8} (h3 : ¬ n < 65536) (h4 : n ≤ 1114111) (hl : a.length ≤ 1000000000) (m0 : Nat) :
    f28_r9 m0 (.p (.lst (accB a) (bl a))) (.p (.v (.int .i32 n))) [] = some (.p (.lst (accB (a ++ encB n)) (bl (a ++ encB n))), []) := by
  have e4 := encB_len n
  rw [f28_r9_eq]
  simp only [mk_eq, shr_v, kv]
  rw [s18, ob_sm, to8, ob_sm, o240 (by omega), ob_sm, s12, ob_sm, to8, ob_sm, n63 (by omega), ob_sm, o128 (by omega), ob_sm, s6, ob_sm, to8, ob_sm, n63 (by omega), ob_sm, o128 (by omega), ob_sm, to8, ob_sm, n63 (by omega), ob_sm, o128 (by omega), ob_sm, lit4, ob_sm, app4 h3 h4,
    xapp_acc (encB_ne n) (by omega), ob_sm]
  rfl

set_option maxRecDepth 100000 in
theorem rune_val {n : Nat} (h : n < 55296 ∨ (57343 < n ∧ n ≤ 1114111)) (h1 : ¬ n < 128) {a : List UInt8} (hl : a.length ≤ 1000000000) :
    EE 28 [.p (.lst (accB a) (bl a)), .p (.v (.int .i32 n))] [] = some (.p (.lst (accB (a ++ encB n)) (bl (a ++ encB n))), []) := by
  have e4 := encB_len n
  rw [f28_eq]
  simp only [mk_eq, shr_v, kv]
  rw [to32 (by omega), ob_sm, shr_v, shr_v, x_leq, ob_sm, shr_v, asB_b]
  by_cases h2 : n < 2048
  · have i2 : (n : Int) ≤ 2047 := by omega
    rw [decide_eq_true i2, br_t]
    rw [s6, ob_sm, to8, ob_sm, o192 (by omega), ob_sm, to8, ob_sm, n63 (by omega), ob_sm, o128 (by omega), ob_sm, lit2, ob_sm, app2 h1 h2, xapp_acc (encB_ne n) (by omega), ob_sm]
    rfl
  · have i2 : ¬ (n : Int) ≤ 2047 := by omega
    rw [decide_eq_false i2, br_f, x_lss, ob_sm, shr_v, asB_b]
    by_cases h3 : n < 55296
    · have i3 : (n : Int) < 55296 := by omega
      rw [decide_eq_true i3, br_t, asB_b, br_t]
      rw [s12, ob_sm, to8, ob_sm, o224 (by omega), ob_sm, s6, ob_sm, to8, ob_sm, n63 (by omega), ob_sm, o128 (by omega), ob_sm, to8, ob_sm, n63 (by omega), ob_sm, o128 (by omega), ob_sm, lit3, ob_sm, app3 h2 (by omega), xapp_acc (encB_ne n) (by omega), ob_sm]
      rfl
    · have i3 : ¬ (n : Int) < 55296 := by omega
      have i4 : (57343 : Int) < n := by omega
      rw [decide_eq_false i3, br_f, x_lss, ob_sm, shr_v, asB_b, decide_eq_true i4, br_t, x_leq, ob_sm, shr_v, shr_v, asB_b]
      by_cases h5 : n < 65536
      · have i5 : (n : Int) ≤ 65535 := by omega
        rw [decide_eq_true i5, br_t]
        rw [s12, ob_sm, to8, ob_sm, o224 (by omega), ob_sm, s6, ob_sm, to8, ob_sm, n63 (by omega), ob_sm, o128 (by omega), ob_sm, to8, ob_sm, n63 (by omega), ob_sm, o128 (by omega), ob_sm, lit3, ob_sm, app3 h2 h5, xapp_acc (encB_ne n) (by omega), ob_sm]
        rfl
      · have i5 : ¬ (n : Int) ≤ 65535 := by omega
        have i6 : (65535 : Int) < n := by omega
        have i7 : (n : Int) ≤ 1114111 := by omega
        rw [decide_eq_false i5, br_f, x_gtr, ob_sm, shr_v, asB_b, decide_eq_true i6, br_t, x_leq, ob_sm, shr_v, shr_v, asB_b, decide_eq_true i7, br_t, gcB_nil]
        exact rune4_val h5 (by omega) hl _

theorem append_val {n : Nat} (h : n < 55296 ∨ (57343 < n ∧ n ≤ 1114111)) {a : List UInt8} (hl : a.length ≤ 1000000000) :
    EE 25 [.p (.lst (accB a) (bl a)), .p (.v (.int .i32 n))] [] = some (.p (.lst (accB (a ++ encB n)) (bl (a ++ encB n))), []) := by
  have e4 := encB_len n
  rw [f25_eq]
  simp only [mk_eq, shr_v, kv]
  rw [to32 (by omega), ob_sm]
  simp only [x_leq, ob_sm, asB_b]
  by_cases h1 : n < 128
  · have i1 : (n : Int) ≤ 127 := by omega
    simp only [i1, decide_true, br_t]
    have e : encB n = [UInt8.ofNat n] := by unfold encB; rw [if_pos h1]
    have e2 : [PV.v (.int .u8 ((n % 256 : Nat) : Int))] = bl (encB n) := by
      rw [e, show n % 256 = n by omega]
      simp only [bl, List.map_cons, List.map_nil, u8_toNat (show n < 256 by omega)]
    rw [to8, ob_sm, lit1, ob_sm, e2, xapp_acc (encB_ne n) (by omega), ob_sm]
    rfl
  · have i1 : ¬ (n : Int) ≤ 127 := by omega
    simp only [i1, decide_false, br_f, gcB_nil, f25_r3_eq, mk_eq, shr_v]
    simp only [show callS true EE 28 [.p (.lst (accB a) (bl a)), .p (.v (.int .i32 n))] [] = _ from callS_r [.lst (accB a) (bl a), .v (.int .i32 n)] (rune_val h h1 hl)]
    rfl
end N2
end Go.Proofs.YtbecmoihajlobaaDoor
end

section
set_option linter.unusedSimpArgs false
set_option linter.unusedVariables false
/- Join; the law UnitBack. -/
namespace Go.Proofs.YtbecmoihajlobaaDoor
open Go Go.Abs Go.RowKit

/-- A unit's bytes. -/
def encU (u : Int) : List UInt8 := if strayB u = true then [UInt8.ofNat (u - 1114112).toNat] else encB u.toNat

theorem encU_ne (u : Int) : encU u ≠ [] := by
  unfold encU
  split
  · simp
  · exact encB_ne _
theorem encU_len (u : Int) : (encU u).length ≤ 4 := by
  unfold encU
  split
  · simp
  · exact encB_len _

theorem encU_char {n : Nat} (h : n < 55296 ∨ (57343 < n ∧ n ≤ 1114111)) : encU (n : Int) = encB n := by
  have e : strayB (n : Int) = false := by unfold strayB; exact decide_eq_false (by omega)
  unfold encU
  rw [e]
  simp

theorem encU_stray {a : Nat} (h0 : 128 ≤ a) (h1 : a < 256) : encU (1114112 + (a : Int)) = [UInt8.ofNat a] := by
  have e : strayB (1114112 + (a : Int)) = true := by unfold strayB; exact decide_eq_true (by omega)
  unfold encU
  rw [if_pos e, show (1114112 + (a : Int) - 1114112).toNat = a by omega]

/-- What a unit's bytes are. -/
def Spelt (n : Nat) (x0 x1 x2 x3 : UInt8) (r : Int × Nat) : Prop :=
  (r.2 = 1 ∧ encU r.1 = [x0]) ∨ (r.2 = 2 ∧ 1 < n ∧ encU r.1 = [x0, x1]) ∨ (r.2 = 3 ∧ 2 < n ∧ encU r.1 = [x0, x1, x2]) ∨ (r.2 = 4 ∧ 3 < n ∧ encU r.1 = [x0, x1, x2, x3])

theorem ofNat_toNat (x : UInt8) : UInt8.ofNat x.toNat = x := by simp

theorem spelt_dec (n : Nat) (x0 x1 x2 x3 : UInt8) : Spelt n x0 x1 x2 x3 (strayed x0.toNat (dec n x0.toNat x1.toNat x2.toNat x3.toNat)) := by
  have ha := x0.toNat_lt
  have hb := x1.toNat_lt
  have hc := x2.toNat_lt
  have hd := x3.toNat_lt
  have bad : ∀ _ : ¬ x0.toNat < 128, Spelt n x0 x1 x2 x3 (strayed x0.toNat (65533, 1)) := fun h => by
    rw [strayed_bad]
    exact .inl ⟨rfl, by rw [encU_stray (by omega) ha, ofNat_toNat]⟩
  unfold dec
  refine ite_le (P := fun r => Spelt n x0 x1 x2 x3 (strayed x0.toNat r)) (fun h => ?_) fun h0 => ?_
  · rw [strayed_good (.inr (by omega))]
    exact .inl ⟨rfl, by rw [encU_char (by omega)]; exact (enc_len1 (by omega)).2 ⟨h, rfl⟩⟩
  refine ite_le (P := fun r => Spelt n x0 x1 x2 x3 (strayed x0.toNat r)) (fun h1 => ite_le (P := fun r => Spelt n x0 x1 x2 x3 (strayed x0.toNat r)) (fun h => ?_) fun _ => bad h0) fun _ => ?_
  · rw [strayed_good (.inl (by omega))]
    exact .inr (.inl ⟨rfl, h1.2.1, by rw [encU_char (by omega)]; exact (enc_len2 (by omega)).2 (by omega)⟩)
  refine ite_le (P := fun r => Spelt n x0 x1 x2 x3 (strayed x0.toNat r)) (fun h1 => ite_le (P := fun r => Spelt n x0 x1 x2 x3 (strayed x0.toNat r)) (fun h => ?_) fun _ => bad h0) fun _ => ?_
  · have hv := (valid_iff _).1 h.2
    rw [strayed_good (.inl (by omega))]
    exact .inr (.inr (.inl ⟨rfl, h1.2.2.1, by rw [encU_char (by omega)]; exact (enc_len3 (by omega)).2 (by omega)⟩))
  refine ite_le (P := fun r => Spelt n x0 x1 x2 x3 (strayed x0.toNat r)) (fun h1 => ite_le (P := fun r => Spelt n x0 x1 x2 x3 (strayed x0.toNat r)) (fun h => ?_) fun _ => bad h0) fun _ => bad h0
  · have hv := (valid_iff _).1 h.2
    rw [strayed_good (.inl (by omega))]
    exact .inr (.inr (.inr ⟨rfl, h1.2.2.2.1, by rw [encU_char (by omega)]; exact (enc_len4 (by omega)).2 (by omega)⟩))

theorem enc_U {s : List UInt8} (h : s ≠ []) : encU (U s).1 = s.take (U s).2 := by
  have hs := spelt_dec s.length (s.getD 0 0) (s.getD 1 0) (s.getD 2 0) (s.getD 3 0)
  change Spelt s.length (s.getD 0 0) (s.getD 1 0) (s.getD 2 0) (s.getD 3 0) (U s) at hs
  rcases hs with ⟨h1, h2⟩ | ⟨h1, h0, h2⟩ | ⟨h1, h0, h2⟩ | ⟨h1, h0, h2⟩
  · rw [h1, h2]
    match s, h with
    | x :: r, _ => rfl
  · rw [h1, h2]
    match s, h0 with
    | x :: y :: r, _ => rfl
  · rw [h1, h2]
    match s, h0 with
    | x :: y :: z :: r, _ => rfl
  · rw [h1, h2]
    match s, h0 with
    | x :: y :: z :: v :: r, _ => rfl

theorem units_back : ∀ n (s : List UInt8), s.length ≤ n → (units s).flatMap encU = s ∧ ∀ u ∈ units s, rightB u = true := by
  intro n
  induction n with
  | zero =>
    intro s h
    have : s = [] := List.length_eq_zero_iff.1 (by omega)
    subst this
    exact ⟨rfl, fun u hu => by cases hu⟩
  | succ n ih =>
    intro s h
    by_cases hs : s = []
    · subst hs
      exact ⟨rfl, fun u hu => by cases hu⟩
    · have h0 : 0 < s.length := by cases s with | nil => exact absurd rfl hs | cons x r => simp
      have h1 : 1 ≤ (U s).2 := by
        have := unitAt_size h0
        rw [unitAt_U h0] at this
        exact this
      have hk : rightB (U s).1 = true := by
        have := (kind_right (kind_unit h0).1).1
        rw [unitAt_U h0] at this
        exact this
      obtain ⟨q1, q2⟩ := ih (s.drop (U s).2) (by rw [List.length_drop]; omega)
      rw [units_step hs]
      refine ⟨?_, fun u hu => ?_⟩
      · rw [List.flatMap_cons, q1, enc_U hs, List.take_append_drop]
      · rcases List.mem_cons.1 hu with e | e
        · rw [e]; exact hk
        · exact q2 u e

/-- What Join comes to. -/
def joinR (acc : List UInt8) (l : List Int) : PV :=
  if l.all rightB = true then .tup [.lst .sh (bl (acc ++ l.flatMap encU)), .v (.int .i64 0)] else .tup [.lst .sh [], .v (.int .i64 10)]

namespace N2
theorem join_loop {l : List Int} {o : Abs.Own} (hl : l.length ≤ 100000) (m0 : Nat) : ∀ d i acc, i + d = l.length → acc.length ≤ 4 * i →
    f19_l3 m0 (.p (.lst (accB acc) (bl acc))) (.p (.lst o (il l))) (.p (.v (.int .i64 l.length))) (.p (.v (.int .i64 (i : Nat)))) [] = some (.p (joinR acc (l.drop i)), []) := by
  intro d
  induction d with
  | zero =>
    intro i acc h ha
    have h0 : ¬ (i : Int) < l.length := by omega
    rw [f19_l3_eq]
    simp only [mk_eq, x_lss, ob_sm, asB_b, h0, decide_false, br_f, gcB_nil, f19_r11_eq, iv]
    rw [List.drop_of_length_le (by omega)]
    unfold joinR
    simp only [List.all_nil, if_true, List.flatMap_nil, List.append_nil]
    cases acc <;> rfl
  | succ d ih =>
    intro i acc h ha
    have h0 : (i : Int) < l.length := by omega
    have hi : i < l.length := by omega
    have next : ∀ acc', acc'.length ≤ 4 * (i + 1) → f19_r10 m0 (.p (.lst (accB acc') (bl acc'))) (.p (.lst o (il l))) (.p (.v (.int .i64 l.length))) (.p (.v (.int .i64 (i : Nat)))) [] = some (.p (joinR acc' (l.drop (i + 1))), []) := by
      intro acc' ha'
      rw [f19_r10_eq]
      simp only [mk_eq, x_add, iv, ob_sm, shr_v, gcB_nil]
      rw [wrap_i64 (by omega) (by omega), show (i : Int) + 1 = ((i + 1 : Nat) : Int) by omega]
      exact ih (i + 1) acc' (by omega) ha'
    rw [f19_l3_eq]
    simp only [mk_eq, x_lss, ob_sm, asB_b, h0, decide_true, br_t, gcB_nil]
    rw [f19_r4_eq]
    simp only [mk_eq, xidx_il hi, ob_sm, ldN_one, shr_v, callStray, asB_b]
    have hd : l.drop i = l[i] :: l.drop (i + 1) := List.drop_eq_getElem_cons hi
    rw [hd]
    generalize l[i] = u
    have e4 := encU_len u
    cases hs : strayB u with
    | true =>
      have hs' : 1114240 ≤ u ∧ u ≤ 1114367 := by unfold strayB at hs; exact of_decide_eq_true hs
      have hr : rightB u = true := by unfold rightB; rw [hs, Bool.or_true]
      have e1 : [PV.v (.int .u8 (u - 1114112))] = bl (encU u) := by
        unfold encU
        rw [if_pos hs]
        simp only [bl, List.map_cons, List.map_nil, u8_toNat (show (u - 1114112).toNat < 256 by omega)]
        rw [show ((u - 1114112).toNat : Int) = u - 1114112 by omega]
      rw [br_t]
      simp only [iv, x_sub]
      rw [wrap_i64 (by omega) (by omega), ob_sm, c8 _ (by omega) (by omega), ob_sm, lit1, ob_sm, e1, xapp_acc (encU_ne u) (by omega), ob_sm, gcB_nil, next _ (by simp; omega)]
      unfold joinR
      simp only [List.all_cons, hr, Bool.true_and, List.flatMap_cons, List.append_assoc]
    | false =>
      rw [br_f]
      simp only [callRight, shr_v, asB_b]
      cases hr : rightB u with
      | true =>
        have hc : isC u := by
          unfold rightB at hr
          rw [hs, Bool.or_false] at hr
          exact of_decide_eq_true hr
        unfold isC at hc
        obtain ⟨n, rfl⟩ : ∃ n : Nat, u = n := ⟨u.toNat, by omega⟩
        have hn : n < 55296 ∨ (57343 < n ∧ n ≤ 1114111) := by omega
        have e1 := encU_char hn
        rw [br_t, x_cnv Tryd.underlying3 Tryd.underlying21, wrap_i32 (by omega) (by omega), ob_sm]
        rw [show callS true EE 25 [.p (.lst (accB acc) (bl acc)), .p (.v (.int .i32 (n : Nat)))] [] = _ from callS_r [.lst (accB acc) (bl acc), .v (.int .i32 (n : Nat))] (append_val hn (by omega))]
        rw [← e1]
        simp only [gcB_nil]
        rw [next _ (by simp; omega)]
        unfold joinR
        simp only [List.all_cons, hr, Bool.true_and, List.flatMap_cons, List.append_assoc]
      | false =>
        rw [br_f]
        unfold joinR
        simp only [List.all_cons, hr, Bool.false_and, Bool.false_eq_true, if_false]
        rfl

theorem join_val {l : List Int} (o : Abs.Own) (hl : l.length ≤ 100000) : EE 19 [.p (.lst o (il l))] [] = some (.p (joinR [] l), []) := by
  rw [f19_eq]
  obtain ⟨o2, e2⟩ := shr_lst o (il l)
  simp only [mk_eq, e2, x_len Tryd.underlying27, il_len, ob_sm, iv, gcB_nil]
  have := join_loop (o := o2) hl ([] : List Row).length l.length 0 [] (by omega) (by simp)
  rw [List.drop_zero] at this
  exact this

theorem callJoin {l : List Int} (o : Abs.Own) (hl : l.length ≤ 100000) : callS false EE 19 [.p (.lst o (il l))] [] = fun k => k (.p (joinR [] l)) [] := callS_f [.lst o (il l)] (join_val .sh hl)

theorem back_loop {b : List UInt8} {l : List Int} {o o' : Abs.Own} (hb : b.length ≤ 1000) (hu : l = units b) (m0 : Nat) : ∀ d i, i + d = l.length →
    f7_l7 m0 (.p (.lst .sh (bl b))) (.p (.lst o (il l))) (.p (.lst o' (il l))) (.p (.v (.int .i64 l.length))) (.p (.v (.int .i64 (i : Nat)))) [] = some (.p (.v (.bool true)), []) := by
  have hlen : l.length ≤ b.length := by rw [hu]; exact units_len b
  obtain ⟨back, right⟩ := units_back b.length b (Nat.le_refl _)
  intro d
  induction d with
  | zero =>
    intro i h
    have h0 : ¬ (i : Int) < l.length := by omega
    have hall : l.all rightB = true := by rw [hu]; exact List.all_eq_true.2 right
    have hj : joinR [] l = .tup [.lst .sh (bl b), .v (.int .i64 0)] := by
      unfold joinR
      rw [if_pos hall, hu, back]
      rfl
    obtain ⟨o2, e2⟩ := shr_lst o (il l)
    have hle : (l.length : Int) ≤ b.length := by omega
    rw [f7_l7_eq]
    simp only [mk_eq, x_lss, ob_sm, asB_b, h0, decide_false, br_f, gcB_nil, f7_r12_eq, e2, callJoin o2 (show l.length ≤ 100000 by omega), hj, shr_tup, List.map_cons, List.map_nil, shrP_v, shrP_sh, x_ext0, x_ext1, shr_v, shr_sh, iv, x_eql, beq_self_eq_true, br_t, str_bl, x_seql, x_len Tryd.underlying27, x_len Tryd.underlying22, il_len, bl_len, x_leq, hle, decide_true]
    rfl
  | succ d ih =>
    intro i h
    have h0 : (i : Int) < l.length := by omega
    have hi : i < l.length := by omega
    have hr : rightB l[i] = true := by
      refine right _ ?_
      rw [← hu]
      exact List.getElem_mem hi
    rw [f7_l7_eq]
    simp only [mk_eq, x_lss, ob_sm, asB_b, h0, decide_true, br_t, gcB_nil, f7_r8_eq, xidx_il hi, ldN_one, shr_v, callRight, hr, x_not, Bool.not_true, br_f, f7_r11_eq, iv, x_add]
    rw [wrap_i64 (by omega) (by omega), show (i : Int) + 1 = ((i + 1 : Nat) : Int) by omega]
    exact ih (i + 1) (by omega)

theorem back_val (b : List UInt8) : EE 7 [.p (.lst .sh (bl b))] [] = some (.p (.v (.bool true)), []) := by
  rw [f7_eq]
  simp only [mk_eq, callAnchor, x_not, ob_sm, asB_b, Bool.not_true, br_f, gcB_nil, f7_r3_eq, shr_sh, x_len Tryd.underlying22, bl_len, iv, x_gtr]
  by_cases hl : (1000 : Int) < b.length
  · simp only [hl, decide_true, br_t]
    rfl
  · simp only [hl, decide_false, br_f]
    rw [f7_r5_eq]
    obtain ⟨o1, e1⟩ := shr_lst (accO (units b)) (il (units b))
    obtain ⟨o2, e2⟩ := shr_lst o1 (il (units b))
    simp only [mk_eq, shr_sh, callSplit (show b.length ≤ 1099511627776 by omega), e1, e2, x_len Tryd.underlying27, il_len, ob_sm, gcB_nil, iv]
    exact back_loop (by omega) rfl _ (units b).length 0 (by omega)
end N2
end Go.Proofs.YtbecmoihajlobaaDoor
end
