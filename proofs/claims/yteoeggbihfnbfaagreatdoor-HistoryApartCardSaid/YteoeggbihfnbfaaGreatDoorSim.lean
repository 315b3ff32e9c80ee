/- A typed reading of what the evaluator comes to. No condition. -/
import Derived.Test.YteoeggbihfnbfaaGreatDoorEvD
import Derived.KernelRfl
import Derived.Laws.StructEq
import Derived.Deep.Slices
import Derived.ChangeArms
import Derived.ChangeMaps5
import Derived.ChangeAt
import Derived.WideShapes
import Derived.SizedLaws

set_option linter.unusedSimpArgs false
set_option linter.unusedVariables false
set_option linter.defProp false
section
namespace Go.Abs
open Go
def RRun {R : Type} (Q : R → Res → Prop) (y : Option Res) (r : R) : Prop := ∃ q, y = some q ∧ Q r q
def Sim {R : Type} (Q : R → Res → Prop) (x : Option R) (y : Option Res) : Prop := ∀ r, x = some r → RRun Q y r
noncomputable def pick {R : Type} (p : R → Prop) : Option R := open Classical in if h : ∃ r, p r then some h.choose else none
theorem Z1h {R : Type} {p : R → Prop} {r : R} (h : pick p = some r) : p r := by
 unfold pick at h
 split at h
 ·rename_i hh
  have := hh.choose_spec
  rw [Option.some.inj h] at this
  exact this
 ·simp at h
theorem Z1g {R : Type} {p : R → Prop} (hu : ∀ a b, p a → p b → a = b) {r : R} (h : p r) : pick p = some r := by
 unfold pick
 have hh : ∃ r, p r := ⟨r, h⟩
 rw [dif_pos hh]
 exact congrArg some (hu _ _ hh.choose_spec h)
theorem RRun.uniq {R : Type} {Q : R → Res → Prop} (hu : ∀ r r' q, Q r q → Q r' q → r = r') {y : Option Res} {a b : R} (ha : RRun Q y a) (hb : RRun Q y b) : a = b := by
 obtain ⟨q, e, h⟩ := ha
 obtain ⟨q', e', h'⟩ := hb
 rw [e] at e'
 cases e'
 exact hu _ _ _ h h'
section
variable {R : Type} {Q : R → Res → Prop} {x x' : Option R} {y y' : Option Res}
theorem Sim.none : Sim Q Option.none y := fun _ h => by cases h
theorem Sim.ret {r : R} {q : Res} (h : Q r q) : Sim Q (some r) (some q) := fun _ e => by cases e; exact ⟨q, rfl, h⟩
theorem Sim.cast (h : y = y') (s : Sim Q x y') : Sim Q x y := h ▸ s
theorem Sim.mk (s : Sim Q x y) : Sim Q x (mk y) := s
theorem Sim.lp (s : Sim Q x y) : Sim Q x (lp y) := s
theorem Sim.ob1 {α : Type} {v : α} {z : Option α} {K : α → Option Res} (h : z = some v) (s : Sim Q x (K v)) : Sim Q x (ob z K) := by rw [h]; exact s
theorem Sim.asB {b : Bool} {v : AV} {K : Bool → Option Res} (h : v = .p (.v (.bool b))) (s : Sim Q x (K b)) : Sim Q x (asB v K) := by rw [h]; exact s
theorem Sim.br {b : Bool} {y1 y2 : Option Res} {x1 x2 : Option R} (s1 : b = true → Sim Q x1 y1) (s2 : b = false → Sim Q x2 y2) : Sim Q (if b = true then x1 else x2) (br b y1 y2) := by
 cases b with
 | true => exact s1 rfl
 | false => exact s2 rfl
theorem Sim.grd {b : Bool} (h : b = true) (s : Sim Q x y) : Sim Q x (grd b y) := by rw [h]; exact s
theorem Sim.bind {α : Type} {z : Option α} {k : α → Option R} (s : ∀ a, z = some a → Sim Q (k a) y) : Sim Q (z.bind k) y := by
 intro r h
 cases hz : z with
 | none => rw [hz] at h; simp at h
 | some a => rw [hz] at h; exact s a hz r h
theorem Sim.kv {v : AV} {B2 : List Row} {z : Option Res} {K : AV → List Row → Option Res} (h : z = K v B2) (s : Sim Q x (K v B2)) : Sim Q x z := by rw [h]; exact s
theorem Sim.bx {v : AV} {B B2 : List Row} {a : AV} {K : AV → List Row → Option Res} (h : ∀ K : AV → List Row → Option Res, bx a B K = K v B2) (s : Sim Q x (K v B2)) : Sim Q x (bx a B K) := by rw [h]; exact s
theorem Sim.bz {P : Program} {t : TypeId} {v : AV} {B B2 : List Row} {K : AV → List Row → Option Res} (h : ∀ K : AV → List Row → Option Res, bz P t B K = K v B2) (s : Sim Q x (K v B2)) : Sim Q x (bz P t B K) := by rw [h]; exact s
theorem Sim.ldOwn {a v : AV} {B B2 : List Row} {K : AV → List Row → Option Res} (h : ∀ K : AV → List Row → Option Res, ldOwn a B K = K v B2) (s : Sim Q x (K v B2)) : Sim Q x (ldOwn a B K) := by rw [h]; exact s
theorem Sim.stN {n : Nat} {a v : AV} {B B2 : List Row} {K : List Row → Option Res} (h : ∀ K : List Row → Option Res, stN n a v B K = K B2) (s : Sim Q x (K B2)) : Sim Q x (stN n a v B K) := by rw [h]; exact s
theorem Sim.xmake {P : Program} {t : TypeId} {v : AV} {B B2 : List Row} {K : AV → List Row → Option Res} (h : ∀ K : AV → List Row → Option Res, xmake P t B K = K v B2) (s : Sim Q x (K v B2)) : Sim Q x (xmake P t B K) := by rw [h]; exact s
theorem Sim.xupd {P : Program} {t : TypeId} {m k a : AV} {B B2 : List Row} {K : List Row → Option Res} (h : ∀ K : List Row → Option Res, xupd P t m k a B K = K B2) (s : Sim Q x (K B2)) : Sim Q x (xupd P t m k a B K) := by rw [h]; exact s
theorem Sim.xdel {P : Program} {t : TypeId} {m k : AV} {B B2 : List Row} {K : List Row → Option Res} (h : ∀ K : List Row → Option Res, xdel P t m k B K = K B2) (s : Sim Q x (K B2)) : Sim Q x (xdel P t m k B K) := by rw [h]; exact s
end
def aft (rs : List Nat) (B : List Row) (k : AV → List Row → Option Res) (r : Res) : Option Res :=
 let m := rs.length
  let B' := r.2.take m
  if below m (ptrs r.1) && B'.all (fun row => below m (Z1K row)) then
   let back := fun id => rs.getD id 0
   k (Z2S back r.1) (Z3c B rs (B'.map (Z2w back)))
  else
   let n := B.length
   let back := fun id => if id < m then rs.getD id 0 else n + (id - m)
   k (Z2S back r.1) (Z3c B rs (B'.map (Z2w back)) ++ (r.2.drop m).map (Z2w back))
theorem Sim.callS {R : Type} {Q : R → Res → Prop} {x : Option R} {raw : Bool} {G : GF} {g : FuncId} {args : List AV} {B B2 : List Row} {K : AV → List Row → Option Res} {rs : List Nat} {y : Option Res} {q : Res} {v : AV}
  (hc : ∀ K : AV → List Row → Option Res, callS raw G g args B K = ob y (aft rs B K)) (e : y = some q) (ha : ∀ K : AV → List Row → Option Res, aft rs B K q = K v B2) (s : Sim Q x (K v B2)) : Sim Q x (callS raw G g args B K) := by
 rw [hc, e]
 show Sim Q x (aft rs B K q)
 rw [ha]
 exact s
theorem Sim.callV {R : Type} {Q : R → Res → Prop} {x : Option R} {H : Hints} {G : GF} {g : AV} {args : List AV} {B B2 : List Row} {K : AV → List Row → Option Res} {rs : List Nat} {y : Option Res} {q : Res} {v : AV}
  (hc : ∀ K : AV → List Row → Option Res, callV H G g args B K = ob y (aft rs B K)) (e : y = some q) (ha : ∀ K : AV → List Row → Option Res, aft rs B K q = K v B2) (s : Sim Q x (K v B2)) : Sim Q x (callV H G g args B K) := by
 rw [hc, e]
 show Sim Q x (aft rs B K q)
 rw [ha]
 exact s
section
variable {R : Type} {Q : R → Res → Prop} {x x' : Option R} {y y' : Option Res}
theorem ze (s : Sim Q x y) : Sim Q x (mk y) := s
theorem zo (v : AV) {z : Option AV} {K : AV → Option Res} (s : Sim Q x (K v)) (h : z = some v := by kernel_rfl) : Sim Q x (ob z K) := Sim.ob1 h s
theorem zp (v : AV) {z : Option AV} {K : AV → Option Res} (h : z = some v) (s : Sim Q x (K v)) : Sim Q x (ob z K) := Sim.ob1 h s
def the (z : Option AV) : AV := match z with | some v => v | none => .p .junk
theorem zq {z : Option AV} {K : AV → Option Res} (s : Sim Q x (K (the z))) (h : z = some (the z) := by kernel_rfl) : Sim Q x (ob z K) := Sim.ob1 h s
theorem za (b : Bool) {v : AV} {x1 x2 : Option R} {y1 y2 : Option Res} (s1 : Sim Q x1 y1) (s2 : Sim Q x2 y2) (h : v = .p (.v (.bool b)) := by kernel_rfl) : Sim Q (if b = true then x1 else x2) (asB v fun t => br t y1 y2) :=
 Sim.asB h (Sim.br (fun _ => s1) (fun _ => s2))
theorem zg {b : Bool} (s : Sim Q x y) (h : b = true := by kernel_rfl) : Sim Q x (grd b y) := Sim.grd h s
theorem zx (v : AV) (B2 : List Row) {B : List Row} {a : AV} {K : AV → List Row → Option Res} (s : Sim Q x (K v B2)) (h : (fun K : AV → List Row → Option Res => bx a B K) = fun K => K v B2 := by kernel_rfl) : Sim Q x (bx a B K) := Sim.bx (fun K => congrFun h K) s
theorem zz (v : AV) (B2 : List Row) {P : Program} {t : TypeId} {B : List Row} {K : AV → List Row → Option Res} (s : Sim Q x (K v B2)) (h : (fun K : AV → List Row → Option Res => bz P t B K) = fun K => K v B2 := by kernel_rfl) : Sim Q x (bz P t B K) := Sim.bz (fun K => congrFun h K) s
theorem zw (v : AV) (B2 : List Row) {a : AV} {B : List Row} {K : AV → List Row → Option Res} (s : Sim Q x (K v B2)) (h : (fun K : AV → List Row → Option Res => ldOwn a B K) = fun K => K v B2 := by kernel_rfl) : Sim Q x (ldOwn a B K) := Sim.ldOwn (fun K => congrFun h K) s
theorem zt (B2 : List Row) {n : Nat} {a v : AV} {B : List Row} {K : List Row → Option Res} (s : Sim Q x (K B2)) (h : (fun K : List Row → Option Res => stN n a v B K) = fun K => K B2 := by kernel_rfl) : Sim Q x (stN n a v B K) := Sim.stN (fun K => congrFun h K) s
theorem zm (v : AV) (B2 : List Row) {P : Program} {t : TypeId} {B : List Row} {K : AV → List Row → Option Res} (s : Sim Q x (K v B2)) (h : (fun K : AV → List Row → Option Res => xmake P t B K) = fun K => K v B2 := by kernel_rfl) : Sim Q x (xmake P t B K) := Sim.xmake (fun K => congrFun h K) s
theorem zc (rs : List Nat) (v : AV) (B2 : List Row) {raw : Bool} {G : GF} {g : FuncId} {args : List AV} {B : List Row} {K : AV → List Row → Option Res} {z : Option Res} {q : Res} (e : z = some q) (s : Sim Q x (K v B2))
  (hc : (fun K : AV → List Row → Option Res => callS raw G g args B K) = fun K => ob z (aft rs B K) := by kernel_rfl) (ha : (fun K : AV → List Row → Option Res => aft rs B K q) = fun K => K v B2 := by kernel_rfl) : Sim Q x (callS raw G g args B K) :=
 Sim.callS (fun K => congrFun hc K) e (fun K => congrFun ha K) s
theorem zv (rs : List Nat) (v : AV) (B2 : List Row) {H : Hints} {G : GF} {g : AV} {args : List AV} {B : List Row} {K : AV → List Row → Option Res} {z : Option Res} {q : Res} (e : z = some q) (s : Sim Q x (K v B2))
  (hc : (fun K : AV → List Row → Option Res => callV H G g args B K) = fun K => ob z (aft rs B K) := by kernel_rfl) (ha : (fun K : AV → List Row → Option Res => aft rs B K q) = fun K => K v B2 := by kernel_rfl) : Sim Q x (callV H G g args B K) :=
 Sim.callV (fun K => congrFun hc K) e (fun K => congrFun ha K) s
theorem zi {α : Type} {z : Option α} {k : α → Option R} (s : ∀ a, z = some a → Sim Q (k a) y) : Sim Q (z.bind k) y := Sim.bind s
theorem zk (s : Sim Q x y') (h : y = y' := by kernel_rfl) : Sim Q x y := Sim.cast h s
theorem zf (h : y = y') (s : Sim Q x y') : Sim Q x y := Sim.cast h s
theorem zr (q : Res) {r : R} (h : Q r q) (e : y = some q := by kernel_rfl) : Sim Q (some r) y := Sim.cast e (Sim.ret h)
end
def eI (k : IntKind) (n : Int) : PV := .v (.int k n)
def eB (b : Bool) : PV := .v (.bool b)
def eS (s : ByteArray) : PV := .v (.string s)
def eL {α : Type} (e : α → PV) (l : List α) : PV := .lst .sh (l.map e)
def pI : PV → Int | .v (.int _ n) => n | _ => 0
def pB : PV → Bool | .v (.bool b) => b | _ => false
def pS : PV → ByteArray | .v (.string b) => b | _ => default
def pL : PV → List PV | .lst _ l => l | _ => []
def pC : PV → List PV | .agg l => l | _ => []
def pT : PV → List PV | .tup l => l | _ => []
def pA : AV → PV | .p x => x | _ => .junk
def pM : AV → List (Int × PV) | .md l => l | _ => []
def cellAt (q : Res) (i j : Nat) : AV := (q.2.getD i []).getD j jk
theorem Z5j {α β : Type} {e : α → β} (h : ∀ a b, e a = e b → a = b) : ∀ {l l' : List α}, l.map e = l'.map e → l = l'
 | [], [], _ => rfl
 | [], _ :: _, h' => by simp at h'
 | _ :: _, [], h' => by simp at h'
 | a :: l, b :: l', h' => by
  simp only [Z8x, Zqh] at h'
  rw [h a b h'.1, Z5j h h'.2]
theorem Z4g {k : IntKind} (a b : Int) (h : eI k a = eI k b) : a = b := congrArg pI h
theorem ZqW (a b : Bool) (h : eB a = eB b) : a = b := congrArg pB h
theorem ZFJ (a b : ByteArray) (h : eS a = eS b) : a = b := congrArg pS h
theorem ZuL {α : Type} {e : α → PV} (hi : ∀ a b, e a = e b → a = b) (a b : List α) (h : eL e a = eL e b) : a = b := Z5j hi (congrArg pL h)
def lget {α : Type} (l : List α) (i : Int) : Option α := if 0 ≤ i then l[i.toNat]? else none
def lapp {α : Type} (l r : List α) : Option (List α) := if l.length + r.length ≤ lim then some (l ++ r) else none
def lsl {α : Type} (l : List α) (lo hi : Int) : Option (List α) := if 0 ≤ lo ∧ lo ≤ hi ∧ hi ≤ l.length then some ((l.take hi.toNat).drop lo.toNat) else none
def slO : Own → Own
 | .nl => .nl
 | _ => .sh
def seq (x y : ByteArray) : Bool := x.toList == y.toList
def Z56 (s : ByteArray) : List Int := s.data.toList.map fun b => (b.toNat : Int)
def strI (l : List Int) : ByteArray := ⟨(l.map fun n => UInt8.ofNat n.toNat).toArray⟩
def encM {α : Type} (e : α → PV) (q : Int × α) : Int × PV := (q.1, e q.2)
def getM {α : Type} : List (Int × α) → Int → Option α
 | [], _ => none
 | q :: r, n => if q.1 = n then some q.2 else getM r n
def putM {α : Type} : List (Int × α) → Int → α → List (Int × α)
 | [], n, y => [(n, y)]
 | q :: r, n, y => if q.1 = n then (n, y) :: r else q :: putM r n y
def delM {α : Type} : List (Int × α) → Int → List (Int × α)
 | [], _ => []
 | q :: r, n => if q.1 = n then r else q :: delM r n
theorem ZiW {α : Type} {e : α → PV} (hi : ∀ a b, e a = e b → a = b) (a b : Int × α) (h : encM e a = encM e b) : a = b :=
 Z3J (show a.1 = b.1 from congrArg (fun q : Int × PV => q.1) h) (hi _ _ (congrArg (fun q : Int × PV => q.2) h))
theorem ZAi {α : Type} (e : α → PV) : ∀ (es : List (Int × α)) (n : Int), getE (es.map (encM e)) n = (getM es n).map e
 | [], _ => rfl
 | q :: r, n => by
  simp only [Z8x, getE, getM, encM]
  split
  ·rfl
  ·exact ZAi e r n
theorem ZAD {α : Type} (e : α → PV) (y : α) : ∀ (es : List (Int × α)) (n : Int), putE (es.map (encM e)) n (e y) = (putM es n y).map (encM e)
 | [], _ => rfl
 | q :: r, n => by
  simp only [Z8x, putE, putM, encM]
  split
  ·rfl
  ·rw [Z8x, ← ZAD e y r n]; rfl
theorem Zz3 {α : Type} (e : α → PV) : ∀ (es : List (Int × α)) (n : Int), delE (es.map (encM e)) n = (delM es n).map (encM e)
 | [], _ => rfl
 | q :: r, n => by
  simp only [Z8x, delE, delM, encM]
  split
  ·rfl
  ·rw [Z8x, ← Zz3 e r n]; rfl
theorem Z45 {α : Type} {e : α → PV} {cs : α → List PV} {n : Nat} (hn : ∀ a, Z2n (e a) = cs a) (hl : ∀ a, (cs a).length = n) (h0 : 0 < n) {l : List α} {i : Int} {a : α} {o : Own} {k : IntKind} (h : lget l i = some a) :
  xidx n (.p (.lst o (l.map e))) (.p (.v (.int k i))) = some (.cptr (cs a)) := by
 unfold lget at h
 split at h
 ·rename_i hi
  have : (Z2n (e a)).length = n := by rw [hn, hl]
  simp only [xidx, asInt, if_pos hi, q5_, h, Za6]
  rw [if_pos (by simp [this, h0]), hn]
 ·simp at h
theorem ZBd {α : Type} {e : α → PV} {n : Nat} (hn : ∀ a, (Z2n (e a)).length = n) (l : List α) : szOk n (l.map e) = true := by
 unfold szOk
 simp [Za5, hn]
theorem Zhr {α : Type} {e : α → PV} {n : Nat} (hn : ∀ a, (Z2n (e a)).length = n) (h0 : 0 < n) {xs ys zs : List α} {o o' : Own} (ho : ZW o = true) (h : lapp xs ys = some zs) :
  xapp n (.p (.lst o (xs.map e))) (.p (.lst o' (ys.map e))) = some (.p (.lst (apo o (ys.map e)) (zs.map e))) := by
 unfold lapp at h
 split at h
 ·rename_i hl
  cases h
  simp only [xapp, Zs7, Z3p]
  rw [if_pos (by simp [ho, ZBd hn, h0, hl]), List.map_append]
 ·simp at h
theorem ZD1 (s : ByteArray) : Zad s = (Z56 s).map (eI .u8) := by
 unfold Zad Z56
 rw [Zqi]
 rfl
theorem ZHT {α : Type} {e : α → PV} {n : Nat} (hn : ∀ a, (Z2n (e a)).length = n) (h0 : 0 < n) {l r : List α} {lo hi : Option AV} {a b : Int} {o : Own} (ha : optI 0 lo = some a) (hb : optI l.length hi = some b) (h : lsl l a b = some r) :
  xsl n (.p (.lst o (l.map e))) lo hi none = some (.p (.lst (slO o) (r.map e))) := by
 unfold lsl at h
 split at h
 ·rename_i hc
  cases h
  have hlen : (l.map e).length = l.length := by simp
  simp only [xsl, hlen, ha, hb, Z3p]
  rw [if_pos ⟨hc.1, hc.2.1, hc.2.2, ZBd hn l, h0⟩]
  simp only [List.map_drop, List.map_take]
  cases o <;> rfl
 ·simp at h
theorem Z32 {α : Type} {P : Program} {t : TypeId} {d : TypeId} (h : P.underlying t = some (.slice d)) (e : α → PV) (o : Own) (l : List α) : xlen P t (.p (.lst o (l.map e))) = some (.p (.v (.int .i64 l.length))) := by
 rw [ZNt h, Zdr]
theorem Zte : ∀ (l : List Int), bytesOf (l.map (eI .u8)) = some (l.map fun n => UInt8.ofNat n.toNat)
 | [] => rfl
 | n :: r => by simp [bytesOf, byteOf, eI, Zte r]
theorem ZLt (o : Own) (l : List Int) : xstr (.p (.lst o (l.map (eI .u8)))) = some (.p (.v (.string (strI l)))) := by
 simp only [xstr, Zte, Za6]
 rfl
theorem ZLq (s : ByteArray) : xbyt (.p (.v (.string s))) = some (.p (.lst .sh ((Z56 s).map (eI .u8)))) := by
 simp only [xbyt, ZD1]
theorem ZJ2 {P : Program} {s d : TypeId} (h : (Zfa P d && Z9Q P s .u8) = true) (o : Own) (l : List Int) : xcnv P s d (.p (.lst o (l.map (eI .u8)))) = some (.p (.v (.string (strI l)))) := by
 unfold xcnv; rw [if_pos h]; exact ZLt o l
theorem ZJ1 {P : Program} {s d : TypeId} (h0 : (Zfa P d && Z9Q P s .u8) = false) (h : (Zfa P s && Z9Q P d .u8) = true) (x : ByteArray) : xcnv P s d (.p (.v (.string x))) = some (.p (.lst .sh ((Z56 x).map (eI .u8)))) := by
 unfold xcnv; rw [if_neg (by simp [h0]), if_pos h]; exact ZLq x
theorem ZJ3 {α : Type} {e : α → PV} {es : List (Int × α)} {id : Nat} {B : List Row} (h : B[id]? = some [.md (es.map (encM e))]) : Zqs (.mp id) B = some (.p (.v (.int .i64 es.length))) := by
 unfold Zqs Zfb
 simp only [h, Z3p, mdOf, Zdr]
theorem Zma {α : Type} {e : α → PV} {z : α} {es : List (Int × α)} {id : Nat} {B : List Row} {P : Program} {t te : TypeId} {n : Int} (hm : mapE P t = some te) (h : B[id]? = some [.md (es.map (encM e))])
  (hz : ((P.info? te).bind (·.zero)).bind Z9E = some (.p (e z))) (c : Bool) :
  ZbZ P t c (.mp id) (.p (.v (.int .i64 n))) B = some (.p (if c = true then .tup [e ((getM es n).getD z), .v (.bool (getM es n).isSome)] else e ((getM es n).getD z))) := by
 unfold ZbZ Zfb
 simp only [hm, h, Z3p, mdOf, asK, ZAi]
 cases hg : getM es n with
 | some y => simp
 | none =>
  obtain ⟨zv, h1, h2⟩ := ZAG.1 hz
  simp [h1, h2, Z3p, ZeD]
theorem ZsV {α : Type} {e : α → PV} {a : α} {es : List (Int × α)} {id : Nat} {B B2 : List Row} {P : Program} {t te : TypeId} {n : Int} {y : PV} {K : List Row → Option Res} (hm : mapE P t = some te) (h : B[id]? = some [.md (es.map (encM e))])
  (hy : nrm y = e a) (hp : Z7k (.p y) = false) (hB : B.set id [.md ((putM es n a).map (encM e))] = B2) : xupd P t (.mp id) (.p (.v (.int .i64 n))) (.p y) B K = K B2 := by
 unfold xupd Zfb
 simp only [hm, h, Z3p, mdOf, asK, ZeD, hp, hy, ZAD, hB]
 rfl
theorem ZLr {α : Type} {e : α → PV} {es : List (Int × α)} {id : Nat} {B B2 : List Row} {P : Program} {t te : TypeId} {n : Int} {K : List Row → Option Res} (hm : mapE P t = some te) (h : B[id]? = some [.md (es.map (encM e))])
  (hB : B.set id [.md ((delM es n).map (encM e))] = B2) : xdel P t (.mp id) (.p (.v (.int .i64 n))) B K = K B2 := by
 unfold xdel Zfb
 simp only [hm, h, Z3p, mdOf, asK, Zz3, hB]
def nilO {α : Type} (o : Own) (l : List α) : Option Bool :=
 match o with
 | .nl => some true
 | .ex | .un => some false
 | .sh => match l with
  | [] => none
  | _ :: _ => some false
theorem ZIo {α : Type} {e : α → PV} {o : Own} {l : List α} {b : Bool} (h : nilO o l = some b) : Zgm (.p (.lst o (l.map e))) = some b := by
 cases o <;> cases l <;> simp_all [nilO, Zgm]
theorem Zqt {α : Type} {P : Program} {t : TypeId} {c : Value} {e : α → PV} {o : Own} {l : List α} {b : Bool} (hk : ZoD P t c (.p (.lst o (l.map e))) = true) (h : nilO o l = some b) : xnil P .neq t c (.p (.lst o (l.map e))) = some (.p (.v (.bool (!b)))) := by
 unfold xnil; rw [if_pos hk, ZIo h]; rfl
end Go.Abs
end
section
namespace Go.Abs
open Go
theorem Z7L {α β : Type} (P : Program) (s : Sem α) (k : α → Sem β) : Z2t P (s >>= k) = (Z2t P s).bind fun a => Z2t P (k a) := by
 show Z2t P (Sem.bind s k) = _
 induction s with
 | pure x => simp [Sem.bind, Z2t]
 | program c ih => simp only [Sem.bind, Z2t]; exact ih P
 | _ => simp [Sem.bind, Z2t]
theorem Z5K {α : Type} (P : Program) (a : α) : Z2t P (pure a : Sem α) = some a := rfl
theorem Zld (P : Program) : Z2t P program = some P := rfl
theorem ZbD {P : Program} {t : TypeId} {d : TypeDesc} (h : P.underlying t = some d) : Z2t P (underlying t) = some d := by
 simp [underlying, Z7L, Zld, h, Z5K]
theorem ZoO {α : Type} (P : Program) (c : Prop) [Decidable c] (a b : Sem α) : Z2t P (if c then a else b) = if c then Z2t P a else Z2t P b := by split <;> rfl
theorem ZrO (P : Program) (d : Nat) (t : TypeId) (xs ys : Array Value) (ht : P.underlying t = some (.struct (P.fieldsOf t))) (hp' : P.stoodInHeld t = false) :
  Z2t P (Op.equalIn (d + 1) t (.agg xs) (.agg ys)) = Z2t P (Op.eqFields d xs ys (P.fieldsOf t).toList) := by
 simp only [Op.equalIn, Z7L, ZbD ht, q0_, Zld, hp', Zew, if_false, Z5K, ZoO]
 rw [← Array.forIn_toList]
 generalize (P.fieldsOf t).toList = fs
 clear ht
 induction fs with
 | nil => simp [Op.eqFields, Z5K]
 | cons f fs ih =>
  simp only [List.forIn_cons, Op.eqFields, Z7L, ZoO]
  split
  ·cases Z2t P (part f.type xs f.offset) with
   | none => rfl
   | some a =>
    simp only [q0_]
    cases Z2t P (part f.type ys f.offset) with
    | none => rfl
    | some b =>
     simp only [q0_]
     cases Z2t P (Op.equalIn d f.type a b) with
     | none => rfl
     | some r =>
      cases r
      ·simp [Z5K]
      ·simp only [q0_, Znt, Zew, if_false, Z5K]
       exact ih
  ·simp only [Z5K, q0_]
   exact ih
theorem ZIL {P : Program} {d : Nat} {t : TypeId} {k k' : IntKind} (a b : Int) (h : P.underlying t = some (.int k')) : Z2t P (Op.equalIn (d + 1) t (.int k a) (.int k b)) = some (a == b) := by
 simp [Op.equalIn, Z7L, ZbD h, Z5K]
theorem ZHD {P : Program} {d : Nat} {t : TypeId} (a b : Bool) (h : P.underlying t = some .bool) : Z2t P (Op.equalIn (d + 1) t (.bool a) (.bool b)) = some (a == b) := by
 simp [Op.equalIn, Z7L, ZbD h, Z5K]
theorem ZIM {P : Program} {d : Nat} {t : TypeId} (a b : ByteArray) (h : P.underlying t = some .string) : Z2t P (Op.equalIn (d + 1) t (.string a) (.string b)) = some (seq a b) := by
 simp [Op.equalIn, Z7L, ZbD h, Z5K, beq_toListBytes, seq]
def eqC : PV → PV → Bool
 | .v (.int _ a), .v (.int _ b) => a == b
 | .v (.bool a), .v (.bool b) => a == b
 | .v (.string a), .v (.string b) => seq a b
 | _, _ => true
def okC (P : Program) (t : TypeId) (x y : PV) : Bool :=
 match P.underlying t, x, y with
 | some (.int _), .v (.int k _), .v (.int k' _) => k == k'
 | some .bool, .v (.bool _), .v (.bool _) => true
 | some .string, .v (.string _), .v (.string _) => true
 | _, _, _ => false
def eqCs : List PV → List PV → Bool
 | x :: xs, y :: ys => eqC x y && eqCs xs ys
 | _, _ => true
def okFs (P : Program) : Nat → List Field → List PV → List PV → Bool
 | i, f :: fs, x :: xs, y :: ys => f.name != "_" && f.offset == i && okC P f.type x y && okFs P (i + 1) fs xs ys
 | _, [], [], [] => true
 | _, _, _, _ => false
theorem ZHC {P : Program} {d : Nat} {t : TypeId} {x y : PV} {a b : Value} (h : okC P t x y = true) (hx : ZbY x = some a) (hy : ZbY y = some b) : Z2t P (Op.equalIn (d + 1) t a b) = some (eqC x y) := by
 unfold okC at h
 split at h <;> simp only [ZbY, q1_] at hx hy
 ·subst hx; subst hy
  have e := beq_iff_eq.1 h
  subst e
  exact ZIL _ _ ‹_›
 ·subst hx; subst hy; exact ZHD _ _ ‹_›
 ·subst hx; subst hy; exact ZIM _ _ ‹_›
 ·simp at h
theorem ZsR {P : Program} {t : TypeId} {xs : Array Value} {i : Nat} {v : Value} (ha : Z2t P (isAgg t) = some false) (h : xs[i]? = some v) : Z2t P (part t xs i) = some v := by
 unfold part
 simp [Z7L, ha, h, ZoO, Z5K]
theorem Zgo : ∀ {l : List PV} {vs : List Value}, Z3x l = some vs → ∀ (i : Nat) (x : PV), l[i]? = some x → ∃ v, ZbY x = some v ∧ vs[i]? = some v
 | [], _, _, i, x, h => by simp at h
 | p :: r, vs, h, i, x, hx => by
  simp only [Z3x] at h
  split at h
  ·rename_i a b ha hb
   cases h
   cases i with
   | zero => simp at hx; subst hx; exact ⟨a, ha, rfl⟩
   | succ i => simpa using Zgo hb i x (by simpa using hx)
  ·simp at h
theorem ZsO {P : Program} {t : TypeId} {x y : PV} (h : okC P t x y = true) : Z2t P (isAgg t) = some false := by
 unfold okC at h
 split at h <;> first | (simp [isAgg, Z7L, ZbD ‹_›, Z5K]) | (simp at h)
theorem ZyB {P : Program} {d : Nat} {xs ys : List PV} {us vs : List Value} (hx : Z3x xs = some us) (hy : Z3x ys = some vs) : ∀ (fs : List Field) (i : Nat), okFs P i fs (xs.drop i) (ys.drop i) = true →
  Z2t P (Op.eqFields (d + 1) us.toArray vs.toArray fs) = some (eqCs (xs.drop i) (ys.drop i)) := by
 intro fs
 induction fs with
 | nil =>
  intro i h
  cases hxi : xs.drop i <;> cases hyi : ys.drop i <;> rw [hxi, hyi] at h <;> simp_all [okFs, Op.eqFields, eqCs, Z5K]
 | cons f fs ih =>
  intro i h
  cases hxi : xs.drop i with
  | nil => rw [hxi] at h; simp [okFs] at h
  | cons x xr =>
   cases hyi : ys.drop i with
   | nil => rw [hxi, hyi] at h; simp [okFs] at h
   | cons y yr =>
    rw [hxi, hyi] at h
    simp only [okFs, q6_, bne_iff_ne, beq_iff_eq, ne_eq] at h
    obtain ⟨⟨⟨h1, h2⟩, h3⟩, h4⟩ := h
    have gx : xs[i]? = some x := by rw [← List.head?_drop, hxi]; rfl
    have gy : ys[i]? = some y := by rw [← List.head?_drop, hyi]; rfl
    have dx : xs.drop (i + 1) = xr := by rw [← List.tail_drop, hxi]; rfl
    have dy : ys.drop (i + 1) = yr := by rw [← List.tail_drop, hyi]; rfl
    obtain ⟨a, ha, hau⟩ := Zgo hx i x gx
    obtain ⟨b, hb, hbv⟩ := Zgo hy i y gy
    have ih' := ih (i + 1) (by rw [dx, dy]; exact h4)
    rw [dx, dy] at ih'
    simp only [Op.eqFields, ZoO, Z7L]
    rw [if_pos h1, h2, ZsR (ZsO h3) (by simpa using hau), ZsR (ZsO h3) (by simpa using hbv)]
    simp only [q0_, ZHC h3 ha hb, ih', eqCs]
    cases eqC x y <;> simp [Z5K]
theorem ZAA {P : Program} {op : BinOp} {t : TypeId} {x y : Operand} {xs ys : Array Value} (h : P.eqGuardType P.depth t = false) : Z2t P (eqGuard op t x y (.agg xs) (.agg ys)) = some () := by
 cases op <;> simp [eqGuard, Z7L, Zld, h, Z5K, ZoO]
theorem ZkF {P : Program} : ∀ {fs : List Field} {i : Nat} {xs ys : List PV}, okFs P i fs xs ys = true → (∃ us, Z3x xs = some us) ∧ ∃ vs, Z3x ys = some vs
 | [], i, [], [], _ => ⟨⟨[], rfl⟩, [], rfl⟩
 | [], i, [], _ :: _, h => by simp [okFs] at h
 | [], i, _ :: _, _, h => by simp [okFs] at h
 | f :: fs, i, [], _, h => by simp [okFs] at h
 | f :: fs, i, _ :: _, [], h => by simp [okFs] at h
 | f :: fs, i, x :: xs, y :: ys, h => by
  simp only [okFs, q6_] at h
  obtain ⟨⟨us, hu⟩, vs, hv⟩ := ZkF h.2
  have hc := h.1.2
  unfold okC at hc
  split at hc <;> first | (simp at hc; done) | (simp only [Z3x, ZbY, hu, hv]; exact ⟨⟨_, rfl⟩, _, rfl⟩)
def Z8u (P : Program) (t : TypeId) : Nat := match P.info? t with | some i => i.size | none => 0
def okGs (P : Program) : Nat → List Field → List PV → List PV → Bool
 | i, f :: fs, x :: xs, y :: ys => f.name != "_" && f.offset == i &&
  ((okC P f.type x y && okGs P (i + 1) fs xs ys) ||
   ((match P.underlying f.type with | some (.struct _) => true | _ => false) && decide (0 < Z8u P f.type) && decide (((x :: xs).take (Z8u P f.type)).length = Z8u P f.type) && decide (((y :: ys).take (Z8u P f.type)).length = Z8u P f.type) &&
    okFs P 0 (P.fieldsOf f.type).toList ((x :: xs).take (Z8u P f.type)) ((y :: ys).take (Z8u P f.type)) && !P.stoodInHeld f.type && okGs P (i + Z8u P f.type) fs ((x :: xs).drop (Z8u P f.type)) ((y :: ys).drop (Z8u P f.type))))
 | _, [], [], [] => true
 | _, _, _, _ => false
theorem ZuM : ∀ (k : Nat) (xs ys : List PV), (xs.take k).length = k → (ys.take k).length = k → eqCs xs ys = (eqCs (xs.take k) (ys.take k) && eqCs (xs.drop k) (ys.drop k))
 | 0, xs, ys, _, _ => by simp [eqCs]
 | k + 1, [], _, h, _ => by simp at h
 | k + 1, _ :: _, [], _, h => by simp at h
 | k + 1, x :: xs, y :: ys, h, h' => by
  have := ZuM k xs ys (by simpa using h) (by simpa using h')
  simp only [List.take_succ_cons, List.drop_succ_cons, eqCs, this, Bool.and_assoc]
theorem Zm9 : ∀ {l : List PV} {vs : List Value} (k : Nat), Z3x l = some vs → Z3x (l.take k) = some (vs.take k)
 | [], vs, k, h => by simp only [Z3x, q1_] at h; subst h; simp [Z3x]
 | p :: r, vs, 0, h => by simp [Z3x]
 | p :: r, vs, k + 1, h => by
  simp only [Z3x] at h
  split at h
  ·rename_i a b ha hb
   cases h
   simp only [List.take_succ_cons, Z3x, ha, Zm9 k hb]
  ·simp at h
theorem Zm8 : ∀ {l : List PV} {vs : List Value} (k : Nat), Z3x l = some vs → Z3x (l.drop k) = some (vs.drop k)
 | [], vs, k, h => by simp only [Z3x, q1_] at h; subst h; simp [Z3x]
 | p :: r, vs, 0, h => by simpa using h
 | p :: r, vs, k + 1, h => by
  simp only [Z3x] at h
  split at h
  ·rename_i a b ha hb
   cases h
   simpa using Zm8 k hb
  ·simp at h
theorem Zny : ∀ {a b : List PV} {us vs : List Value}, Z3x a = some us → Z3x b = some vs → Z3x (a ++ b) = some (us ++ vs)
 | [], b, us, vs, h, h' => by simp only [Z3x, q1_] at h; subst h; simpa using h'
 | p :: r, b, us, vs, h, h' => by
  simp only [Z3x] at h
  split at h
  ·rename_i x y hx hy
   cases h
   simp only [Zup, Z3x, hx, Zny hy h']
  ·simp at h
theorem Zjx {P : Program} : ∀ {fs : List Field} {i : Nat} {xs ys : List PV}, okGs P i fs xs ys = true → (∃ us, Z3x xs = some us) ∧ ∃ vs, Z3x ys = some vs
 | [], i, [], [], _ => ⟨⟨[], rfl⟩, [], rfl⟩
 | [], i, [], _ :: _, h => by simp [okGs] at h
 | [], i, _ :: _, _, h => by simp [okGs] at h
 | f :: fs, i, [], _, h => by simp [okGs] at h
 | f :: fs, i, _ :: _, [], h => by simp [okGs] at h
 | f :: fs, i, x :: xs, y :: ys, h => by
  rw [okGs, q6_, ZkC] at h
  rcases h.2 with h2 | h2
  ·rw [q6_] at h2
   obtain ⟨⟨us, hu⟩, vs, hv⟩ := Zjx h2.2
   have hc := h2.1
   unfold okC at hc
   split at hc <;> first | (simp at hc; done) | (simp only [Z3x, ZbY, hu, hv]; exact ⟨⟨_, rfl⟩, _, rfl⟩)
  ·simp only [q6_] at h2
   obtain ⟨⟨⟨_, hk⟩, _⟩, hr⟩ := h2
   obtain ⟨⟨us, hu⟩, vs, hv⟩ := ZkF hk
   obtain ⟨⟨us', hu'⟩, vs', hv'⟩ := Zjx hr
   refine ⟨⟨us ++ us', ?_⟩, vs ++ vs', ?_⟩
   ·have := Zny hu hu'
    rwa [ZyS] at this
   ·have := Zny hv hv'
    rwa [ZyS] at this
theorem ZAB {P : Program} {t : TypeId} {fs : Array Field} {vs : List Value} {i : Nat} (ht : P.underlying t = some (.struct fs)) (h0 : 0 < Z8u P t) : Z2t P (part t vs.toArray i) = some (.agg ((vs.drop i).take (Z8u P t)).toArray) := by
 have ha : Z2t P (isAgg t) = some true := by simp [isAgg, Z7L, ZbD ht, Z5K]
 have hs : Z2t P (Go.sizeOf t) = some (Z8u P t) := by
  unfold Go.sizeOf typeInfo
  unfold Z8u at h0 ⊢
  cases hi : P.info? t with
  | none => rw [hi] at h0; simp at h0
  | some inf => simp [Z7L, Zld, hi, Z5K]
 unfold part
 simp only [Z7L, ha, q0_, if_true, hs, Z5K, q1_, Value.agg.injEq]
 apply ZvZ.1
 simp [List.extract, List.take_drop]
theorem ZFb {P : Program} {d : Nat} {xs ys : List PV} {us vs : List Value} (hx : Z3x xs = some us) (hy : Z3x ys = some vs) : ∀ (fs : List Field) (i : Nat), okGs P i fs (xs.drop i) (ys.drop i) = true →
  Z2t P (Op.eqFields (d + 2) us.toArray vs.toArray fs) = some (eqCs (xs.drop i) (ys.drop i)) := by
 intro fs
 induction fs with
 | nil =>
  intro i h
  cases hxi : xs.drop i <;> cases hyi : ys.drop i <;> rw [hxi, hyi] at h <;> simp_all [okGs, Op.eqFields, eqCs, Z5K]
 | cons f fs ih =>
  intro i h
  cases hxi : xs.drop i with
  | nil => rw [hxi] at h; simp [okGs] at h
  | cons x xr =>
   cases hyi : ys.drop i with
   | nil => rw [hxi, hyi] at h; simp [okGs] at h
   | cons y yr =>
    rw [hxi, hyi, okGs, q6_, ZkC] at h
    obtain ⟨h12, h3⟩ := h
    simp only [q6_, bne_iff_ne, beq_iff_eq, ne_eq] at h12
    obtain ⟨h1, h2⟩ := h12
    simp only [Op.eqFields, ZoO, Z7L]
    rw [if_pos h1, h2]
    rcases h3 with h3 | h3
    ·rw [q6_] at h3
     have gx : xs[i]? = some x := by rw [← List.head?_drop, hxi]; rfl
     have gy : ys[i]? = some y := by rw [← List.head?_drop, hyi]; rfl
     have dx : xs.drop (i + 1) = xr := by rw [← List.tail_drop, hxi]; rfl
     have dy : ys.drop (i + 1) = yr := by rw [← List.tail_drop, hyi]; rfl
     obtain ⟨a, ha, hau⟩ := Zgo hx i x gx
     obtain ⟨b, hb, hbv⟩ := Zgo hy i y gy
     have ih' := ih (i + 1) (by rw [dx, dy]; exact h3.2)
     rw [dx, dy] at ih'
     rw [ZsR (ZsO h3.1) (by simpa using hau), ZsR (ZsO h3.1) (by simpa using hbv)]
     simp only [q0_, ZHC (d := d + 1) h3.1 ha hb, ih', eqCs]
     cases eqC x y <;> simp [Z5K]
    ·simp only [q6_, decide_eq_true_eq, Zqg] at h3
     obtain ⟨⟨⟨⟨⟨⟨s1, s2⟩, s3⟩, s4⟩, s5⟩, s6⟩, s7⟩ := h3
     obtain ⟨fa, ht⟩ : ∃ fa, P.underlying f.type = some (.struct fa) := by
      cases hu : P.underlying f.type with
      | none => rw [hu] at s1; simp at s1
      | some q => cases q <;> rw [hu] at s1 <;> first | exact ⟨_, rfl⟩ | (simp at s1)
     have hfo : P.fieldsOf f.type = fa := by unfold Program.fieldsOf; rw [ht]
     rw [ZAB ht s2, ZAB ht s2]
     have ex := Zm9 (Z8u P f.type) (Zm8 i hx)
     have ey := Zm9 (Z8u P f.type) (Zm8 i hy)
     rw [hxi] at ex
     rw [hyi] at ey
     have hsub : Z2t P (Op.equalIn (d + 2) f.type (.agg ((us.drop i).take (Z8u P f.type)).toArray) (.agg ((vs.drop i).take (Z8u P f.type)).toArray)) = some (eqCs ((x :: xr).take (Z8u P f.type)) ((y :: yr).take (Z8u P f.type))) := by
      rw [ZrO P _ f.type _ _ (by rw [hfo]; exact ht) s6]
      exact ZyB ex ey _ 0 s5
     have ih' := ih (i + Z8u P f.type) (by rw [← Zuq, ← Zuq, hxi, hyi]; exact s7)
     rw [← Zuq, ← Zuq, hxi, hyi] at ih'
     simp only [q0_, hsub, ih']
     rw [ZuM (Z8u P f.type) (x :: xr) (y :: yr) s3 s4]
     cases eqCs ((x :: xr).take (Z8u P f.type)) ((y :: yr).take (Z8u P f.type)) <;> simp [Z5K]
theorem Zuz {P : Program} {t : TypeId} {xs ys : List PV} {b : Bool} (ht : P.underlying t = some (.struct (P.fieldsOf t))) (hp : P.stoodInHeld t = false) (hg : P.eqGuardType P.depth t = false)
  (hf : okGs P 0 (P.fieldsOf t).toList xs ys = true) (hb : eqCs xs ys = b) : xbin P .eql t (.p (.agg xs)) (.p (.agg ys)) = some (.p (.v (.bool b))) := by
 subst hb
 obtain ⟨⟨us, hu⟩, vs, hv⟩ := Zjx hf
 have e : Z2t P (Op.equal t (.agg us.toArray) (.agg vs.toArray)) = some (eqCs xs ys) := by
  unfold Op.equal Op.maxDepth
  rw [show (10000 : Nat) = 9997 + 2 + 1 from rfl, ZrO P _ t _ _ ht hp]
  exact ZFb hu hv _ 0 hf
 unfold xbin
 simp only [ZjI, hu, hv, Za6, ZdI, ZFc, if_true]
 have : Z2t P (do eqGuard .eql t (.tmp 0) (.tmp 0) (.agg us.toArray) (.agg vs.toArray); binOp .eql t (.agg us.toArray) (.agg vs.toArray)) = some (.bool (eqCs xs ys)) := by
  rw [Z7L, ZAA hg]
  simp only [q0_, binOp, Z7L, e, Z5K]
 rw [this]
 rfl
theorem ZLs {P : Program} {t : TypeId} {xs ys : List PV} {b : Bool} (ht : P.underlying t = some (.struct (P.fieldsOf t))) (hp : P.stoodInHeld t = false) (hg : P.eqGuardType P.depth t = false)
  (hf : okFs P 0 (P.fieldsOf t).toList xs ys = true) (hb : eqCs xs ys = b) : xbin P .eql t (.p (.agg xs)) (.p (.agg ys)) = some (.p (.v (.bool b))) := by
 subst hb
 obtain ⟨⟨us, hu⟩, vs, hv⟩ := ZkF hf
 have e : Z2t P (Op.equal t (.agg us.toArray) (.agg vs.toArray)) = some (eqCs xs ys) := by
  unfold Op.equal Op.maxDepth
  rw [show (10000 : Nat) = 9998 + 1 + 1 from rfl, ZrO P _ t _ _ ht hp]
  exact ZyB hu hv _ 0 hf
 unfold xbin
 simp only [ZjI, hu, hv, Za6, ZdI, ZFc, if_true]
 have : Z2t P (do eqGuard .eql t (.tmp 0) (.tmp 0) (.agg us.toArray) (.agg vs.toArray); binOp .eql t (.agg us.toArray) (.agg vs.toArray)) = some (.bool (eqCs xs ys)) := by
  rw [Z7L, ZAA hg]
  simp only [q0_, binOp, Z7L, e, Z5K]
 rw [this]
 rfl
end Go.Abs
end
section
namespace Go.Abs
open Go Go.RowKit Go.ChangeShapes Go.WideShapes Go.ChangeAt Go.Deep
def Z3j (w : World) (ps : List PV) (cs : List Value) : Prop :=
 ps.length = cs.length ∧ ∀ (i : Nat) (p : PV) (v : Value), ps[i]? = some p → cs[i]? = some v → Z7R p = true ∧ PRel w (Old w) p v
section
variable {H : Type} {enc : TypeId × Value → H} {P : Program} {w : World}
def ZcW {α : Type} (enc : TypeId × Value → H) (P : Program) (w : World) (t : TypeId) (c : α → List PV) (wf : α → Prop) : Prop :=
 ∀ fuel cs x, DataW.trod enc P w 0 (fun _ => true) true fuel t cs = some x → ∃ a, wf a ∧ Z3j w (c a) cs
theorem Z3j.one {p : PV} {v : Value} (h1 : Z7R p = true) (h2 : PRel w (Old w) p v) : Z3j w [p] [v] := by
 refine ⟨rfl, fun i q u hq hu => ?_⟩
 cases i with
 | zero => simp at hq hu; subst hq; subst hu; exact ⟨h1, h2⟩
 | succ i => simp at hq
theorem Z3j.nil : Z3j w [] [] := ⟨rfl, fun i q u hq => by simp at hq⟩
theorem Z3j.app {p q : List PV} {cs : List Value} {n : Nat} (h1 : Z3j w p (cs.take n)) (h2 : Z3j w q (cs.drop n)) : Z3j w (p ++ q) cs := by
 have e := ZyS n cs
 refine ⟨by rw [Za4, h1.1, h2.1, ← Za4, e], fun i a v ha hv => ?_⟩
 by_cases hi : i < p.length
 ·rw [ZFd hi] at ha
  refine h1.2 i a v ha ?_
  rw [← e, ZFd (by rw [← h1.1]; exact hi)] at hv
  exact hv
 ·rw [ZAE (by omega)] at ha
  refine h2.2 (i - p.length) a v ha ?_
  rw [← e, ZAE (by rw [← h1.1]; omega), ← h1.1] at hv
  exact hv
theorem ZHx {t : TypeId} {k : IntKind} (ht : P.underlying t = some (.int k)) : ZcW enc P w t (fun n : Int => [eI k n]) (fun n => (Lit.int k n).wf = true) := by
 intro fuel cs x h
 obtain ⟨n, rfl, _, hw⟩ := DataW.trod_int ht h
 exact ⟨n, hw, Z3j.one rfl (.v _ rfl)⟩
theorem ZHy {t : TypeId} (ht : P.underlying t = some .string) : ZcW enc P w t (fun s : ByteArray => [eS s]) (fun s => s.size ≤ maxLen) := by
 intro fuel cs x h
 obtain ⟨s, rfl, _, hs⟩ := DataW.trod_string ht h
 exact ⟨s, hs, Z3j.one rfl (.v _ rfl)⟩
theorem Zlc {α : Type} {t : TypeId} {c : α → List PV} {p q : α → Prop} (h : ZcW enc P w t c p) (hq : ∀ a, p a → q a) : ZcW enc P w t c q := fun fuel cs x hx => by
 obtain ⟨a, h1, h2⟩ := h fuel cs x hx
 exact ⟨a, hq a h1, h2⟩
theorem cell_spot {a : Addr} {v : Value} (h : w.cell? (a.add 0) = some v) : a.spot = none ∧ a.block < w.heap.size := by
 have e : a.add 0 = a := by simp [Addr.add]
 rw [e] at h
 unfold World.cell? at h
 cases hh : w.heap[a.block]? with
 | none => rw [hh] at h; simp at h
 | some x =>
  refine ⟨?_, (Z9R.1 hh).1⟩
  rw [hh] at h
  cases ha : a.spot with
  | none => rfl
  | some s => rw [ha] at h; cases x <;> simp at h
theorem Zns {α : Type} {t e : TypeId} {c : α → List PV} {ee : α → PV} {wf : α → Prop} [Inhabited α] (ht : P.underlying t = some (.slice e)) (hn : 0 < P.cellsOf e) (he : ∀ a, Z2n (ee a) = c a) (ho : ZcW enc P w e c wf) :
  ZcW enc P w t (fun l : List α => [eL ee l]) (fun l => l.length ≤ maxLen ∧ ∀ a ∈ l, wf a) := by
 intro fuel cs x h
 rcases open_slice ht h with ⟨rfl, _⟩ | ⟨a, len, cap, m, n, D, Pl, rfl, _, hl, hm, hmm, _, hx⟩
 ·exact ⟨[], ⟨by simp, by simp⟩, Z3j.one rfl (.lst .sh [] none 0 0 0 0 (fun _ _ => undef) (q7_ _) (by simp) (by simp) (by simp) (fun _ => rfl) (by simp) (by simp) (by simp))⟩
 ·have hmc : m = cap := by simpa using hmm
  subst hmc
  have each : ∀ i, i < len → ∃ q : α × List Value, wf q.1 ∧ Z3j w (c q.1) q.2 ∧ q.2.length = P.cellsOf e ∧ ∀ j, j < P.cellsOf e → w.cell? (a.add (i * P.cellsOf e + j)) = q.2[j]? := by
   intro i hi
   obtain ⟨cs', h1, h2⟩ := hx i (by omega)
   obtain ⟨_, hlen, hcell⟩ := World.cells?_some h1
   obtain ⟨y, hy, hr⟩ := ho _ _ _ h2
   exact ⟨(y, cs'), hy, hr, hlen, fun j hj => by rw [← hcell j hj, add_add]⟩
  haveI : Inhabited (α × List Value) := ⟨(default, [])⟩
  obtain ⟨q, hq⟩ := choose_lt each
  have hlen : ((List.range len).map fun i => (q i).1).length = len := by simp
  refine ⟨(List.range len).map fun i => (q i).1, ⟨by rw [hlen]; omega, ?_⟩, Z3j.one rfl ?_⟩
  ·intro y hy
   obtain ⟨i, hi, rfl⟩ := Z7n.1 hy
   exact (hq i (Zqk.1 hi)).1
  ·have hcl : ∀ i, i < len → (c (q i).1).length = P.cellsOf e := fun i hi => by rw [(hq i hi).2.1.1]; exact (hq i hi).2.2.1
   have hcs : ∀ i j, i < len → j < P.cellsOf e → ∃ v, (q i).2[j]? = some v ∧ w.cell? (a.add (i * P.cellsOf e + j)) = some v := by
    intro i j hi hj
    obtain ⟨_, _, h3, h4⟩ := hq i hi
    have : j < (q i).2.length := by omega
    exact ⟨(q i).2[j], q2_ this, by rw [h4 j hj, q2_ this]⟩
   have hge : ∀ (i : Nat) (x : PV), (((List.range len).map fun i => (q i).1).map ee)[i]? = some x → i < len ∧ Z2n x = c (q i).1 := by
    intro i x hx
    rw [Zqi, q5_] at hx
    obtain ⟨k, hk, rfl⟩ := q4_.1 hx
    obtain ⟨h1, rfl⟩ := q3_.1 hk
    simp at h1
    refine ⟨h1, ?_⟩
    simp [he]
   have hsp : 0 < len → a.spot = none ∧ a.block < w.heap.size := by
    intro h0
    obtain ⟨v, _, h2⟩ := hcs 0 0 h0 hn
    exact cell_spot (by simpa using h2)
   have hadd : 0 < len → ∀ n, a.add n = ⟨a.block, a.off + n, none⟩ := by
    intro h0 n
    have hs := (hsp h0).1
    have : a = ⟨a.block, a.off, none⟩ := by cases a; simp at hs; simp [hs]
    rw [this, ZaI]
   have key := PRel.lst (w := w) (S := Old w) .sh (((List.range len).map fun i => (q i).1).map ee) (some a) m a.block a.off (P.cellsOf e) (fun i j => ((q i).2[j]?).getD undef) (by simp; omega) (by simp) (by simp) (by simp) (by simp)
    (fun hne => by
     have h0 : 0 < len := by
      rcases Zul len with e | e
      ·subst e; simp at hne
      ·exact e
     refine ⟨?_, hn, ?_⟩
     ·have := (hsp h0).1
      cases a
      simp at this
      simp [this]
     ·intro x hx
      obtain ⟨i, hi⟩ := ZAP hx
      obtain ⟨h1, h2⟩ := hge i x hi
      rw [h2, hcl i h1])
    (fun i x j p hx hp => by
     obtain ⟨h1, h2⟩ := hge i x hx
     rw [h2] at hp
     have hj : j < P.cellsOf e := by rw [← hcl i h1]; exact (q3_.1 hp).1
     obtain ⟨v, e1, e2⟩ := hcs i j h1 hj
     refine ⟨?_, (hsp (by omega)).2, ((hq i h1).2.1.2 j p v hp e1).1⟩
     rw [e1, Option.getD_some, ← e2, hadd (by omega)])
    (fun i x j p hx hp => by
     obtain ⟨h1, h2⟩ := hge i x hx
     rw [h2] at hp
     have hj : j < P.cellsOf e := by rw [← hcl i h1]; exact (q3_.1 hp).1
     obtain ⟨v, e1, e2⟩ := hcs i j h1 hj
     rw [e1, Option.getD_some]
     exact ((hq i h1).2.1.2 j p v hp e1).2)
   rw [Zdr, Zdr, List.length_range] at key
   exact key
theorem Zm2 {fs : Array Field} {t : TypeId} (ht : P.underlying t = some (.struct fs)) {fuel : Nat} {cs : List Value} {x : DataW H × List MemPlace} (h : DataW.trod enc P w 0 (fun _ => true) true fuel t cs = some x) :
  cs.length = P.cellsOf t ∧ ∀ (i : Nat) (f : Field), fs[i]? = some f → ∃ n y, DataW.trod enc P w 0 (fun _ => true) true n f.type ((cs.drop f.offset).take (P.cellsOf f.type)) = some y := by
 obtain ⟨xs, n, _, _, hl, hlen, hf⟩ := DataW.trod_struct ht h
 refine ⟨hl, fun i f hi => ?_⟩
 have hi' : i < xs.length := by rw [hlen]; exact (Z9R.1 hi).1
 exact ⟨n, xs[i], by rw [hf i f hi, q2_ hi']⟩
theorem Z3j.next {p q : List PV} {cs : List Value} {o n : Nat} (h1 : Z3j w p ((cs.drop o).take n)) (h2 : Z3j w q (cs.drop (o + n))) : Z3j w (p ++ q) (cs.drop o) :=
 Z3j.app h1 (by rw [Zuq]; exact h2)
theorem Z3j.agg {ps : List PV} {arr : Array Value} (h : Z3j w ps arr.toList) : PRel w (Old w) (.agg ps) (.agg arr) := by
 refine .agg ps arr (by rw [h.1]; simp) ?_ ?_
 ·intro c hc
  obtain ⟨i, hi⟩ := ZAP hc
  have : i < arr.toList.length := by rw [← h.1]; exact (q3_.1 hi).1
  exact (h.2 i c arr.toList[i] hi (q2_ this)).1
 ·intro i c v hc hv
  exact (h.2 i c v hc (by simpa using hv)).2
theorem ZLi {α : Type} {t : TypeId} {c : α → List PV} {wf : α → Prop} {fs : Array Field} {base : Nat} {v : Value} {d : DataW H} {ps : List MemPlace} (ht : P.underlying t = some (.struct fs)) (hv : Value.okWide P w .any base t v) (h : DataW.Trod enc P w 0 (fun _ => true) true t v d ps) (ho : ZcW enc P w t c wf) :
  ∃ a, wf a ∧ PRel w (Old w) (.agg (c a)) v := by
 obtain ⟨arr, rfl, _⟩ := okWide_struct ht hv
 obtain ⟨n, hn⟩ := h
 obtain ⟨a, ha, hr⟩ := ho _ _ _ hn
 exact ⟨a, ha, hr.agg⟩
theorem row_one {α : Type} {t : TypeId} {e : α → PV} {wf : α → Prop} {base : Nat} {v : Value} {d : DataW H} {ps : List MemPlace} (hc : Value.cells v = #[v]) (h : DataW.Trod enc P w 0 (fun _ => true) true t v d ps) (ho : ZcW enc P w t (fun a => [e a]) wf) :
  ∃ a, wf a ∧ PRel w (Old w) (e a) v := by
 obtain ⟨n, hn⟩ := h
 obtain ⟨a, ha, hr⟩ := ho _ _ _ hn
 rw [hc] at hr
 exact ⟨a, ha, (hr.2 0 (e a) v rfl rfl).2⟩
end
end Go.Abs
end
section
namespace Go.Abs
open Go
theorem Zs4 {P : Program} {k : IntKind} (a b : Int) : Z8Z P true [.p (.v (.int k a)), .p (.v (.int k b))] = some (.p (.v (.int k (max a b)))) := by
 have : Z2t P (Builtin.max_ #[] 0 [Value.int k a, Value.int k b].toArray) = some (.int k (max a b)) := by
  have e : (if b > a then b else a) = max a b := by omega
  rw [← e]
  rfl
 show ob (Z2t P (Builtin.max_ #[] 0 [Value.int k a, Value.int k b].toArray)) Z9E = _
 rw [this]
 rfl
theorem ZeA {P : Program} {k : IntKind} (a b : Int) : Z8Z P false [.p (.v (.int k a)), .p (.v (.int k b))] = some (.p (.v (.int k (min a b)))) := by
 have : Z2t P (Builtin.min_ #[] 0 [Value.int k a, Value.int k b].toArray) = some (.int k (min a b)) := by
  have e : (if b < a then b else a) = min a b := by omega
  rw [← e]
  rfl
 show ob (Z2t P (Builtin.min_ #[] 0 [Value.int k a, Value.int k b].toArray)) Z9E = _
 rw [this]
 rfl
def pOwn : PV → Own | .lst o _ => o | _ => .sh
end Go.Abs
end
section
namespace Go.Abs
open Go Go.RowKit
theorem ZHI {H : Type} {enc : TypeId × Value → H} {P : Program} {W : World} {ts : List TypeId} {ds : List (DataW H)} (hsz : (DataW.weightsEach P ts ds).all (· ≤ reachBytes) = true) (j : Nat) {t e : TypeId} (ht : ts[j]? = some t)
  (hu : P.underlying t = some (.slice e)) {v : Value} {d : DataW H} {p : List MemPlace} (hd : ds[j]? = some d) (h : DataW.Trod enc P W 0 (fun _ => true) true t v d p) {S : Stay} {o : Own} {xs : List PV} (r : PRel W S (.lst o xs) v) :
  xs.length * P.bytesOf e ≤ reachBytes := by
 obtain ⟨n, hn⟩ := h
 cases r with
 | lst o xs a cap b off sz g h1 h2 h3 h4 h5 h6 h7 h8 =>
  rcases DataW.trod_slice hu hn with ⟨h0, _⟩ | ⟨a', len, cap', Zs7, rest, n', _, h0, h9, _, _, _, hl, _⟩
  ·simp only [Value.cells, Zqh, Value.slice.injEq, and_true] at h0
   rw [h0.2.1]
   simp
  ·simp only [Value.cells, Zqh, Value.slice.injEq, and_true] at h0
   have hx : d = .slice (Zs7.map (·.1)) (rest.map (·.1)) := congrArg (fun q : DataW H × List MemPlace => q.1) h9
   subst hx
   have := sized_slice hsz ht hd hu
   rw [Zdr, Zdr, hl, Zir] at this
   rw [h0.2.1]
   omega
end Go.Abs
end
