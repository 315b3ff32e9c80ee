/- A typed reading of what the evaluator comes to. No condition. -/
import Derived.Test.YtbmmhbpalkepeaaEvD
import Derived.KernelRfl
import Derived.Laws.StructEq
import Derived.Deep.Slices
import Derived.ChangeArms
import Derived.ChangeMaps5
import Derived.ChangeAt
import Derived.WideShapes
import Derived.SizedLaws

set_option linter.unusedSimpArgs false
set_option linter.unusedVariables false
set_option linter.defProp false
section
namespace Go.Abs
open Go
def RRun {R : Type} (Q : R → Res → Prop) (y : Option Res) (r : R) : Prop := ∃ q, y = some q ∧ Q r q
def Sim {R : Type} (Q : R → Res → Prop) (x : Option R) (y : Option Res) : Prop := ∀ r, x = some r → RRun Q y r
noncomputable def pick {R : Type} (p : R → Prop) : Option R := open Classical in if h : ∃ r, p r then some h.choose else none
theorem ZX {R : Type} {p : R → Prop} {r : R} (h : pick p = some r) : p r := by
 unfold pick at h
 split at h
 ·rename_i hh
  have := hh.choose_spec
  rw [Option.some.inj h] at this
  exact this
 ·simp at h
theorem Z13 {R : Type} {p : R → Prop} (hu : ∀ a b, p a → p b → a = b) {r : R} (h : p r) : pick p = some r := by
 unfold pick
 have hh : ∃ r, p r := ⟨r, h⟩
 rw [dif_pos hh]
 exact congrArg some (hu _ _ hh.choose_spec h)
theorem RRun.uniq {R : Type} {Q : R → Res → Prop} (hu : ∀ r r' q, Q r q → Q r' q → r = r') {y : Option Res} {a b : R} (ha : RRun Q y a) (hb : RRun Q y b) : a = b := by
 obtain ⟨q, e, h⟩ := ha
 obtain ⟨q', e', h'⟩ := hb
 rw [e] at e'
 cases e'
 exact hu _ _ _ h h'
section
variable {R : Type} {Q : R → Res → Prop} {x x' : Option R} {y y' : Option Res}
theorem Sim.none : Sim Q Option.none y := fun _ h => by cases h
theorem Sim.ret {r : R} {q : Res} (h : Q r q) : Sim Q (some r) (some q) := fun _ e => by cases e; exact ⟨q, rfl, h⟩
theorem Sim.cast (h : y = y') (s : Sim Q x y') : Sim Q x y := h ▸ s
theorem Sim.mk (s : Sim Q x y) : Sim Q x (mk y) := s
theorem Sim.lp (s : Sim Q x y) : Sim Q x (lp y) := s
theorem Sim.ob1 {α : Type} {v : α} {z : Option α} {K : α → Option Res} (h : z = some v) (s : Sim Q x (K v)) : Sim Q x (ob z K) := by rw [h]; exact s
theorem Sim.asB {b : Bool} {v : AV} {K : Bool → Option Res} (h : v = .p (.v (.bool b))) (s : Sim Q x (K b)) : Sim Q x (asB v K) := by rw [h]; exact s
theorem Sim.br {b : Bool} {y1 y2 : Option Res} {x1 x2 : Option R} (s1 : b = true → Sim Q x1 y1) (s2 : b = false → Sim Q x2 y2) : Sim Q (if b = true then x1 else x2) (br b y1 y2) := by
 cases b with
 | true => exact s1 rfl
 | false => exact s2 rfl
theorem Sim.grd {b : Bool} (h : b = true) (s : Sim Q x y) : Sim Q x (grd b y) := by rw [h]; exact s
theorem Sim.bind {α : Type} {z : Option α} {k : α → Option R} (s : ∀ a, z = some a → Sim Q (k a) y) : Sim Q (z.bind k) y := by
 intro r h
 cases hz : z with
 | none => rw [hz] at h; simp at h
 | some a => rw [hz] at h; exact s a hz r h
theorem Sim.kv {v : AV} {B2 : List Row} {z : Option Res} {K : AV → List Row → Option Res} (h : z = K v B2) (s : Sim Q x (K v B2)) : Sim Q x z := by rw [h]; exact s
theorem Sim.bx {v : AV} {B B2 : List Row} {a : AV} {K : AV → List Row → Option Res} (h : ∀ K : AV → List Row → Option Res, bx a B K = K v B2) (s : Sim Q x (K v B2)) : Sim Q x (bx a B K) := by rw [h]; exact s
theorem Sim.bz {P : Program} {t : TypeId} {v : AV} {B B2 : List Row} {K : AV → List Row → Option Res} (h : ∀ K : AV → List Row → Option Res, bz P t B K = K v B2) (s : Sim Q x (K v B2)) : Sim Q x (bz P t B K) := by rw [h]; exact s
theorem Sim.ldOwn {a v : AV} {B B2 : List Row} {K : AV → List Row → Option Res} (h : ∀ K : AV → List Row → Option Res, ldOwn a B K = K v B2) (s : Sim Q x (K v B2)) : Sim Q x (ldOwn a B K) := by rw [h]; exact s
theorem Sim.stN {n : Nat} {a v : AV} {B B2 : List Row} {K : List Row → Option Res} (h : ∀ K : List Row → Option Res, stN n a v B K = K B2) (s : Sim Q x (K B2)) : Sim Q x (stN n a v B K) := by rw [h]; exact s
theorem Sim.xmake {P : Program} {t : TypeId} {v : AV} {B B2 : List Row} {K : AV → List Row → Option Res} (h : ∀ K : AV → List Row → Option Res, xmake P t B K = K v B2) (s : Sim Q x (K v B2)) : Sim Q x (xmake P t B K) := by rw [h]; exact s
theorem Sim.xupd {P : Program} {t : TypeId} {m k a : AV} {B B2 : List Row} {K : List Row → Option Res} (h : ∀ K : List Row → Option Res, xupd P t m k a B K = K B2) (s : Sim Q x (K B2)) : Sim Q x (xupd P t m k a B K) := by rw [h]; exact s
theorem Sim.xdel {P : Program} {t : TypeId} {m k : AV} {B B2 : List Row} {K : List Row → Option Res} (h : ∀ K : List Row → Option Res, xdel P t m k B K = K B2) (s : Sim Q x (K B2)) : Sim Q x (xdel P t m k B K) := by rw [h]; exact s
end
def aft (rs : List Nat) (B : List Row) (k : AV → List Row → Option Res) (r : Res) : Option Res :=
 let m := rs.length
  let B' := r.2.take m
  if below m (ptrs r.1) && B'.all (fun row => below m (ZI row)) then
   let back := fun id => rs.getD id 0
   k (Z11 back r.1) (Z18 B rs (B'.map (ZT back)))
  else
   let n := B.length
   let back := fun id => if id < m then rs.getD id 0 else n + (id - m)
   k (Z11 back r.1) (Z18 B rs (B'.map (ZT back)) ++ (r.2.drop m).map (ZT back))
theorem Sim.callS {R : Type} {Q : R → Res → Prop} {x : Option R} {raw : Bool} {G : GF} {g : FuncId} {args : List AV} {B B2 : List Row} {K : AV → List Row → Option Res} {rs : List Nat} {y : Option Res} {q : Res} {v : AV}
  (hc : ∀ K : AV → List Row → Option Res, callS raw G g args B K = ob y (aft rs B K)) (e : y = some q) (ha : ∀ K : AV → List Row → Option Res, aft rs B K q = K v B2) (s : Sim Q x (K v B2)) : Sim Q x (callS raw G g args B K) := by
 rw [hc, e]
 show Sim Q x (aft rs B K q)
 rw [ha]
 exact s
theorem Sim.callV {R : Type} {Q : R → Res → Prop} {x : Option R} {H : Hints} {G : GF} {g : AV} {args : List AV} {B B2 : List Row} {K : AV → List Row → Option Res} {rs : List Nat} {y : Option Res} {q : Res} {v : AV}
  (hc : ∀ K : AV → List Row → Option Res, callV H G g args B K = ob y (aft rs B K)) (e : y = some q) (ha : ∀ K : AV → List Row → Option Res, aft rs B K q = K v B2) (s : Sim Q x (K v B2)) : Sim Q x (callV H G g args B K) := by
 rw [hc, e]
 show Sim Q x (aft rs B K q)
 rw [ha]
 exact s
section
variable {R : Type} {Q : R → Res → Prop} {x x' : Option R} {y y' : Option Res}
theorem ze (s : Sim Q x y) : Sim Q x (mk y) := s
theorem zo (v : AV) {z : Option AV} {K : AV → Option Res} (s : Sim Q x (K v)) (h : z = some v := by kernel_rfl) : Sim Q x (ob z K) := Sim.ob1 h s
theorem zp (v : AV) {z : Option AV} {K : AV → Option Res} (h : z = some v) (s : Sim Q x (K v)) : Sim Q x (ob z K) := Sim.ob1 h s
def the (z : Option AV) : AV := match z with | some v => v | none => .p .junk
theorem zq {z : Option AV} {K : AV → Option Res} (s : Sim Q x (K (the z))) (h : z = some (the z) := by kernel_rfl) : Sim Q x (ob z K) := Sim.ob1 h s
theorem za (b : Bool) {v : AV} {x1 x2 : Option R} {y1 y2 : Option Res} (s1 : Sim Q x1 y1) (s2 : Sim Q x2 y2) (h : v = .p (.v (.bool b)) := by kernel_rfl) : Sim Q (if b = true then x1 else x2) (asB v fun t => br t y1 y2) :=
 Sim.asB h (Sim.br (fun _ => s1) (fun _ => s2))
theorem zx (v : AV) (B2 : List Row) {B : List Row} {a : AV} {K : AV → List Row → Option Res} (s : Sim Q x (K v B2)) (h : (fun K : AV → List Row → Option Res => bx a B K) = fun K => K v B2 := by kernel_rfl) : Sim Q x (bx a B K) := Sim.bx (fun K => congrFun h K) s
theorem zz (v : AV) (B2 : List Row) {P : Program} {t : TypeId} {B : List Row} {K : AV → List Row → Option Res} (s : Sim Q x (K v B2)) (h : (fun K : AV → List Row → Option Res => bz P t B K) = fun K => K v B2 := by kernel_rfl) : Sim Q x (bz P t B K) := Sim.bz (fun K => congrFun h K) s
theorem zw (v : AV) (B2 : List Row) {a : AV} {B : List Row} {K : AV → List Row → Option Res} (s : Sim Q x (K v B2)) (h : (fun K : AV → List Row → Option Res => ldOwn a B K) = fun K => K v B2 := by kernel_rfl) : Sim Q x (ldOwn a B K) := Sim.ldOwn (fun K => congrFun h K) s
theorem zt (B2 : List Row) {n : Nat} {a v : AV} {B : List Row} {K : List Row → Option Res} (s : Sim Q x (K B2)) (h : (fun K : List Row → Option Res => stN n a v B K) = fun K => K B2 := by kernel_rfl) : Sim Q x (stN n a v B K) := Sim.stN (fun K => congrFun h K) s
theorem zm (v : AV) (B2 : List Row) {P : Program} {t : TypeId} {B : List Row} {K : AV → List Row → Option Res} (s : Sim Q x (K v B2)) (h : (fun K : AV → List Row → Option Res => xmake P t B K) = fun K => K v B2 := by kernel_rfl) : Sim Q x (xmake P t B K) := Sim.xmake (fun K => congrFun h K) s
theorem zc (rs : List Nat) (v : AV) (B2 : List Row) {raw : Bool} {G : GF} {g : FuncId} {args : List AV} {B : List Row} {K : AV → List Row → Option Res} {z : Option Res} {q : Res} (e : z = some q) (s : Sim Q x (K v B2))
  (hc : (fun K : AV → List Row → Option Res => callS raw G g args B K) = fun K => ob z (aft rs B K) := by kernel_rfl) (ha : (fun K : AV → List Row → Option Res => aft rs B K q) = fun K => K v B2 := by kernel_rfl) : Sim Q x (callS raw G g args B K) :=
 Sim.callS (fun K => congrFun hc K) e (fun K => congrFun ha K) s
theorem zv (rs : List Nat) (v : AV) (B2 : List Row) {H : Hints} {G : GF} {g : AV} {args : List AV} {B : List Row} {K : AV → List Row → Option Res} {z : Option Res} {q : Res} (e : z = some q) (s : Sim Q x (K v B2))
  (hc : (fun K : AV → List Row → Option Res => callV H G g args B K) = fun K => ob z (aft rs B K) := by kernel_rfl) (ha : (fun K : AV → List Row → Option Res => aft rs B K q) = fun K => K v B2 := by kernel_rfl) : Sim Q x (callV H G g args B K) :=
 Sim.callV (fun K => congrFun hc K) e (fun K => congrFun ha K) s
theorem zi {α : Type} {z : Option α} {k : α → Option R} (s : ∀ a, z = some a → Sim Q (k a) y) : Sim Q (z.bind k) y := Sim.bind s
theorem zk (s : Sim Q x y') (h : y = y' := by kernel_rfl) : Sim Q x y := Sim.cast h s
theorem zf (h : y = y') (s : Sim Q x y') : Sim Q x y := Sim.cast h s
theorem zr (q : Res) {r : R} (h : Q r q) (e : y = some q := by kernel_rfl) : Sim Q (some r) y := Sim.cast e (Sim.ret h)
end
def eI (k : IntKind) (n : Int) : PV := .v (.int k n)
def eB (b : Bool) : PV := .v (.bool b)
def eS (s : ByteArray) : PV := .v (.string s)
def eL {α : Type} (e : α → PV) (l : List α) : PV := .lst .sh (l.map e)
def pI : PV → Int | .v (.int _ n) => n | _ => 0
def pB : PV → Bool | .v (.bool b) => b | _ => false
def pS : PV → ByteArray | .v (.string b) => b | _ => default
def pL : PV → List PV | .lst _ l => l | _ => []
def pC : PV → List PV | .agg l => l | _ => []
def pT : PV → List PV | .tup l => l | _ => []
def pA : AV → PV | .p x => x | _ => .junk
def pM : AV → List (Int × PV) | .md l => l | _ => []
def cellAt (q : Res) (i j : Nat) : AV := (q.2.getD i []).getD j jk
theorem Z2I {α β : Type} {e : α → β} (h : ∀ a b, e a = e b → a = b) : ∀ {l l' : List α}, l.map e = l'.map e → l = l'
 | [], [], _ => rfl
 | [], _ :: _, h' => by simp at h'
 | _ :: _, [], h' => by simp at h'
 | a :: l, b :: l', h' => by
  simp only [Z2p, List.cons.injEq] at h'
  rw [h a b h'.1, Z2I h h'.2]
theorem Z2j {k : IntKind} (a b : Int) (h : eI k a = eI k b) : a = b := congrArg pI h
theorem Z8H (a b : Bool) (h : eB a = eB b) : a = b := congrArg pB h
theorem ZkB (a b : ByteArray) (h : eS a = eS b) : a = b := congrArg pS h
theorem ZfO {α : Type} {e : α → PV} (hi : ∀ a b, e a = e b → a = b) (a b : List α) (h : eL e a = eL e b) : a = b := Z2I hi (congrArg pL h)
def lget {α : Type} (l : List α) (i : Int) : Option α := if 0 ≤ i then l[i.toNat]? else none
def lapp {α : Type} (l r : List α) : Option (List α) := if l.length + r.length ≤ lim then some (l ++ r) else none
def seq (x y : ByteArray) : Bool := x.toList == y.toList
def iand (k : IntKind) (a b : Int) : Int := k.wrap ((BitVec.ofInt k.bits a) &&& (BitVec.ofInt k.bits b)).toNat
def encM {α : Type} (e : α → PV) (q : Int × α) : Int × PV := (q.1, e q.2)
def getM {α : Type} : List (Int × α) → Int → Option α
 | [], _ => none
 | q :: r, n => if q.1 = n then some q.2 else getM r n
def putM {α : Type} : List (Int × α) → Int → α → List (Int × α)
 | [], n, y => [(n, y)]
 | q :: r, n, y => if q.1 = n then (n, y) :: r else q :: putM r n y
def delM {α : Type} : List (Int × α) → Int → List (Int × α)
 | [], _ => []
 | q :: r, n => if q.1 = n then r else q :: delM r n
theorem Z5K {α : Type} {e : α → PV} (hi : ∀ a b, e a = e b → a = b) (a b : Int × α) (h : encM e a = encM e b) : a = b :=
 Prod.ext (show a.1 = b.1 from congrArg (fun q : Int × PV => q.1) h) (hi _ _ (congrArg (fun q : Int × PV => q.2) h))
theorem Zc5 {α : Type} (e : α → PV) : ∀ (es : List (Int × α)) (n : Int), getE (es.map (encM e)) n = (getM es n).map e
 | [], _ => rfl
 | q :: r, n => by
  simp only [Z2p, getE, getM, encM]
  split
  ·rfl
  ·exact Zc5 e r n
theorem Zck {α : Type} (e : α → PV) (y : α) : ∀ (es : List (Int × α)) (n : Int), putE (es.map (encM e)) n (e y) = (putM es n y).map (encM e)
 | [], _ => rfl
 | q :: r, n => by
  simp only [Z2p, putE, putM, encM]
  split
  ·rfl
  ·rw [Z2p, ← Zck e y r n]; rfl
theorem Zbf {α : Type} (e : α → PV) : ∀ (es : List (Int × α)) (n : Int), delE (es.map (encM e)) n = (delM es n).map (encM e)
 | [], _ => rfl
 | q :: r, n => by
  simp only [Z2p, delE, delM, encM]
  split
  ·rfl
  ·rw [Z2p, ← Zbf e r n]; rfl
theorem Z1T {α : Type} {e : α → PV} {cs : α → List PV} {n : Nat} (hn : ∀ a, Z16 (e a) = cs a) (hl : ∀ a, (cs a).length = n) (h0 : 0 < n) {l : List α} {i : Int} {a : α} {o : Own} {k : IntKind} (h : lget l i = some a) :
  xidx n (.p (.lst o (l.map e))) (.p (.v (.int k i))) = some (.cptr (cs a)) := by
 unfold lget at h
 split at h
 ·rename_i hi
  have : (Z16 (e a)).length = n := by rw [hn, hl]
  simp only [xidx, asInt, if_pos hi, q6_, h, Z2x]
  rw [if_pos (by simp [this, h0]), hn]
 ·simp at h
theorem Zij {α : Type} {e : α → PV} {n : Nat} (hn : ∀ a, (Z16 (e a)).length = n) (l : List α) : szOk n (l.map e) = true := by
 unfold szOk
 simp [Z2w, hn]
theorem Zag {α : Type} {e : α → PV} {n : Nat} (hn : ∀ a, (Z16 (e a)).length = n) (h0 : 0 < n) {xs ys zs : List α} {o o' : Own} (ho : Z1d o = true) (h : lapp xs ys = some zs) :
  xapp n (.p (.lst o (xs.map e))) (.p (.lst o' (ys.map e))) = some (.p (.lst (apo o (ys.map e)) (zs.map e))) := by
 unfold lapp at h
 split at h
 ·rename_i hl
  cases h
  simp only [xapp, Zb2, Z1b]
  rw [if_pos (by simp [ho, Zij hn, h0, hl]), List.map_append]
 ·simp at h
theorem Z1E {α : Type} {P : Program} {t : TypeId} {d : TypeId} (h : P.underlying t = some (.slice d)) (e : α → PV) (o : Own) (l : List α) : xlen P t (.p (.lst o (l.map e))) = some (.p (.v (.int .i64 l.length))) := by
 rw [ZmC h, Z39]
theorem Zim {α : Type} {e : α → PV} {es : List (Int × α)} {id : Nat} {B : List Row} (h : B[id]? = some [.md (es.map (encM e))]) : Z6e (.mp id) B = some (.p (.v (.int .i64 es.length))) := by
 unfold Z6e Z30
 simp only [h, Z1b, mdOf, Z39]
theorem Z8h {α : Type} {e : α → PV} {z : α} {es : List (Int × α)} {id : Nat} {B : List Row} {P : Program} {t te : TypeId} {n : Int} (hm : mapE P t = some te) (h : B[id]? = some [.md (es.map (encM e))])
  (hz : ((P.info? te).bind (·.zero)).bind Z2f = some (.p (e z))) (c : Bool) :
  Z34 P t c (.mp id) (.p (.v (.int .i64 n))) B = some (.p (if c = true then .tup [e ((getM es n).getD z), .v (.bool (getM es n).isSome)] else e ((getM es n).getD z))) := by
 unfold Z34 Z30
 simp only [hm, h, Z1b, mdOf, asK, Zc5]
 cases hg : getM es n with
 | some y => simp
 | none =>
  obtain ⟨zv, h1, h2⟩ := Zcn.1 hz
  simp [h1, h2, Z1b, Z2X]
theorem Zah {α : Type} {e : α → PV} {a : α} {es : List (Int × α)} {id : Nat} {B B2 : List Row} {P : Program} {t te : TypeId} {n : Int} {y : PV} {K : List Row → Option Res} (hm : mapE P t = some te) (h : B[id]? = some [.md (es.map (encM e))])
  (hy : nrm y = e a) (hp : Z1J (.p y) = false) (hB : B.set id [.md ((putM es n a).map (encM e))] = B2) : xupd P t (.mp id) (.p (.v (.int .i64 n))) (.p y) B K = K B2 := by
 unfold xupd Z30
 simp only [hm, h, Z1b, mdOf, asK, Z2X, hp, hy, Zck, hB]
 rfl
theorem Zkv {α : Type} {e : α → PV} {es : List (Int × α)} {id : Nat} {B B2 : List Row} {P : Program} {t te : TypeId} {n : Int} {K : List Row → Option Res} (hm : mapE P t = some te) (h : B[id]? = some [.md (es.map (encM e))])
  (hB : B.set id [.md ((delM es n).map (encM e))] = B2) : xdel P t (.mp id) (.p (.v (.int .i64 n))) B K = K B2 := by
 unfold xdel Z30
 simp only [hm, h, Z1b, mdOf, asK, Zbf, hB]
end Go.Abs
end
section
namespace Go.Abs
open Go

end Go.Abs
end
section
namespace Go.Abs
open Go Go.RowKit Go.ChangeShapes Go.WideShapes Go.ChangeAt Go.Deep
def Z1i (w : World) (ps : List PV) (cs : List Value) : Prop :=
 ps.length = cs.length ∧ ∀ (i : Nat) (p : PV) (v : Value), ps[i]? = some p → cs[i]? = some v → Z1Q p = true ∧ PRel w (Old w) p v
section
variable {H : Type} {enc : TypeId × Value → H} {P : Program} {w : World}
def Z3g {α : Type} (enc : TypeId × Value → H) (P : Program) (w : World) (t : TypeId) (c : α → List PV) (wf : α → Prop) : Prop :=
 ∀ fuel cs x, DataW.trod enc P w 0 (fun _ => true) true fuel t cs = some x → ∃ a, wf a ∧ Z1i w (c a) cs
theorem Z1i.one {p : PV} {v : Value} (h1 : Z1Q p = true) (h2 : PRel w (Old w) p v) : Z1i w [p] [v] := by
 refine ⟨rfl, fun i q u hq hu => ?_⟩
 cases i with
 | zero => simp at hq hu; subst hq; subst hu; exact ⟨h1, h2⟩
 | succ i => simp at hq
theorem Z1i.nil : Z1i w [] [] := ⟨rfl, fun i q u hq => by simp at hq⟩
theorem Z1i.app {p q : List PV} {cs : List Value} {n : Nat} (h1 : Z1i w p (cs.take n)) (h2 : Z1i w q (cs.drop n)) : Z1i w (p ++ q) cs := by
 have e := List.take_append_drop n cs
 refine ⟨by rw [Z2J, h1.1, h2.1, ← Z2J, e], fun i a v ha hv => ?_⟩
 by_cases hi : i < p.length
 ·rw [Zfr hi] at ha
  refine h1.2 i a v ha ?_
  rw [← e, Zfr (by rw [← h1.1]; exact hi)] at hv
  exact hv
 ·rw [Zfp (by omega)] at ha
  refine h2.2 (i - p.length) a v ha ?_
  rw [← e, Zfp (by rw [← h1.1]; omega), ← h1.1] at hv
  exact hv
theorem Zhc {t : TypeId} {k : IntKind} (ht : P.underlying t = some (.int k)) : Z3g enc P w t (fun n : Int => [eI k n]) (fun n => (Lit.int k n).wf = true) := by
 intro fuel cs x h
 obtain ⟨n, rfl, _, hw⟩ := DataW.trod_int ht h
 exact ⟨n, hw, Z1i.one rfl (.v _ rfl)⟩
theorem Zhd {t : TypeId} (ht : P.underlying t = some .string) : Z3g enc P w t (fun s : ByteArray => [eS s]) (fun s => s.size ≤ maxLen) := by
 intro fuel cs x h
 obtain ⟨s, rfl, _, hs⟩ := DataW.trod_string ht h
 exact ⟨s, hs, Z1i.one rfl (.v _ rfl)⟩
theorem Z5W {α : Type} {t : TypeId} {c : α → List PV} {p q : α → Prop} (h : Z3g enc P w t c p) (hq : ∀ a, p a → q a) : Z3g enc P w t c q := fun fuel cs x hx => by
 obtain ⟨a, h1, h2⟩ := h fuel cs x hx
 exact ⟨a, hq a h1, h2⟩
theorem cell_spot {a : Addr} {v : Value} (h : w.cell? (a.add 0) = some v) : a.spot = none ∧ a.block < w.heap.size := by
 have e : a.add 0 = a := by simp [Addr.add]
 rw [e] at h
 unfold World.cell? at h
 cases hh : w.heap[a.block]? with
 | none => rw [hh] at h; simp at h
 | some x =>
  refine ⟨?_, (Z2z.1 hh).1⟩
  rw [hh] at h
  cases ha : a.spot with
  | none => rfl
  | some s => rw [ha] at h; cases x <;> simp at h
theorem Zdl {α : Type} {t e : TypeId} {c : α → List PV} {ee : α → PV} {wf : α → Prop} [Inhabited α] (ht : P.underlying t = some (.slice e)) (hn : 0 < P.cellsOf e) (he : ∀ a, Z16 (ee a) = c a) (ho : Z3g enc P w e c wf) :
  Z3g enc P w t (fun l : List α => [eL ee l]) (fun l => l.length ≤ maxLen ∧ ∀ a ∈ l, wf a) := by
 intro fuel cs x h
 rcases open_slice ht h with ⟨rfl, _⟩ | ⟨a, len, cap, m, n, D, Pl, rfl, _, hl, hm, hmm, _, hx⟩
 ·exact ⟨[], ⟨by simp, by simp⟩, Z1i.one rfl (.lst .sh [] none 0 0 0 0 (fun _ _ => undef) (Z1y _) (by simp) (by simp) (by simp) (fun _ => rfl) (by simp) (by simp) (by simp))⟩
 ·have hmc : m = cap := by simpa using hmm
  subst hmc
  have each : ∀ i, i < len → ∃ q : α × List Value, wf q.1 ∧ Z1i w (c q.1) q.2 ∧ q.2.length = P.cellsOf e ∧ ∀ j, j < P.cellsOf e → w.cell? (a.add (i * P.cellsOf e + j)) = q.2[j]? := by
   intro i hi
   obtain ⟨cs', h1, h2⟩ := hx i (by omega)
   obtain ⟨_, hlen, hcell⟩ := World.cells?_some h1
   obtain ⟨y, hy, hr⟩ := ho _ _ _ h2
   exact ⟨(y, cs'), hy, hr, hlen, fun j hj => by rw [← hcell j hj, add_add]⟩
  haveI : Inhabited (α × List Value) := ⟨(default, [])⟩
  obtain ⟨q, hq⟩ := choose_lt each
  have hlen : ((List.range len).map fun i => (q i).1).length = len := by simp
  refine ⟨(List.range len).map fun i => (q i).1, ⟨by rw [hlen]; omega, ?_⟩, Z1i.one rfl ?_⟩
  ·intro y hy
   obtain ⟨i, hi, rfl⟩ := Z1B.1 hy
   exact (hq i (Z4g.1 hi)).1
  ·have hcl : ∀ i, i < len → (c (q i).1).length = P.cellsOf e := fun i hi => by rw [(hq i hi).2.1.1]; exact (hq i hi).2.2.1
   have hcs : ∀ i j, i < len → j < P.cellsOf e → ∃ v, (q i).2[j]? = some v ∧ w.cell? (a.add (i * P.cellsOf e + j)) = some v := by
    intro i j hi hj
    obtain ⟨_, _, h3, h4⟩ := hq i hi
    have : j < (q i).2.length := by omega
    exact ⟨(q i).2[j], q2_ this, by rw [h4 j hj, q2_ this]⟩
   have hge : ∀ (i : Nat) (x : PV), (((List.range len).map fun i => (q i).1).map ee)[i]? = some x → i < len ∧ Z16 x = c (q i).1 := by
    intro i x hx
    rw [Zco, q6_] at hx
    obtain ⟨k, hk, rfl⟩ := q4_.1 hx
    obtain ⟨h1, rfl⟩ := q1_.1 hk
    simp at h1
    refine ⟨h1, ?_⟩
    simp [he]
   have hsp : 0 < len → a.spot = none ∧ a.block < w.heap.size := by
    intro h0
    obtain ⟨v, _, h2⟩ := hcs 0 0 h0 hn
    exact cell_spot (by simpa using h2)
   have hadd : 0 < len → ∀ n, a.add n = ⟨a.block, a.off + n, none⟩ := by
    intro h0 n
    have hs := (hsp h0).1
    have : a = ⟨a.block, a.off, none⟩ := by cases a; simp at hs; simp [hs]
    rw [this, Z2F]
   have key := PRel.lst (w := w) (S := Old w) .sh (((List.range len).map fun i => (q i).1).map ee) (some a) m a.block a.off (P.cellsOf e) (fun i j => ((q i).2[j]?).getD undef) (by simp; omega) (by simp) (by simp) (by simp) (by simp)
    (fun hne => by
     have h0 : 0 < len := by
      rcases Z64 len with e | e
      ·subst e; simp at hne
      ·exact e
     refine ⟨?_, hn, ?_⟩
     ·have := (hsp h0).1
      cases a
      simp at this
      simp [this]
     ·intro x hx
      obtain ⟨i, hi⟩ := Zcu hx
      obtain ⟨h1, h2⟩ := hge i x hi
      rw [h2, hcl i h1])
    (fun i x j p hx hp => by
     obtain ⟨h1, h2⟩ := hge i x hx
     rw [h2] at hp
     have hj : j < P.cellsOf e := by rw [← hcl i h1]; exact (q1_.1 hp).1
     obtain ⟨v, e1, e2⟩ := hcs i j h1 hj
     refine ⟨?_, (hsp (by omega)).2, ((hq i h1).2.1.2 j p v hp e1).1⟩
     rw [e1, Zcv, ← e2, hadd (by omega)])
    (fun i x j p hx hp => by
     obtain ⟨h1, h2⟩ := hge i x hx
     rw [h2] at hp
     have hj : j < P.cellsOf e := by rw [← hcl i h1]; exact (q1_.1 hp).1
     obtain ⟨v, e1, e2⟩ := hcs i j h1 hj
     rw [e1, Zcv]
     exact ((hq i h1).2.1.2 j p v hp e1).2)
   rw [Z39, Z39, List.length_range] at key
   exact key
theorem Z75 {fs : Array Field} {t : TypeId} (ht : P.underlying t = some (.struct fs)) {fuel : Nat} {cs : List Value} {x : DataW H × List MemPlace} (h : DataW.trod enc P w 0 (fun _ => true) true fuel t cs = some x) :
  cs.length = P.cellsOf t ∧ ∀ (i : Nat) (f : Field), fs[i]? = some f → ∃ n y, DataW.trod enc P w 0 (fun _ => true) true n f.type ((cs.drop f.offset).take (P.cellsOf f.type)) = some y := by
 obtain ⟨xs, n, _, _, hl, hlen, hf⟩ := DataW.trod_struct ht h
 refine ⟨hl, fun i f hi => ?_⟩
 have hi' : i < xs.length := by rw [hlen]; exact (Z2z.1 hi).1
 exact ⟨n, xs[i], by rw [hf i f hi, q2_ hi']⟩
theorem Z1i.next {p q : List PV} {cs : List Value} {o n : Nat} (h1 : Z1i w p ((cs.drop o).take n)) (h2 : Z1i w q (cs.drop (o + n))) : Z1i w (p ++ q) (cs.drop o) :=
 Z1i.app h1 (by rw [List.drop_drop]; exact h2)
theorem Z1i.agg {ps : List PV} {arr : Array Value} (h : Z1i w ps arr.toList) : PRel w (Old w) (.agg ps) (.agg arr) := by
 refine .agg ps arr (by rw [h.1]; simp) ?_ ?_
 ·intro c hc
  obtain ⟨i, hi⟩ := Zcu hc
  have : i < arr.toList.length := by rw [← h.1]; exact (q1_.1 hi).1
  exact (h.2 i c arr.toList[i] hi (q2_ this)).1
 ·intro i c v hc hv
  exact (h.2 i c v hc (by simpa using hv)).2
theorem Zkp {α : Type} {t : TypeId} {c : α → List PV} {wf : α → Prop} {fs : Array Field} {base : Nat} {v : Value} {d : DataW H} {ps : List MemPlace} (ht : P.underlying t = some (.struct fs)) (hv : Value.okWide P w .any base t v) (h : DataW.Trod enc P w 0 (fun _ => true) true t v d ps) (ho : Z3g enc P w t c wf) :
  ∃ a, wf a ∧ PRel w (Old w) (.agg (c a)) v := by
 obtain ⟨arr, rfl, _⟩ := okWide_struct ht hv
 obtain ⟨n, hn⟩ := h
 obtain ⟨a, ha, hr⟩ := ho _ _ _ hn
 exact ⟨a, ha, hr.agg⟩
end
end Go.Abs
end
section
namespace Go.Abs
open Go

end Go.Abs
end
section
namespace Go.Abs
open Go Go.RowKit

end Go.Abs
end
