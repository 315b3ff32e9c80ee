/- A typed reading of what the evaluator comes to. No condition. -/
import Derived.Test.YtadodmjdkphddaaDoorEvD
import Derived.KernelRfl
import Derived.Laws.StructEq
import Derived.Deep.Slices
import Derived.ChangeArms
import Derived.ChangeMaps5
import Derived.ChangeAt
import Derived.WideShapes

section
set_option linter.unusedSimpArgs false
set_option linter.unusedVariables false
namespace Go.Abs
open Go
def RRun {R : Type} (Q : R → Res → Prop) (y : Option Res) (r : R) : Prop := ∃ q, y = some q ∧ Q r q
def Sim {R : Type} (Q : R → Res → Prop) (x : Option R) (y : Option Res) : Prop := ∀ r, x = some r → RRun Q y r
noncomputable def pick {R : Type} (p : R → Prop) : Option R := open Classical in if h : ∃ r, p r then some h.choose else none
theorem Z1f {R : Type} {p : R → Prop} {r : R} (h : pick p = some r) : p r := by
 unfold pick at h
 split at h
 ·rename_i hh
  have := hh.choose_spec
  rw [Option.some.inj h] at this
  exact this
 ·simp at h
theorem Z1e {R : Type} {p : R → Prop} (hu : ∀ a b, p a → p b → a = b) {r : R} (h : p r) : pick p = some r := by
 unfold pick
 have hh : ∃ r, p r := ⟨r, h⟩
 rw [dif_pos hh]
 exact congrArg some (hu _ _ hh.choose_spec h)
theorem RRun.uniq {R : Type} {Q : R → Res → Prop} (hu : ∀ r r' q, Q r q → Q r' q → r = r') {y : Option Res} {a b : R} (ha : RRun Q y a) (hb : RRun Q y b) : a = b := by
 obtain ⟨q, e, h⟩ := ha
 obtain ⟨q', e', h'⟩ := hb
 rw [e] at e'
 cases e'
 exact hu _ _ _ h h'
section
variable {R : Type} {Q : R → Res → Prop} {x x' : Option R} {y y' : Option Res}
theorem Sim.none : Sim Q Option.none y := fun _ h => by cases h
theorem Sim.ret {r : R} {q : Res} (h : Q r q) : Sim Q (some r) (some q) := fun _ e => by cases e; exact ⟨q, rfl, h⟩
theorem Sim.cast (h : y = y') (s : Sim Q x y') : Sim Q x y := h ▸ s
theorem Sim.mk (s : Sim Q x y) : Sim Q x (mk y) := s
theorem Sim.lp (s : Sim Q x y) : Sim Q x (lp y) := s
theorem Sim.ob1 {α : Type} {v : α} {z : Option α} {K : α → Option Res} (h : z = some v) (s : Sim Q x (K v)) : Sim Q x (ob z K) := by rw [h]; exact s
theorem Sim.asB {b : Bool} {v : AV} {K : Bool → Option Res} (h : v = .p (.v (.bool b))) (s : Sim Q x (K b)) : Sim Q x (asB v K) := by rw [h]; exact s
theorem Sim.br {b : Bool} {y1 y2 : Option Res} {x1 x2 : Option R} (s1 : b = true → Sim Q x1 y1) (s2 : b = false → Sim Q x2 y2) : Sim Q (if b = true then x1 else x2) (br b y1 y2) := by
 cases b with
 | true => exact s1 rfl
 | false => exact s2 rfl
theorem Sim.grd {b : Bool} (h : b = true) (s : Sim Q x y) : Sim Q x (grd b y) := by rw [h]; exact s
theorem Sim.bind {α : Type} {z : Option α} {k : α → Option R} (s : ∀ a, z = some a → Sim Q (k a) y) : Sim Q (z.bind k) y := by
 intro r h
 cases hz : z with
 | none => rw [hz] at h; simp at h
 | some a => rw [hz] at h; exact s a hz r h
theorem Sim.kv {v : AV} {B2 : List Row} {z : Option Res} {K : AV → List Row → Option Res} (h : z = K v B2) (s : Sim Q x (K v B2)) : Sim Q x z := by rw [h]; exact s
theorem Sim.bx {v : AV} {B B2 : List Row} {a : AV} {K : AV → List Row → Option Res} (h : ∀ K : AV → List Row → Option Res, bx a B K = K v B2) (s : Sim Q x (K v B2)) : Sim Q x (bx a B K) := by rw [h]; exact s
theorem Sim.bz {P : Program} {t : TypeId} {v : AV} {B B2 : List Row} {K : AV → List Row → Option Res} (h : ∀ K : AV → List Row → Option Res, bz P t B K = K v B2) (s : Sim Q x (K v B2)) : Sim Q x (bz P t B K) := by rw [h]; exact s
theorem Sim.ldOwn {a v : AV} {B B2 : List Row} {K : AV → List Row → Option Res} (h : ∀ K : AV → List Row → Option Res, ldOwn a B K = K v B2) (s : Sim Q x (K v B2)) : Sim Q x (ldOwn a B K) := by rw [h]; exact s
theorem Sim.stN {n : Nat} {a v : AV} {B B2 : List Row} {K : List Row → Option Res} (h : ∀ K : List Row → Option Res, stN n a v B K = K B2) (s : Sim Q x (K B2)) : Sim Q x (stN n a v B K) := by rw [h]; exact s
theorem Sim.xmake {P : Program} {t : TypeId} {v : AV} {B B2 : List Row} {K : AV → List Row → Option Res} (h : ∀ K : AV → List Row → Option Res, xmake P t B K = K v B2) (s : Sim Q x (K v B2)) : Sim Q x (xmake P t B K) := by rw [h]; exact s
theorem Sim.xupd {P : Program} {t : TypeId} {m k a : AV} {B B2 : List Row} {K : List Row → Option Res} (h : ∀ K : List Row → Option Res, xupd P t m k a B K = K B2) (s : Sim Q x (K B2)) : Sim Q x (xupd P t m k a B K) := by rw [h]; exact s
theorem Sim.xdel {P : Program} {t : TypeId} {m k : AV} {B B2 : List Row} {K : List Row → Option Res} (h : ∀ K : List Row → Option Res, xdel P t m k B K = K B2) (s : Sim Q x (K B2)) : Sim Q x (xdel P t m k B K) := by rw [h]; exact s
end
def aft (rs : List Nat) (B : List Row) (k : AV → List Row → Option Res) (r : Res) : Option Res :=
 let m := rs.length
  let B' := r.2.take m
  if below m (ptrs r.1) && B'.all (fun row => below m (Z10 row)) then
   let back := fun id => rs.getD id 0
   k (Z1y back r.1) (Z1M B rs (B'.map (Z1j back)))
  else
   let n := B.length
   let back := fun id => if id < m then rs.getD id 0 else n + (id - m)
   k (Z1y back r.1) (Z1M B rs (B'.map (Z1j back)) ++ (r.2.drop m).map (Z1j back))
theorem Sim.callS {R : Type} {Q : R → Res → Prop} {x : Option R} {raw : Bool} {G : GF} {g : FuncId} {args : List AV} {B B2 : List Row} {K : AV → List Row → Option Res} {rs : List Nat} {y : Option Res} {q : Res} {v : AV}
  (hc : ∀ K : AV → List Row → Option Res, callS raw G g args B K = ob y (aft rs B K)) (e : y = some q) (ha : ∀ K : AV → List Row → Option Res, aft rs B K q = K v B2) (s : Sim Q x (K v B2)) : Sim Q x (callS raw G g args B K) := by
 rw [hc, e]
 show Sim Q x (aft rs B K q)
 rw [ha]
 exact s
theorem Sim.callV {R : Type} {Q : R → Res → Prop} {x : Option R} {H : Hints} {G : GF} {g : AV} {args : List AV} {B B2 : List Row} {K : AV → List Row → Option Res} {rs : List Nat} {y : Option Res} {q : Res} {v : AV}
  (hc : ∀ K : AV → List Row → Option Res, callV H G g args B K = ob y (aft rs B K)) (e : y = some q) (ha : ∀ K : AV → List Row → Option Res, aft rs B K q = K v B2) (s : Sim Q x (K v B2)) : Sim Q x (callV H G g args B K) := by
 rw [hc, e]
 show Sim Q x (aft rs B K q)
 rw [ha]
 exact s
section
variable {R : Type} {Q : R → Res → Prop} {x x' : Option R} {y y' : Option Res}
theorem ze (s : Sim Q x y) : Sim Q x (mk y) := s
theorem zo (v : AV) {z : Option AV} {K : AV → Option Res} (s : Sim Q x (K v)) (h : z = some v := by kernel_rfl) : Sim Q x (ob z K) := Sim.ob1 h s
def the (z : Option AV) : AV := match z with | some v => v | none => .p .junk
theorem zq {z : Option AV} {K : AV → Option Res} (s : Sim Q x (K (the z))) (h : z = some (the z) := by kernel_rfl) : Sim Q x (ob z K) := Sim.ob1 h s
theorem za (b : Bool) {v : AV} {x1 x2 : Option R} {y1 y2 : Option Res} (s1 : Sim Q x1 y1) (s2 : Sim Q x2 y2) (h : v = .p (.v (.bool b)) := by kernel_rfl) : Sim Q (if b = true then x1 else x2) (asB v fun t => br t y1 y2) :=
 Sim.asB h (Sim.br (fun _ => s1) (fun _ => s2))
theorem zg {b : Bool} (s : Sim Q x y) (h : b = true := by kernel_rfl) : Sim Q x (grd b y) := Sim.grd h s
theorem zx (v : AV) (B2 : List Row) {B : List Row} {a : AV} {K : AV → List Row → Option Res} (s : Sim Q x (K v B2)) (h : (fun K : AV → List Row → Option Res => bx a B K) = fun K => K v B2 := by kernel_rfl) : Sim Q x (bx a B K) := Sim.bx (fun K => congrFun h K) s
theorem zz (v : AV) (B2 : List Row) {P : Program} {t : TypeId} {B : List Row} {K : AV → List Row → Option Res} (s : Sim Q x (K v B2)) (h : (fun K : AV → List Row → Option Res => bz P t B K) = fun K => K v B2 := by kernel_rfl) : Sim Q x (bz P t B K) := Sim.bz (fun K => congrFun h K) s
theorem zw (v : AV) (B2 : List Row) {a : AV} {B : List Row} {K : AV → List Row → Option Res} (s : Sim Q x (K v B2)) (h : (fun K : AV → List Row → Option Res => ldOwn a B K) = fun K => K v B2 := by kernel_rfl) : Sim Q x (ldOwn a B K) := Sim.ldOwn (fun K => congrFun h K) s
theorem zt (B2 : List Row) {n : Nat} {a v : AV} {B : List Row} {K : List Row → Option Res} (s : Sim Q x (K B2)) (h : (fun K : List Row → Option Res => stN n a v B K) = fun K => K B2 := by kernel_rfl) : Sim Q x (stN n a v B K) := Sim.stN (fun K => congrFun h K) s
theorem zm (v : AV) (B2 : List Row) {P : Program} {t : TypeId} {B : List Row} {K : AV → List Row → Option Res} (s : Sim Q x (K v B2)) (h : (fun K : AV → List Row → Option Res => xmake P t B K) = fun K => K v B2 := by kernel_rfl) : Sim Q x (xmake P t B K) := Sim.xmake (fun K => congrFun h K) s
theorem zc (rs : List Nat) (v : AV) (B2 : List Row) {raw : Bool} {G : GF} {g : FuncId} {args : List AV} {B : List Row} {K : AV → List Row → Option Res} {z : Option Res} {q : Res} (e : z = some q) (s : Sim Q x (K v B2))
  (hc : (fun K : AV → List Row → Option Res => callS raw G g args B K) = fun K => ob z (aft rs B K) := by kernel_rfl) (ha : (fun K : AV → List Row → Option Res => aft rs B K q) = fun K => K v B2 := by kernel_rfl) : Sim Q x (callS raw G g args B K) :=
 Sim.callS (fun K => congrFun hc K) e (fun K => congrFun ha K) s
theorem zv (rs : List Nat) (v : AV) (B2 : List Row) {H : Hints} {G : GF} {g : AV} {args : List AV} {B : List Row} {K : AV → List Row → Option Res} {z : Option Res} {q : Res} (e : z = some q) (s : Sim Q x (K v B2))
  (hc : (fun K : AV → List Row → Option Res => callV H G g args B K) = fun K => ob z (aft rs B K) := by kernel_rfl) (ha : (fun K : AV → List Row → Option Res => aft rs B K q) = fun K => K v B2 := by kernel_rfl) : Sim Q x (callV H G g args B K) :=
 Sim.callV (fun K => congrFun hc K) e (fun K => congrFun ha K) s
theorem zi {α : Type} {z : Option α} {k : α → Option R} (s : ∀ a, z = some a → Sim Q (k a) y) : Sim Q (z.bind k) y := Sim.bind s
theorem zk (s : Sim Q x y') (h : y = y' := by kernel_rfl) : Sim Q x y := Sim.cast h s
theorem zf (h : y = y') (s : Sim Q x y') : Sim Q x y := Sim.cast h s
theorem zr (q : Res) {r : R} (h : Q r q) (e : y = some q := by kernel_rfl) : Sim Q (some r) y := Sim.cast e (Sim.ret h)
end
def eI (k : IntKind) (n : Int) : PV := .v (.int k n)
def eB (b : Bool) : PV := .v (.bool b)
def eS (s : ByteArray) : PV := .v (.string s)
def eL {α : Type} (e : α → PV) (l : List α) : PV := .lst .sh (l.map e)
def pI : PV → Int | .v (.int _ n) => n | _ => 0
def pB : PV → Bool | .v (.bool b) => b | _ => false
def pS : PV → ByteArray | .v (.string b) => b | _ => default
def pL : PV → List PV | .lst _ l => l | _ => []
def pC : PV → List PV | .agg l => l | _ => []
def pT : PV → List PV | .tup l => l | _ => []
def pA : AV → PV | .p x => x | _ => .junk
def cellAt (q : Res) (i j : Nat) : AV := (q.2.getD i []).getD j jk
theorem Z3M {α β : Type} {e : α → β} (h : ∀ a b, e a = e b → a = b) : ∀ {l l' : List α}, l.map e = l'.map e → l = l'
 | [], [], _ => rfl
 | [], _ :: _, h' => by simp at h'
 | _ :: _, [], h' => by simp at h'
 | a :: l, b :: l', h' => by
  simp only [List.map_cons, List.cons.injEq] at h'
  rw [h a b h'.1, Z3M h h'.2]
theorem Z72 {k : IntKind} (a b : Int) (h : eI k a = eI k b) : a = b := congrArg pI h
theorem Zrh (a b : Bool) (h : eB a = eB b) : a = b := congrArg pB h
theorem Zrj (a b : ByteArray) (h : eS a = eS b) : a = b := congrArg pS h
theorem Zri {α : Type} {e : α → PV} (hi : ∀ a b, e a = e b → a = b) (a b : List α) (h : eL e a = eL e b) : a = b := Z3M hi (congrArg pL h)
def lget {α : Type} (l : List α) (i : Int) : Option α := if 0 ≤ i then l[i.toNat]? else none
def lapp {α : Type} (l r : List α) : Option (List α) := if l.length + r.length ≤ lim then some (l ++ r) else none
def lsl {α : Type} (l : List α) (lo hi : Int) : Option (List α) := if 0 ≤ lo ∧ lo ≤ hi ∧ hi ≤ l.length then some ((l.take hi.toNat).drop lo.toNat) else none
def slO : Own → Own
 | .nl => .nl
 | _ => .sh
def sadd (x y : ByteArray) : Option ByteArray := if ((x.size + y.size : Nat) : Int) > IntKind.i64.max then none else some (x ++ y)
def seq (x y : ByteArray) : Bool := x.toList == y.toList
def Z36 (s : ByteArray) : List Int := s.data.toList.map fun b => (b.toNat : Int)
def strI (l : List Int) : ByteArray := ⟨(l.map fun n => UInt8.ofNat n.toNat).toArray⟩
def encM {α : Type} (e : α → PV) (q : Int × α) : Int × PV := (q.1, e q.2)
def getM {α : Type} : List (Int × α) → Int → Option α
 | [], _ => none
 | q :: r, n => if q.1 = n then some q.2 else getM r n
def putM {α : Type} : List (Int × α) → Int → α → List (Int × α)
 | [], n, y => [(n, y)]
 | q :: r, n, y => if q.1 = n then (n, y) :: r else q :: putM r n y
theorem Zkz {α : Type} (e : α → PV) : ∀ (es : List (Int × α)) (n : Int), getE (es.map (encM e)) n = (getM es n).map e
 | [], _ => rfl
 | q :: r, n => by
  simp only [List.map_cons, getE, getM, encM]
  split
  ·rfl
  ·exact Zkz e r n
theorem ZkN {α : Type} (e : α → PV) (y : α) : ∀ (es : List (Int × α)) (n : Int), putE (es.map (encM e)) n (e y) = (putM es n y).map (encM e)
 | [], _ => rfl
 | q :: r, n => by
  simp only [List.map_cons, putE, putM, encM]
  split
  ·rfl
  ·rw [List.map_cons, ← ZkN e y r n]; rfl
theorem Z6d {α : Type} {e : α → PV} {cs : α → List PV} {n : Nat} (hn : ∀ a, Z1L (e a) = cs a) (hl : ∀ a, (cs a).length = n) (h0 : 0 < n) {l : List α} {i : Int} {a : α} {o : Own} {k : IntKind} (h : lget l i = some a) :
  xidx n (.p (.lst o (l.map e))) (.p (.v (.int k i))) = some (.cptr (cs a)) := by
 unfold lget at h
 split at h
 ·rename_i hi
  have : (Z1L (e a)).length = n := by rw [hn, hl]
  simp only [xidx, asInt, if_pos hi, List.getElem?_map, h, Option.map_some]
  rw [if_pos (by simp [this, h0]), hn]
 ·simp at h
theorem ZkZ {α : Type} {e : α → PV} {n : Nat} (hn : ∀ a, (Z1L (e a)).length = n) (l : List α) : szOk n (l.map e) = true := by
 unfold szOk
 simp [List.all_eq_true, hn]
theorem Zeh {α : Type} {e : α → PV} {n : Nat} (hn : ∀ a, (Z1L (e a)).length = n) (h0 : 0 < n) {xs ys zs : List α} {o o' : Own} (ho : ZF o = true) (h : lapp xs ys = some zs) :
  xapp n (.p (.lst o (xs.map e))) (.p (.lst o' (ys.map e))) = some (.p (.lst (apo o (ys.map e)) (zs.map e))) := by
 unfold lapp at h
 split at h
 ·rename_i hl
  cases h
  simp only [xapp, Zj8, Z2m]
  rw [if_pos (by simp [ho, ZkZ hn, h0, hl]), List.map_append]
 ·simp at h
theorem Zmf (s : ByteArray) : Z5Z s = (Z36 s).map (eI .u8) := by
 unfold Z5Z Z36
 rw [List.map_map]
 rfl
theorem Zpo {α : Type} {e : α → PV} {n : Nat} (hn : ∀ a, (Z1L (e a)).length = n) (h0 : 0 < n) {l r : List α} {lo hi : Option AV} {a b : Int} {o : Own} (ha : optI 0 lo = some a) (hb : optI l.length hi = some b) (h : lsl l a b = some r) :
  xsl n (.p (.lst o (l.map e))) lo hi none = some (.p (.lst (slO o) (r.map e))) := by
 unfold lsl at h
 split at h
 ·rename_i hc
  cases h
  have hlen : (l.map e).length = l.length := by simp
  simp only [xsl, hlen, ha, hb, Z2m]
  rw [if_pos ⟨hc.1, hc.2.1, hc.2.2, ZkZ hn l, h0⟩]
  simp only [List.map_drop, List.map_take]
  cases o <;> rfl
 ·simp at h
theorem Z5r {α : Type} {P : Program} {t : TypeId} {d : TypeId} (h : P.underlying t = some (.slice d)) (e : α → PV) (o : Own) (l : List α) : xlen P t (.p (.lst o (l.map e))) = some (.p (.v (.int .i64 l.length))) := by
 rw [Zt7 h, List.length_map]
theorem Zqi {P : Program} {t : TypeId} {x y z : ByteArray} (h : sadd x y = some z) : xbin P .add t (.p (.v (.string x))) (.p (.v (.string y))) = some (.p (.v (.string z))) := by
 unfold sadd at h
 split at h
 ·simp at h
 ·rename_i hc
  cases h
  have : Z1l P (Op.stringOp .add x y) = some (.string (x ++ y)) := by
   unfold Op.stringOp
   simp only
   rw [if_neg hc]
   rfl
  show ob (Z1l P (Op.stringOp .add x y)) Z6t = _
  rw [this]
  rfl
theorem Zgx : ∀ (l : List Int), bytesOf (l.map (eI .u8)) = some (l.map fun n => UInt8.ofNat n.toNat)
 | [] => rfl
 | n :: r => by simp [bytesOf, byteOf, eI, Zgx r]
theorem Zrd (o : Own) (l : List Int) : xstr (.p (.lst o (l.map (eI .u8)))) = some (.p (.v (.string (strI l)))) := by
 simp only [xstr, Zgx, Option.map_some]
 rfl
theorem Zrc (s : ByteArray) : xbyt (.p (.v (.string s))) = some (.p (.lst .sh ((Z36 s).map (eI .u8)))) := by
 simp only [xbyt, Zmf]
theorem Zl5 {P : Program} {s d : TypeId} (h : (Z8A P d && Z5F P s .u8) = true) (o : Own) (l : List Int) : xcnv P s d (.p (.lst o (l.map (eI .u8)))) = some (.p (.v (.string (strI l)))) := by
 unfold xcnv; rw [if_pos h]; exact Zrd o l
theorem Zqg {P : Program} {s d : TypeId} (h0 : (Z8A P d && Z5F P s .u8) = false) (h : (Z8A P s && Z5F P d .u8) = true) (x : ByteArray) : xcnv P s d (.p (.v (.string x))) = some (.p (.lst .sh ((Z36 x).map (eI .u8)))) := by
 unfold xcnv; rw [if_neg (by simp [h0]), if_pos h]; exact Zrc x
theorem Zqh {α : Type} {e : α → PV} {z : α} {es : List (Int × α)} {id : Nat} {B : List Row} {P : Program} {t te : TypeId} {n : Int} (hm : mapE P t = some te) (h : B[id]? = some [.md (es.map (encM e))])
  (hz : ((P.info? te).bind (·.zero)).bind Z6t = some (.p (e z))) (c : Bool) :
  Zf1 P t c (.mp id) (.p (.v (.int .i64 n))) B = some (.p (if c = true then .tup [e ((getM es n).getD z), .v (.bool (getM es n).isSome)] else e ((getM es n).getD z))) := by
 unfold Zf1 Zc0
 simp only [hm, h, Z2m, mdOf, asK, Zkz]
 cases hg : getM es n with
 | some y => simp
 | none =>
  obtain ⟨zv, h1, h2⟩ := Option.bind_eq_some_iff.1 hz
  simp [h1, h2, Z2m, Zan]
theorem Z5T {α : Type} {e : α → PV} {a : α} {es : List (Int × α)} {id : Nat} {B B2 : List Row} {P : Program} {t te : TypeId} {n : Int} {y : PV} {K : List Row → Option Res} (hm : mapE P t = some te) (h : B[id]? = some [.md (es.map (encM e))])
  (hy : nrm y = e a) (hp : Z4S (.p y) = false) (hB : B.set id [.md ((putM es n a).map (encM e))] = B2) : xupd P t (.mp id) (.p (.v (.int .i64 n))) (.p y) B K = K B2 := by
 unfold xupd Zc0
 simp only [hm, h, Z2m, mdOf, asK, Zan, hp, hy, ZkN, hB]
 rfl
def nilO {α : Type} (o : Own) (l : List α) : Option Bool :=
 match o with
 | .nl => some true
 | .ex | .un => some false
 | .sh => match l with
  | [] => none
  | _ :: _ => some false
theorem ZpJ {α : Type} {e : α → PV} {o : Own} {l : List α} {b : Bool} (h : nilO o l = some b) : Z9b (.p (.lst o (l.map e))) = some b := by
 cases o <;> cases l <;> simp_all [nilO, Z9b]
theorem Zf2 {α : Type} {P : Program} {t : TypeId} {c : Value} {e : α → PV} {o : Own} {l : List α} {b : Bool} (hk : Ze7 P t c (.p (.lst o (l.map e))) = true) (h : nilO o l = some b) : xnil P .neq t c (.p (.lst o (l.map e))) = some (.p (.v (.bool (!b)))) := by
 unfold xnil; rw [if_pos hk, ZpJ h]; rfl
end Go.Abs
end
section
set_option linter.unusedSimpArgs false
set_option linter.unusedVariables false
namespace Go.Abs
open Go
theorem Z6w {α β : Type} (P : Program) (s : Sem α) (k : α → Sem β) : Z1l P (s >>= k) = (Z1l P s).bind fun a => Z1l P (k a) := by
 show Z1l P (Sem.bind s k) = _
 induction s with
 | pure x => simp [Sem.bind, Z1l]
 | program c ih => simp only [Sem.bind, Z1l]; exact ih P
 | _ => simp [Sem.bind, Z1l]
theorem Z5q {α : Type} (P : Program) (a : α) : Z1l P (pure a : Sem α) = some a := rfl
theorem ZeU (P : Program) : Z1l P program = some P := rfl
theorem Z7w {P : Program} {t : TypeId} {d : TypeDesc} (h : P.underlying t = some d) : Z1l P (underlying t) = some d := by
 simp [underlying, Z6w, ZeU, h, Z5q]
theorem ZfL {α : Type} (P : Program) (c : Prop) [Decidable c] (a b : Sem α) : Z1l P (if c then a else b) = if c then Z1l P a else Z1l P b := by split <;> rfl
theorem Zpb (P : Program) (d : Nat) (t : TypeId) (xs ys : Array Value) (ht : P.underlying t = some (.struct (P.fieldsOf t))) (hp' : P.stoodInHeld t = false) :
  Z1l P (Op.equalIn (d + 1) t (.agg xs) (.agg ys)) = Z1l P (Op.eqFields d xs ys (P.fieldsOf t).toList) := by
 simp only [Op.equalIn, Z6w, Z7w ht, Option.bind_some, ZeU, hp', Bool.false_eq_true, if_false, Z5q, ZfL]
 rw [← Array.forIn_toList]
 generalize (P.fieldsOf t).toList = fs
 clear ht
 induction fs with
 | nil => simp [Op.eqFields, Z5q]
 | cons f fs ih =>
  simp only [List.forIn_cons, Op.eqFields, Z6w, ZfL]
  split
  ·cases Z1l P (part f.type xs f.offset) with
   | none => rfl
   | some a =>
    simp only [Option.bind_some]
    cases Z1l P (part f.type ys f.offset) with
    | none => rfl
    | some b =>
     simp only [Option.bind_some]
     cases Z1l P (Op.equalIn d f.type a b) with
     | none => rfl
     | some r =>
      cases r
      ·simp [Z5q]
      ·simp only [Option.bind_some, Bool.not_true, Bool.false_eq_true, if_false, Z5q]
       exact ih
  ·simp only [Z5q, Option.bind_some]
   exact ih
theorem Zq3 {P : Program} {d : Nat} {t : TypeId} {k k' : IntKind} (a b : Int) (h : P.underlying t = some (.int k')) : Z1l P (Op.equalIn (d + 1) t (.int k a) (.int k b)) = some (a == b) := by
 simp [Op.equalIn, Z6w, Z7w h, Z5q]
theorem Zp9 {P : Program} {d : Nat} {t : TypeId} (a b : Bool) (h : P.underlying t = some .bool) : Z1l P (Op.equalIn (d + 1) t (.bool a) (.bool b)) = some (a == b) := by
 simp [Op.equalIn, Z6w, Z7w h, Z5q]
theorem Zq4 {P : Program} {d : Nat} {t : TypeId} (a b : ByteArray) (h : P.underlying t = some .string) : Z1l P (Op.equalIn (d + 1) t (.string a) (.string b)) = some (seq a b) := by
 simp [Op.equalIn, Z6w, Z7w h, Z5q, beq_toListBytes, seq]
def eqC : PV → PV → Bool
 | .v (.int _ a), .v (.int _ b) => a == b
 | .v (.bool a), .v (.bool b) => a == b
 | .v (.string a), .v (.string b) => seq a b
 | _, _ => true
def okC (P : Program) (t : TypeId) (x y : PV) : Bool :=
 match P.underlying t, x, y with
 | some (.int _), .v (.int k _), .v (.int k' _) => k == k'
 | some .bool, .v (.bool _), .v (.bool _) => true
 | some .string, .v (.string _), .v (.string _) => true
 | _, _, _ => false
def eqCs : List PV → List PV → Bool
 | x :: xs, y :: ys => eqC x y && eqCs xs ys
 | _, _ => true
def okFs (P : Program) : Nat → List Field → List PV → List PV → Bool
 | i, f :: fs, x :: xs, y :: ys => f.name != "_" && f.offset == i && okC P f.type x y && okFs P (i + 1) fs xs ys
 | _, [], [], [] => true
 | _, _, _, _ => false
theorem ZsO {P : Program} {d : Nat} {t : TypeId} {x y : PV} {a b : Value} (h : okC P t x y = true) (hx : Z6l x = some a) (hy : Z6l y = some b) : Z1l P (Op.equalIn (d + 1) t a b) = some (eqC x y) := by
 unfold okC at h
 split at h <;> simp only [Z6l, Option.some.injEq] at hx hy
 ·subst hx; subst hy
  have e := beq_iff_eq.1 h
  subst e
  exact Zq3 _ _ ‹_›
 ·subst hx; subst hy; exact Zp9 _ _ ‹_›
 ·subst hx; subst hy; exact Zq4 _ _ ‹_›
 ·simp at h
theorem Zm2 {P : Program} {t : TypeId} {xs : Array Value} {i : Nat} {v : Value} (ha : Z1l P (isAgg t) = some false) (h : xs[i]? = some v) : Z1l P (part t xs i) = some v := by
 unfold part
 simp [Z6w, ha, h, ZfL, Z5q]
theorem Zds : ∀ {l : List PV} {vs : List Value}, Z6x l = some vs → ∀ (i : Nat) (x : PV), l[i]? = some x → ∃ v, Z6l x = some v ∧ vs[i]? = some v
 | [], _, _, i, x, h => by simp at h
 | p :: r, vs, h, i, x, hx => by
  simp only [Z6x] at h
  split at h
  ·rename_i a b ha hb
   cases h
   cases i with
   | zero => simp at hx; subst hx; exact ⟨a, ha, rfl⟩
   | succ i => simpa using Zds hb i x (by simpa using hx)
  ·simp at h
theorem ZlY {P : Program} {t : TypeId} {x y : PV} (h : okC P t x y = true) : Z1l P (isAgg t) = some false := by
 unfold okC at h
 split at h <;> first | (simp [isAgg, Z6w, Z7w ‹_›, Z5q]) | (simp at h)
theorem Zpa {P : Program} {d : Nat} {xs ys : List PV} {us vs : List Value} (hx : Z6x xs = some us) (hy : Z6x ys = some vs) : ∀ (fs : List Field) (i : Nat), okFs P i fs (xs.drop i) (ys.drop i) = true →
  Z1l P (Op.eqFields (d + 1) us.toArray vs.toArray fs) = some (eqCs (xs.drop i) (ys.drop i)) := by
 intro fs
 induction fs with
 | nil =>
  intro i h
  cases hxi : xs.drop i <;> cases hyi : ys.drop i <;> rw [hxi, hyi] at h <;> simp_all [okFs, Op.eqFields, eqCs, Z5q]
 | cons f fs ih =>
  intro i h
  cases hxi : xs.drop i with
  | nil => rw [hxi] at h; simp [okFs] at h
  | cons x xr =>
   cases hyi : ys.drop i with
   | nil => rw [hxi, hyi] at h; simp [okFs] at h
   | cons y yr =>
    rw [hxi, hyi] at h
    simp only [okFs, Bool.and_eq_true, bne_iff_ne, beq_iff_eq, ne_eq] at h
    obtain ⟨⟨⟨h1, h2⟩, h3⟩, h4⟩ := h
    have gx : xs[i]? = some x := by rw [← List.head?_drop, hxi]; rfl
    have gy : ys[i]? = some y := by rw [← List.head?_drop, hyi]; rfl
    have dx : xs.drop (i + 1) = xr := by rw [← List.tail_drop, hxi]; rfl
    have dy : ys.drop (i + 1) = yr := by rw [← List.tail_drop, hyi]; rfl
    obtain ⟨a, ha, hau⟩ := Zds hx i x gx
    obtain ⟨b, hb, hbv⟩ := Zds hy i y gy
    have ih' := ih (i + 1) (by rw [dx, dy]; exact h4)
    rw [dx, dy] at ih'
    simp only [Op.eqFields, ZfL, Z6w]
    rw [if_pos h1, h2, Zm2 (ZlY h3) (by simpa using hau), Zm2 (ZlY h3) (by simpa using hbv)]
    simp only [Option.bind_some, ZsO h3 ha hb, ih', eqCs]
    cases eqC x y <;> simp [Z5q]
theorem Zq5 {P : Program} {op : BinOp} {t : TypeId} {x y : Operand} {xs ys : Array Value} (h : P.eqGuardType P.depth t = false) : Z1l P (eqGuard op t x y (.agg xs) (.agg ys)) = some () := by
 cases op <;> simp [eqGuard, Z6w, ZeU, h, Z5q, ZfL]
theorem Zf5 {P : Program} : ∀ {fs : List Field} {i : Nat} {xs ys : List PV}, okFs P i fs xs ys = true → (∃ us, Z6x xs = some us) ∧ ∃ vs, Z6x ys = some vs
 | [], i, [], [], _ => ⟨⟨[], rfl⟩, [], rfl⟩
 | [], i, [], _ :: _, h => by simp [okFs] at h
 | [], i, _ :: _, _, h => by simp [okFs] at h
 | f :: fs, i, [], _, h => by simp [okFs] at h
 | f :: fs, i, _ :: _, [], h => by simp [okFs] at h
 | f :: fs, i, x :: xs, y :: ys, h => by
  simp only [okFs, Bool.and_eq_true] at h
  obtain ⟨⟨us, hu⟩, vs, hv⟩ := Zf5 h.2
  have hc := h.1.2
  unfold okC at hc
  split at hc <;> first | (simp at hc; done) | (simp only [Z6x, Z6l, hu, hv]; exact ⟨⟨_, rfl⟩, _, rfl⟩)
theorem ZiH {P : Program} {t : TypeId} {xs ys : List PV} {b : Bool} (ht : P.underlying t = some (.struct (P.fieldsOf t))) (hp : P.stoodInHeld t = false) (hg : P.eqGuardType P.depth t = false)
  (hf : okFs P 0 (P.fieldsOf t).toList xs ys = true) (hb : eqCs xs ys = b) : xbin P .eql t (.p (.agg xs)) (.p (.agg ys)) = some (.p (.v (.bool b))) := by
 subst hb
 obtain ⟨⟨us, hu⟩, vs, hv⟩ := Zf5 hf
 have e : Z1l P (Op.equal t (.agg us.toArray) (.agg vs.toArray)) = some (eqCs xs ys) := by
  unfold Op.equal Op.maxDepth
  rw [show (10000 : Nat) = 9998 + 1 + 1 from rfl, Zpb P _ t _ _ ht hp]
  exact Zpa hu hv _ 0 hf
 unfold xbin
 simp only [Zad, hu, hv, Option.map_some, Z9c, Bool.and_self, if_true]
 have : Z1l P (do eqGuard .eql t (.tmp 0) (.tmp 0) (.agg us.toArray) (.agg vs.toArray); binOp .eql t (.agg us.toArray) (.agg vs.toArray)) = some (.bool (eqCs xs ys)) := by
  rw [Z6w, Zq5 hg]
  simp only [Option.bind_some, binOp, Z6w, e, Z5q]
 rw [this]
 rfl
end Go.Abs
end
section
set_option linter.unusedSimpArgs false
set_option linter.unusedVariables false
namespace Go.Abs
open Go Go.RowKit Go.ChangeShapes Go.WideShapes Go.ChangeAt Go.Deep
def Z6e (w : World) (ps : List PV) (cs : List Value) : Prop :=
 ps.length = cs.length ∧ ∀ (i : Nat) (p : PV) (v : Value), ps[i]? = some p → cs[i]? = some v → Z4w p = true ∧ PRel w (Old w) p v
section
variable {H : Type} {enc : TypeId × Value → H} {P : Program} {w : World}
theorem Z6e.one {p : PV} {v : Value} (h1 : Z4w p = true) (h2 : PRel w (Old w) p v) : Z6e w [p] [v] := by
 refine ⟨rfl, fun i q u hq hu => ?_⟩
 cases i with
 | zero => simp at hq hu; subst hq; subst hu; exact ⟨h1, h2⟩
 | succ i => simp at hq
theorem Z6e.nil : Z6e w [] [] := ⟨rfl, fun i q u hq => by simp at hq⟩
theorem Z6e.app {p q : List PV} {cs : List Value} {n : Nat} (h1 : Z6e w p (cs.take n)) (h2 : Z6e w q (cs.drop n)) : Z6e w (p ++ q) cs := by
 have e := List.take_append_drop n cs
 refine ⟨by rw [List.length_append, h1.1, h2.1, ← List.length_append, e], fun i a v ha hv => ?_⟩
 by_cases hi : i < p.length
 ·rw [List.getElem?_append_left hi] at ha
  refine h1.2 i a v ha ?_
  rw [← e, List.getElem?_append_left (by rw [← h1.1]; exact hi)] at hv
  exact hv
 ·rw [List.getElem?_append_right (by omega)] at ha
  refine h2.2 (i - p.length) a v ha ?_
  rw [← e, List.getElem?_append_right (by rw [← h1.1]; omega), ← h1.1] at hv
  exact hv
theorem Z6e.next {p q : List PV} {cs : List Value} {o n : Nat} (h1 : Z6e w p ((cs.drop o).take n)) (h2 : Z6e w q (cs.drop (o + n))) : Z6e w (p ++ q) (cs.drop o) :=
 Z6e.app h1 (by rw [List.drop_drop]; exact h2)
theorem Z6e.agg {ps : List PV} {arr : Array Value} (h : Z6e w ps arr.toList) : PRel w (Old w) (.agg ps) (.agg arr) := by
 refine .agg ps arr (by rw [h.1]; simp) ?_ ?_
 ·intro c hc
  obtain ⟨i, hi⟩ := List.getElem?_of_mem hc
  have : i < arr.toList.length := by rw [← h.1]; exact (List.getElem?_eq_some_iff.1 hi).1
  exact (h.2 i c arr.toList[i] hi (List.getElem?_eq_getElem this)).1
 ·intro i c v hc hv
  exact (h.2 i c v hc (by simpa using hv)).2
end
end Go.Abs
end
section
set_option linter.unusedSimpArgs false
set_option linter.unusedVariables false
namespace Go.Abs
open Go
theorem Zl6 {P : Program} {k : IntKind} (a b : Int) : Z8I P true [.p (.v (.int k a)), .p (.v (.int k b))] = some (.p (.v (.int k (max a b)))) := by
 have : Z1l P (Builtin.max_ #[] 0 [Value.int k a, Value.int k b].toArray) = some (.int k (max a b)) := by
  have e : (if b > a then b else a) = max a b := by omega
  rw [← e]
  rfl
 show ob (Z1l P (Builtin.max_ #[] 0 [Value.int k a, Value.int k b].toArray)) Z6t = _
 rw [this]
 rfl
def pOwn : PV → Own | .lst o _ => o | _ => .sh
end Go.Abs
end
