/- A typed reading of what the evaluator comes to. No condition. -/
import Derived.Test.YtocikhhkicahoaaDoorEvD
import Derived.KernelRfl
import Derived.Laws.StructEq
import Derived.Deep.Slices
import Derived.ChangeArms
import Derived.ChangeMaps5
import Derived.ChangeAt
import Derived.WideShapes
import Derived.SizedLaws

set_option linter.unusedSimpArgs false
set_option linter.unusedVariables false
set_option linter.defProp false
section
namespace Go.Abs
open Go
def RRun {R : Type} (Q : R → Res → Prop) (y : Option Res) (r : R) : Prop := ∃ q, y = some q ∧ Q r q
def Sim {R : Type} (Q : R → Res → Prop) (x : Option R) (y : Option Res) : Prop := ∀ r, x = some r → RRun Q y r
noncomputable def pick {R : Type} (p : R → Prop) : Option R := open Classical in if h : ∃ r, p r then some h.choose else none
theorem Z1j {R : Type} {p : R → Prop} {r : R} (h : pick p = some r) : p r := by
 unfold pick at h
 split at h
 ·rename_i hh
  have := hh.choose_spec
  rw [Option.some.inj h] at this
  exact this
 ·simp at h
theorem Z1i {R : Type} {p : R → Prop} (hu : ∀ a b, p a → p b → a = b) {r : R} (h : p r) : pick p = some r := by
 unfold pick
 have hh : ∃ r, p r := ⟨r, h⟩
 rw [dif_pos hh]
 exact congrArg some (hu _ _ hh.choose_spec h)
theorem RRun.uniq {R : Type} {Q : R → Res → Prop} (hu : ∀ r r' q, Q r q → Q r' q → r = r') {y : Option Res} {a b : R} (ha : RRun Q y a) (hb : RRun Q y b) : a = b := by
 obtain ⟨q, e, h⟩ := ha
 obtain ⟨q', e', h'⟩ := hb
 rw [e] at e'
 cases e'
 exact hu _ _ _ h h'
section
variable {R : Type} {Q : R → Res → Prop} {x x' : Option R} {y y' : Option Res}
theorem Sim.none : Sim Q Option.none y := fun _ h => by cases h
theorem Sim.ret {r : R} {q : Res} (h : Q r q) : Sim Q (some r) (some q) := fun _ e => by cases e; exact ⟨q, rfl, h⟩
theorem Sim.cast (h : y = y') (s : Sim Q x y') : Sim Q x y := h ▸ s
theorem Sim.mk (s : Sim Q x y) : Sim Q x (mk y) := s
theorem Sim.lp (s : Sim Q x y) : Sim Q x (lp y) := s
theorem Sim.ob1 {α : Type} {v : α} {z : Option α} {K : α → Option Res} (h : z = some v) (s : Sim Q x (K v)) : Sim Q x (ob z K) := by rw [h]; exact s
theorem Sim.asB {b : Bool} {v : AV} {K : Bool → Option Res} (h : v = .p (.v (.bool b))) (s : Sim Q x (K b)) : Sim Q x (asB v K) := by rw [h]; exact s
theorem Sim.br {b : Bool} {y1 y2 : Option Res} {x1 x2 : Option R} (s1 : b = true → Sim Q x1 y1) (s2 : b = false → Sim Q x2 y2) : Sim Q (if b = true then x1 else x2) (br b y1 y2) := by
 cases b with
 | true => exact s1 rfl
 | false => exact s2 rfl
theorem Sim.grd {b : Bool} (h : b = true) (s : Sim Q x y) : Sim Q x (grd b y) := by rw [h]; exact s
theorem Sim.bind {α : Type} {z : Option α} {k : α → Option R} (s : ∀ a, z = some a → Sim Q (k a) y) : Sim Q (z.bind k) y := by
 intro r h
 cases hz : z with
 | none => rw [hz] at h; simp at h
 | some a => rw [hz] at h; exact s a hz r h
theorem Sim.kv {v : AV} {B2 : List Row} {z : Option Res} {K : AV → List Row → Option Res} (h : z = K v B2) (s : Sim Q x (K v B2)) : Sim Q x z := by rw [h]; exact s
theorem Sim.bx {v : AV} {B B2 : List Row} {a : AV} {K : AV → List Row → Option Res} (h : ∀ K : AV → List Row → Option Res, bx a B K = K v B2) (s : Sim Q x (K v B2)) : Sim Q x (bx a B K) := by rw [h]; exact s
theorem Sim.bz {P : Program} {t : TypeId} {v : AV} {B B2 : List Row} {K : AV → List Row → Option Res} (h : ∀ K : AV → List Row → Option Res, bz P t B K = K v B2) (s : Sim Q x (K v B2)) : Sim Q x (bz P t B K) := by rw [h]; exact s
theorem Sim.ldOwn {a v : AV} {B B2 : List Row} {K : AV → List Row → Option Res} (h : ∀ K : AV → List Row → Option Res, ldOwn a B K = K v B2) (s : Sim Q x (K v B2)) : Sim Q x (ldOwn a B K) := by rw [h]; exact s
theorem Sim.stN {n : Nat} {a v : AV} {B B2 : List Row} {K : List Row → Option Res} (h : ∀ K : List Row → Option Res, stN n a v B K = K B2) (s : Sim Q x (K B2)) : Sim Q x (stN n a v B K) := by rw [h]; exact s
theorem Sim.xmake {P : Program} {t : TypeId} {v : AV} {B B2 : List Row} {K : AV → List Row → Option Res} (h : ∀ K : AV → List Row → Option Res, xmake P t B K = K v B2) (s : Sim Q x (K v B2)) : Sim Q x (xmake P t B K) := by rw [h]; exact s
theorem Sim.xupd {P : Program} {t : TypeId} {m k a : AV} {B B2 : List Row} {K : List Row → Option Res} (h : ∀ K : List Row → Option Res, xupd P t m k a B K = K B2) (s : Sim Q x (K B2)) : Sim Q x (xupd P t m k a B K) := by rw [h]; exact s
theorem Sim.xdel {P : Program} {t : TypeId} {m k : AV} {B B2 : List Row} {K : List Row → Option Res} (h : ∀ K : List Row → Option Res, xdel P t m k B K = K B2) (s : Sim Q x (K B2)) : Sim Q x (xdel P t m k B K) := by rw [h]; exact s
end
def aft (rs : List Nat) (B : List Row) (k : AV → List Row → Option Res) (r : Res) : Option Res :=
 let m := rs.length
  let B' := r.2.take m
  if below m (ptrs r.1) && B'.all (fun row => below m (Z1l row)) then
   let back := fun id => rs.getD id 0
   k (Z2o back r.1) (Z2C B rs (B'.map (Z1U back)))
  else
   let n := B.length
   let back := fun id => if id < m then rs.getD id 0 else n + (id - m)
   k (Z2o back r.1) (Z2C B rs (B'.map (Z1U back)) ++ (r.2.drop m).map (Z1U back))
theorem Sim.callS {R : Type} {Q : R → Res → Prop} {x : Option R} {raw : Bool} {G : GF} {g : FuncId} {args : List AV} {B B2 : List Row} {K : AV → List Row → Option Res} {rs : List Nat} {y : Option Res} {q : Res} {v : AV}
  (hc : ∀ K : AV → List Row → Option Res, callS raw G g args B K = ob y (aft rs B K)) (e : y = some q) (ha : ∀ K : AV → List Row → Option Res, aft rs B K q = K v B2) (s : Sim Q x (K v B2)) : Sim Q x (callS raw G g args B K) := by
 rw [hc, e]
 show Sim Q x (aft rs B K q)
 rw [ha]
 exact s
theorem Sim.callV {R : Type} {Q : R → Res → Prop} {x : Option R} {H : Hints} {G : GF} {g : AV} {args : List AV} {B B2 : List Row} {K : AV → List Row → Option Res} {rs : List Nat} {y : Option Res} {q : Res} {v : AV}
  (hc : ∀ K : AV → List Row → Option Res, callV H G g args B K = ob y (aft rs B K)) (e : y = some q) (ha : ∀ K : AV → List Row → Option Res, aft rs B K q = K v B2) (s : Sim Q x (K v B2)) : Sim Q x (callV H G g args B K) := by
 rw [hc, e]
 show Sim Q x (aft rs B K q)
 rw [ha]
 exact s
section
variable {R : Type} {Q : R → Res → Prop} {x x' : Option R} {y y' : Option Res}
theorem ze (s : Sim Q x y) : Sim Q x (mk y) := s
theorem zo (v : AV) {z : Option AV} {K : AV → Option Res} (s : Sim Q x (K v)) (h : z = some v := by kernel_rfl) : Sim Q x (ob z K) := Sim.ob1 h s
theorem zp (v : AV) {z : Option AV} {K : AV → Option Res} (h : z = some v) (s : Sim Q x (K v)) : Sim Q x (ob z K) := Sim.ob1 h s
def the (z : Option AV) : AV := match z with | some v => v | none => .p .junk
theorem zq {z : Option AV} {K : AV → Option Res} (s : Sim Q x (K (the z))) (h : z = some (the z) := by kernel_rfl) : Sim Q x (ob z K) := Sim.ob1 h s
theorem za (b : Bool) {v : AV} {x1 x2 : Option R} {y1 y2 : Option Res} (s1 : Sim Q x1 y1) (s2 : Sim Q x2 y2) (h : v = .p (.v (.bool b)) := by kernel_rfl) : Sim Q (if b = true then x1 else x2) (asB v fun t => br t y1 y2) :=
 Sim.asB h (Sim.br (fun _ => s1) (fun _ => s2))
theorem zg {b : Bool} (s : Sim Q x y) (h : b = true := by kernel_rfl) : Sim Q x (grd b y) := Sim.grd h s
theorem zx (v : AV) (B2 : List Row) {B : List Row} {a : AV} {K : AV → List Row → Option Res} (s : Sim Q x (K v B2)) (h : (fun K : AV → List Row → Option Res => bx a B K) = fun K => K v B2 := by kernel_rfl) : Sim Q x (bx a B K) := Sim.bx (fun K => congrFun h K) s
theorem zz (v : AV) (B2 : List Row) {P : Program} {t : TypeId} {B : List Row} {K : AV → List Row → Option Res} (s : Sim Q x (K v B2)) (h : (fun K : AV → List Row → Option Res => bz P t B K) = fun K => K v B2 := by kernel_rfl) : Sim Q x (bz P t B K) := Sim.bz (fun K => congrFun h K) s
theorem zw (v : AV) (B2 : List Row) {a : AV} {B : List Row} {K : AV → List Row → Option Res} (s : Sim Q x (K v B2)) (h : (fun K : AV → List Row → Option Res => ldOwn a B K) = fun K => K v B2 := by kernel_rfl) : Sim Q x (ldOwn a B K) := Sim.ldOwn (fun K => congrFun h K) s
theorem zt (B2 : List Row) {n : Nat} {a v : AV} {B : List Row} {K : List Row → Option Res} (s : Sim Q x (K B2)) (h : (fun K : List Row → Option Res => stN n a v B K) = fun K => K B2 := by kernel_rfl) : Sim Q x (stN n a v B K) := Sim.stN (fun K => congrFun h K) s
theorem zc (rs : List Nat) (v : AV) (B2 : List Row) {raw : Bool} {G : GF} {g : FuncId} {args : List AV} {B : List Row} {K : AV → List Row → Option Res} {z : Option Res} {q : Res} (e : z = some q) (s : Sim Q x (K v B2))
  (hc : (fun K : AV → List Row → Option Res => callS raw G g args B K) = fun K => ob z (aft rs B K) := by kernel_rfl) (ha : (fun K : AV → List Row → Option Res => aft rs B K q) = fun K => K v B2 := by kernel_rfl) : Sim Q x (callS raw G g args B K) :=
 Sim.callS (fun K => congrFun hc K) e (fun K => congrFun ha K) s
theorem zv (rs : List Nat) (v : AV) (B2 : List Row) {H : Hints} {G : GF} {g : AV} {args : List AV} {B : List Row} {K : AV → List Row → Option Res} {z : Option Res} {q : Res} (e : z = some q) (s : Sim Q x (K v B2))
  (hc : (fun K : AV → List Row → Option Res => callV H G g args B K) = fun K => ob z (aft rs B K) := by kernel_rfl) (ha : (fun K : AV → List Row → Option Res => aft rs B K q) = fun K => K v B2 := by kernel_rfl) : Sim Q x (callV H G g args B K) :=
 Sim.callV (fun K => congrFun hc K) e (fun K => congrFun ha K) s
theorem zi {α : Type} {z : Option α} {k : α → Option R} (s : ∀ a, z = some a → Sim Q (k a) y) : Sim Q (z.bind k) y := Sim.bind s
theorem zk (s : Sim Q x y') (h : y = y' := by kernel_rfl) : Sim Q x y := Sim.cast h s
theorem zf (h : y = y') (s : Sim Q x y') : Sim Q x y := Sim.cast h s
theorem zr (q : Res) {r : R} (h : Q r q) (e : y = some q := by kernel_rfl) : Sim Q (some r) y := Sim.cast e (Sim.ret h)
end
def eI (k : IntKind) (n : Int) : PV := .v (.int k n)
def eB (b : Bool) : PV := .v (.bool b)
def eS (s : ByteArray) : PV := .v (.string s)
def eL {α : Type} (e : α → PV) (l : List α) : PV := .lst .sh (l.map e)
def pI : PV → Int | .v (.int _ n) => n | _ => 0
def pB : PV → Bool | .v (.bool b) => b | _ => false
def pS : PV → ByteArray | .v (.string b) => b | _ => default
def pL : PV → List PV | .lst _ l => l | .ml _ l => l | _ => []
def pC : PV → List PV | .agg l => l | _ => []
def pT : PV → List PV | .tup l => l | _ => []
def pA : AV → PV | .p x => x | _ => .junk
def cellAt (q : Res) (i j : Nat) : AV := (q.2.getD i []).getD j jk
theorem Z5i {α β : Type} {e : α → β} (h : ∀ a b, e a = e b → a = b) : ∀ {l l' : List α}, l.map e = l'.map e → l = l'
 | [], [], _ => rfl
 | [], _ :: _, h' => by simp at h'
 | _ :: _, [], h' => by simp at h'
 | a :: l, b :: l', h' => by
  simp only [Z9x, Zly] at h'
  rw [h a b h'.1, Z5i h h'.2]
theorem Z8n {k : IntKind} (a b : Int) (h : eI k a = eI k b) : a = b := congrArg pI h
theorem ZEM (a b : Bool) (h : eB a = eB b) : a = b := congrArg pB h
theorem ZEN (a b : ByteArray) (h : eS a = eS b) : a = b := congrArg pS h
theorem ZyZ {α : Type} {e : α → PV} (hi : ∀ a b, e a = e b → a = b) (a b : List α) (h : eL e a = eL e b) : a = b := Z5i hi (congrArg pL h)
def lget {α : Type} (l : List α) (i : Int) : Option α := if 0 ≤ i then l[i.toNat]? else none
def lapp {α : Type} (l r : List α) : Option (List α) := if l.length + r.length ≤ lim then some (l ++ r) else none
def lsl {α : Type} (l : List α) (lo hi : Int) : Option (List α) := if 0 ≤ lo ∧ lo ≤ hi ∧ hi ≤ l.length then some ((l.take hi.toNat).drop lo.toNat) else none
def slO : Own → Own
 | .nl => .nl
 | _ => .sh
def ssl (s : ByteArray) (lo hi : Int) : Option ByteArray := if 0 ≤ lo ∧ lo ≤ hi ∧ hi ≤ s.size then some (s.extract lo.toNat hi.toNat) else none
def sadd (x y : ByteArray) : Option ByteArray := if ((x.size + y.size : Nat) : Int) > IntKind.i64.max then none else some (x ++ y)
def seq (x y : ByteArray) : Bool := x.toList == y.toList
def Z49 (s : ByteArray) : List Int := s.data.toList.map fun b => (b.toNat : Int)
def strI (l : List Int) : ByteArray := ⟨(l.map fun n => UInt8.ofNat n.toNat).toArray⟩
theorem Z2v {α : Type} {e : α → PV} {cs : α → List PV} {n : Nat} (hn : ∀ a, Z1n (e a) = cs a) (hl : ∀ a, (cs a).length = n) (h0 : 0 < n) {l : List α} {i : Int} {a : α} {o : Own} {k : IntKind} (h : lget l i = some a) :
  xidx n (.p (.lst o (l.map e))) (.p (.v (.int k i))) = some (.cptr (cs a)) := by
 unfold lget at h
 split at h
 ·rename_i hi
  have : (Z1n (e a)).length = n := by rw [hn, hl]
  simp only [xidx, asInt, if_pos hi, q8_, h, Z8K]
  rw [if_pos (by simp [this, h0]), hn]
 ·simp at h
theorem Zp2 {α : Type} {e : α → PV} {n : Nat} (hn : ∀ a, (Z1n (e a)).length = n) (l : List α) : szOk n (l.map e) = true := by
 unfold szOk
 simp [Z8u, hn]
theorem Zez {α : Type} {e : α → PV} {n : Nat} (hn : ∀ a, (Z1n (e a)).length = n) (h0 : 0 < n) {xs ys zs : List α} {o o' : Own} (ho : ZM o = true) (h : lapp xs ys = some zs) :
  xapp n (.p (.lst o (xs.map e))) (.p (.lst o' (ys.map e))) = some (.p (.lst (apo o (ys.map e)) (zs.map e))) := by
 unfold lapp at h
 split at h
 ·rename_i hl
  cases h
  simp only [xapp, ZkV, Z20]
  rw [if_pos (by simp [ho, Zp2 hn, h0, hl]), ZiL]
 ·simp at h
theorem Zx4 (s : ByteArray) : Z8R s = (Z49 s).map (eI .u8) := by
 unfold Z8R Z49
 rw [ZlB]
 rfl
theorem ZvV {α : Type} {e : α → PV} {n : Nat} (hn : ∀ a, (Z1n (e a)).length = n) (h0 : 0 < n) {l r : List α} {lo hi : Option AV} {a b : Int} {o : Own} (ha : optI 0 lo = some a) (hb : optI l.length hi = some b) (h : lsl l a b = some r) :
  xsl n (.p (.lst o (l.map e))) lo hi none = some (.p (.lst (slO o) (r.map e))) := by
 unfold lsl at h
 split at h
 ·rename_i hc
  cases h
  have hlen : (l.map e).length = l.length := by simp
  simp only [xsl, hlen, ha, hb, Z20]
  rw [if_pos ⟨hc.1, hc.2.1, hc.2.2, Zp2 hn l, h0⟩]
  simp only [List.map_drop, ZyC]
  cases o <;> rfl
 ·simp at h
theorem ZrV {s r : ByteArray} {lo hi : Option AV} {a b : Int} (ha : optI 0 lo = some a) (hb : optI s.size hi = some b) (h : ssl s a b = some r) : xslS (.p (.v (.string s))) lo hi = some (.p (.v (.string r))) := by
 unfold ssl at h
 split at h
 ·rename_i hc
  cases h
  simp only [xslS, ha, hb, Z20]
  rw [if_pos hc]
 ·simp at h
theorem Z30 {α : Type} {P : Program} {t : TypeId} {d : TypeId} (h : P.underlying t = some (.slice d)) (e : α → PV) (o : Own) (l : List α) : xlen P t (.p (.lst o (l.map e))) = some (.p (.v (.int .i64 l.length))) := by
 rw [ZHV h, Z8t]
theorem ZcB {P : Program} {t : TypeId} {x y z : ByteArray} (h : sadd x y = some z) : xbin P .add t (.p (.v (.string x))) (.p (.v (.string y))) = some (.p (.v (.string z))) := by
 unfold sadd at h
 split at h
 ·simp at h
 ·rename_i hc
  cases h
  have : Z1S P (Op.stringOp .add x y) = some (.string (x ++ y)) := by
   unfold Op.stringOp
   simp only
   rw [if_neg hc]
   rfl
  show ob (Z1S P (Op.stringOp .add x y)) Z7z = _
  rw [this]
  rfl
theorem Zo4 : ∀ (l : List Int), bytesOf (l.map (eI .u8)) = some (l.map fun n => UInt8.ofNat n.toNat)
 | [] => rfl
 | n :: r => by simp [bytesOf, byteOf, eI, Zo4 r]
theorem ZEI (o : Own) (l : List Int) : xstr (.p (.lst o (l.map (eI .u8)))) = some (.p (.v (.string (strI l)))) := by
 simp only [xstr, Zo4, Z8K]
 rfl
theorem ZEG (s : ByteArray) : xbyt (.p (.v (.string s))) = some (.p (.lst .sh ((Z49 s).map (eI .u8)))) := by
 simp only [xbyt, Zx4]
theorem ZDg {P : Program} {s d : TypeId} (h : (Zd0 P d && Z8p P s .u8) = true) (o : Own) (l : List Int) : xcnv P s d (.p (.lst o (l.map (eI .u8)))) = some (.p (.v (.string (strI l)))) := by
 unfold xcnv; rw [if_pos h]; exact ZEI o l
theorem ZDf {P : Program} {s d : TypeId} (h0 : (Zd0 P d && Z8p P s .u8) = false) (h : (Zd0 P s && Z8p P d .u8) = true) (x : ByteArray) : xcnv P s d (.p (.v (.string x))) = some (.p (.lst .sh ((Z49 x).map (eI .u8)))) := by
 unfold xcnv; rw [if_neg (by simp [h0]), if_pos h]; exact ZEG x
def nilO {α : Type} (o : Own) (l : List α) : Option Bool :=
 match o with
 | .nl => some true
 | .un => some false
 | .ex | .sh => match l with
  | [] => none
  | _ :: _ => some false
theorem ZCC {α : Type} {e : α → PV} {o : Own} {l : List α} {b : Bool} (h : nilO o l = some b) : ZdG (.p (.lst o (l.map e))) = some b := by
 cases o <;> cases l <;> simp_all [nilO, ZdG]
theorem ZlM {α : Type} {P : Program} {t : TypeId} {c : Value} {e : α → PV} {o : Own} {l : List α} {b : Bool} (hk : Zky P t c (.p (.lst o (l.map e))) = true) (h : nilO o l = some b) : xnil P .neq t c (.p (.lst o (l.map e))) = some (.p (.v (.bool (!b)))) := by
 unfold xnil; rw [if_pos hk, ZCC h]; rfl
end Go.Abs
end
section
namespace Go.Abs
open Go
theorem Z9R {α β : Type} (P : Program) (s : Sem α) (k : α → Sem β) : Z1S P (s >>= k) = (Z1S P s).bind fun a => Z1S P (k a) := by
 show Z1S P (Sem.bind s k) = _
 induction s with
 | pure x => simp [Sem.bind, Z1S]
 | program c ih => simp only [Sem.bind, Z1S]; exact ih P
 | _ => simp [Sem.bind, Z1S]
theorem Z85 {α : Type} (P : Program) (a : α) : Z1S P (pure a : Sem α) = some a := rfl
theorem Zlu (P : Program) : Z1S P program = some P := rfl
theorem Zby {P : Program} {t : TypeId} {d : TypeDesc} (h : P.underlying t = some d) : Z1S P (underlying t) = some d := by
 simp [underlying, Z9R, Zlu, h, Z85]
theorem ZmZ {α : Type} (P : Program) (c : Prop) [Decidable c] (a b : Sem α) : Z1S P (if c then a else b) = if c then Z1S P a else Z1S P b := by split <;> rfl
theorem ZBO (P : Program) (d : Nat) (t : TypeId) (xs ys : Array Value) (ht : P.underlying t = some (.struct (P.fieldsOf t))) (hp' : P.stoodInHeld t = false) :
  Z1S P (Op.equalIn (d + 1) t (.agg xs) (.agg ys)) = Z1S P (Op.eqFields d xs ys (P.fieldsOf t).toList) := by
 simp only [Op.equalIn, Z9R, Zby ht, ZV, Zlu, hp', Zg5, if_false, Z85, ZmZ]
 rw [← Array.forIn_toList]
 generalize (P.fieldsOf t).toList = fs
 clear ht
 induction fs with
 | nil => simp [Op.eqFields, Z85]
 | cons f fs ih =>
  simp only [List.forIn_cons, Op.eqFields, Z9R, ZmZ]
  split
  ·cases Z1S P (part f.type xs f.offset) with
   | none => rfl
   | some a =>
    simp only [ZV]
    cases Z1S P (part f.type ys f.offset) with
    | none => rfl
    | some b =>
     simp only [ZV]
     cases Z1S P (Op.equalIn d f.type a b) with
     | none => rfl
     | some r =>
      cases r
      ·simp [Z85]
      ·simp only [ZV, Bool.not_true, Zg5, if_false, Z85]
       exact ih
  ·simp only [Z85, ZV]
   exact ih
theorem ZCW {P : Program} {d : Nat} {t : TypeId} {k k' : IntKind} (a b : Int) (h : P.underlying t = some (.int k')) : Z1S P (Op.equalIn (d + 1) t (.int k a) (.int k b)) = some (a == b) := by
 simp [Op.equalIn, Z9R, Zby h, Z85]
theorem ZBM {P : Program} {d : Nat} {t : TypeId} (a b : Bool) (h : P.underlying t = some .bool) : Z1S P (Op.equalIn (d + 1) t (.bool a) (.bool b)) = some (a == b) := by
 simp [Op.equalIn, Z9R, Zby h, Z85]
theorem ZCX {P : Program} {d : Nat} {t : TypeId} (a b : ByteArray) (h : P.underlying t = some .string) : Z1S P (Op.equalIn (d + 1) t (.string a) (.string b)) = some (seq a b) := by
 simp [Op.equalIn, Z9R, Zby h, Z85, beq_toListBytes, seq]
def eqC : PV → PV → Bool
 | .v (.int _ a), .v (.int _ b) => a == b
 | .v (.bool a), .v (.bool b) => a == b
 | .v (.string a), .v (.string b) => seq a b
 | _, _ => true
def okC (P : Program) (t : TypeId) (x y : PV) : Bool :=
 match P.underlying t, x, y with
 | some (.int _), .v (.int k _), .v (.int k' _) => k == k'
 | some .bool, .v (.bool _), .v (.bool _) => true
 | some .string, .v (.string _), .v (.string _) => true
 | _, _, _ => false
def eqCs : List PV → List PV → Bool
 | x :: xs, y :: ys => eqC x y && eqCs xs ys
 | _, _ => true
def okFs (P : Program) : Nat → List Field → List PV → List PV → Bool
 | i, f :: fs, x :: xs, y :: ys => f.name != "_" && f.offset == i && okC P f.type x y && okFs P (i + 1) fs xs ys
 | _, [], [], [] => true
 | _, _, _, _ => false
theorem ZH8 {P : Program} {d : Nat} {t : TypeId} {x y : PV} {a b : Value} (h : okC P t x y = true) (hx : Z8v x = some a) (hy : Z8v y = some b) : Z1S P (Op.equalIn (d + 1) t a b) = some (eqC x y) := by
 unfold okC at h
 split at h <;> simp only [Z8v, q1_] at hx hy
 ·subst hx; subst hy
  have e := beq_iff_eq.1 h
  subst e
  exact ZCW _ _ ‹_›
 ·subst hx; subst hy; exact ZBM _ _ ‹_›
 ·subst hx; subst hy; exact ZCX _ _ ‹_›
 ·simp at h
theorem ZwS {P : Program} {t : TypeId} {xs : Array Value} {i : Nat} {v : Value} (ha : Z1S P (isAgg t) = some false) (h : xs[i]? = some v) : Z1S P (part t xs i) = some v := by
 unfold part
 simp [Z9R, ha, h, ZmZ, Z85]
theorem ZjO : ∀ {l : List PV} {vs : List Value}, Z9S l = some vs → ∀ (i : Nat) (x : PV), l[i]? = some x → ∃ v, Z8v x = some v ∧ vs[i]? = some v
 | [], _, _, i, x, h => by simp at h
 | p :: r, vs, h, i, x, hx => by
  simp only [Z9S] at h
  split at h
  ·rename_i a b ha hb
   cases h
   cases i with
   | zero => simp at hx; subst hx; exact ⟨a, ha, rfl⟩
   | succ i => simpa using ZjO hb i x (by simpa using hx)
  ·simp at h
theorem ZwJ {P : Program} {t : TypeId} {x y : PV} (h : okC P t x y = true) : Z1S P (isAgg t) = some false := by
 unfold okC at h
 split at h <;> first | (simp [isAgg, Z9R, Zby ‹_›, Z85]) | (simp at h)
theorem ZBN {P : Program} {d : Nat} {xs ys : List PV} {us vs : List Value} (hx : Z9S xs = some us) (hy : Z9S ys = some vs) : ∀ (fs : List Field) (i : Nat), okFs P i fs (xs.drop i) (ys.drop i) = true →
  Z1S P (Op.eqFields (d + 1) us.toArray vs.toArray fs) = some (eqCs (xs.drop i) (ys.drop i)) := by
 intro fs
 induction fs with
 | nil =>
  intro i h
  cases hxi : xs.drop i <;> cases hyi : ys.drop i <;> rw [hxi, hyi] at h <;> simp_all [okFs, Op.eqFields, eqCs, Z85]
 | cons f fs ih =>
  intro i h
  cases hxi : xs.drop i with
  | nil => rw [hxi] at h; simp [okFs] at h
  | cons x xr =>
   cases hyi : ys.drop i with
   | nil => rw [hxi, hyi] at h; simp [okFs] at h
   | cons y yr =>
    rw [hxi, hyi] at h
    simp only [okFs, Z4j, bne_iff_ne, beq_iff_eq, ne_eq] at h
    obtain ⟨⟨⟨h1, h2⟩, h3⟩, h4⟩ := h
    have gx : xs[i]? = some x := by rw [← List.head?_drop, hxi]; rfl
    have gy : ys[i]? = some y := by rw [← List.head?_drop, hyi]; rfl
    have dx : xs.drop (i + 1) = xr := by rw [← List.tail_drop, hxi]; rfl
    have dy : ys.drop (i + 1) = yr := by rw [← List.tail_drop, hyi]; rfl
    obtain ⟨a, ha, hau⟩ := ZjO hx i x gx
    obtain ⟨b, hb, hbv⟩ := ZjO hy i y gy
    have ih' := ih (i + 1) (by rw [dx, dy]; exact h4)
    rw [dx, dy] at ih'
    simp only [Op.eqFields, ZmZ, Z9R]
    rw [if_pos h1, h2, ZwS (ZwJ h3) (by simpa using hau), ZwS (ZwJ h3) (by simpa using hbv)]
    simp only [ZV, ZH8 h3 ha hb, ih', eqCs]
    cases eqC x y <;> simp [Z85]
theorem ZCY {P : Program} {op : BinOp} {t : TypeId} {x y : Operand} {xs ys : Array Value} (h : P.eqGuardType P.depth t = false) : Z1S P (eqGuard op t x y (.agg xs) (.agg ys)) = some () := by
 cases op <;> simp [eqGuard, Z9R, Zlu, h, Z85, ZmZ]
theorem ZlO {P : Program} : ∀ {fs : List Field} {i : Nat} {xs ys : List PV}, okFs P i fs xs ys = true → (∃ us, Z9S xs = some us) ∧ ∃ vs, Z9S ys = some vs
 | [], i, [], [], _ => ⟨⟨[], rfl⟩, [], rfl⟩
 | [], i, [], _ :: _, h => by simp [okFs] at h
 | [], i, _ :: _, _, h => by simp [okFs] at h
 | f :: fs, i, [], _, h => by simp [okFs] at h
 | f :: fs, i, _ :: _, [], h => by simp [okFs] at h
 | f :: fs, i, x :: xs, y :: ys, h => by
  simp only [okFs, Z4j] at h
  obtain ⟨⟨us, hu⟩, vs, hv⟩ := ZlO h.2
  have hc := h.1.2
  unfold okC at hc
  split at hc <;> first | (simp at hc; done) | (simp only [Z9S, Z8v, hu, hv]; exact ⟨⟨_, rfl⟩, _, rfl⟩)
theorem ZEH {P : Program} {t : TypeId} {xs ys : List PV} {b : Bool} (ht : P.underlying t = some (.struct (P.fieldsOf t))) (hp : P.stoodInHeld t = false) (hg : P.eqGuardType P.depth t = false)
  (hf : okFs P 0 (P.fieldsOf t).toList xs ys = true) (hb : eqCs xs ys = b) : xbin P .neq t (.p (.agg xs)) (.p (.agg ys)) = some (.p (.v (.bool (!b)))) := by
 subst hb
 obtain ⟨⟨us, hu⟩, vs, hv⟩ := ZlO hf
 have e : Z1S P (Op.equal t (.agg us.toArray) (.agg vs.toArray)) = some (eqCs xs ys) := by
  unfold Op.equal Op.maxDepth
  rw [show (10000 : Nat) = 9998 + 1 + 1 from rfl, ZBO P _ t _ _ ht hp]
  exact ZBN hu hv _ 0 hf
 unfold xbin
 simp only [Zd5, hu, hv, Z8K, ZdI, Bool.and_self, if_true]
 have : Z1S P (do eqGuard .neq t (.tmp 0) (.tmp 0) (.agg us.toArray) (.agg vs.toArray); binOp .neq t (.agg us.toArray) (.agg vs.toArray)) = some (.bool (!(eqCs xs ys))) := by
  rw [Z9R, ZCY hg]
  simp only [ZV, binOp, Z9R, e, Z85]
 rw [this]
 rfl
end Go.Abs
end
section
namespace Go.Abs
open Go Go.RowKit Go.ChangeShapes Go.WideShapes Go.ChangeAt Go.Deep
def Z4J (w : World) (ps : List PV) (cs : List Value) : Prop :=
 ps.length = cs.length ∧ ∀ (i : Nat) (p : PV) (v : Value), ps[i]? = some p → cs[i]? = some v → Z3V p = true ∧ PRel w (Old w) p v
section
variable {H : Type} {enc : TypeId × Value → H} {P : Program} {w : World}
def Zjc {α : Type} (enc : TypeId × Value → H) (P : Program) (w : World) (t : TypeId) (c : α → List PV) (wf : α → Prop) : Prop :=
 ∀ fuel cs x, DataW.trod enc P w 0 (fun _ => true) true fuel t cs = some x → ∃ a, wf a ∧ Z4J w (c a) cs
theorem Z4J.one {p : PV} {v : Value} (h1 : Z3V p = true) (h2 : PRel w (Old w) p v) : Z4J w [p] [v] := by
 refine ⟨rfl, fun i q u hq hu => ?_⟩
 cases i with
 | zero => simp at hq hu; subst hq; subst hu; exact ⟨h1, h2⟩
 | succ i => simp at hq
theorem Z4J.nil : Z4J w [] [] := ⟨rfl, fun i q u hq => by simp at hq⟩
theorem Z4J.app {p q : List PV} {cs : List Value} {n : Nat} (h1 : Z4J w p (cs.take n)) (h2 : Z4J w q (cs.drop n)) : Z4J w (p ++ q) cs := by
 have e := ZDL n cs
 refine ⟨by rw [q3_, h1.1, h2.1, ← q3_, e], fun i a v ha hv => ?_⟩
 by_cases hi : i < p.length
 ·rw [Zvp hi] at ha
  refine h1.2 i a v ha ?_
  rw [← e, Zvp (by rw [← h1.1]; exact hi)] at hv
  exact hv
 ·rw [ZoP (by omega)] at ha
  refine h2.2 (i - p.length) a v ha ?_
  rw [← e, ZoP (by rw [← h1.1]; omega), ← h1.1] at hv
  exact hv
theorem ZBH {t : TypeId} {k : IntKind} (ht : P.underlying t = some (.int k)) : Zjc enc P w t (fun n : Int => [eI k n]) (fun n => (Lit.int k n).wf = true) := by
 intro fuel cs x h
 obtain ⟨n, rfl, _, hw⟩ := DataW.trod_int ht h
 exact ⟨n, hw, Z4J.one rfl (.v _ rfl)⟩
theorem ZyA {α : Type} {t : TypeId} {c : α → List PV} {p q : α → Prop} (h : Zjc enc P w t c p) (hq : ∀ a, p a → q a) : Zjc enc P w t c q := fun fuel cs x hx => by
 obtain ⟨a, h1, h2⟩ := h fuel cs x hx
 exact ⟨a, hq a h1, h2⟩
theorem cell_spot {a : Addr} {v : Value} (h : w.cell? (a.add 0) = some v) : a.spot = none ∧ a.block < w.heap.size := by
 have e : a.add 0 = a := by simp [Addr.add]
 rw [e] at h
 unfold World.cell? at h
 cases hh : w.heap[a.block]? with
 | none => rw [hh] at h; simp at h
 | some x =>
  refine ⟨?_, (Z7L.1 hh).1⟩
  rw [hh] at h
  cases ha : a.spot with
  | none => rfl
  | some s => rw [ha] at h; cases x <;> simp at h
theorem Zwh {α : Type} {t e : TypeId} {c : α → List PV} {ee : α → PV} {wf : α → Prop} [Inhabited α] (ht : P.underlying t = some (.slice e)) (hn : 0 < P.cellsOf e) (he : ∀ a, Z1n (ee a) = c a) (ho : Zjc enc P w e c wf) :
  Zjc enc P w t (fun l : List α => [eL ee l]) (fun l => l.length ≤ maxLen ∧ ∀ a ∈ l, wf a) := by
 intro fuel cs x h
 rcases open_slice ht h with ⟨rfl, _⟩ | ⟨a, len, cap, m, n, D, Pl, rfl, _, hl, hm, hmm, _, hx⟩
 ·exact ⟨[], ⟨by simp, by simp⟩, Z4J.one rfl (.lst .sh [] none 0 0 0 0 (fun _ _ => undef) (Z2H _) (by simp) (by simp) (by simp) (fun _ => rfl) (by simp) (by simp) (by simp))⟩
 ·have hmc : m = cap := by simpa using hmm
  subst hmc
  have each : ∀ i, i < len → ∃ q : α × List Value, wf q.1 ∧ Z4J w (c q.1) q.2 ∧ q.2.length = P.cellsOf e ∧ ∀ j, j < P.cellsOf e → w.cell? (a.add (i * P.cellsOf e + j)) = q.2[j]? := by
   intro i hi
   obtain ⟨cs', h1, h2⟩ := hx i (by omega)
   obtain ⟨_, hlen, hcell⟩ := World.cells?_some h1
   obtain ⟨y, hy, hr⟩ := ho _ _ _ h2
   exact ⟨(y, cs'), hy, hr, hlen, fun j hj => by rw [← hcell j hj, add_add]⟩
  haveI : Inhabited (α × List Value) := ⟨(default, [])⟩
  obtain ⟨q, hq⟩ := choose_lt each
  have hlen : ((List.range len).map fun i => (q i).1).length = len := by simp
  refine ⟨(List.range len).map fun i => (q i).1, ⟨by rw [hlen]; omega, ?_⟩, Z4J.one rfl ?_⟩
  ·intro y hy
   obtain ⟨i, hi, rfl⟩ := Z6C.1 hy
   exact (hq i (Zg7.1 hi)).1
  ·have hcl : ∀ i, i < len → (c (q i).1).length = P.cellsOf e := fun i hi => by rw [(hq i hi).2.1.1]; exact (hq i hi).2.2.1
   have hcs : ∀ i j, i < len → j < P.cellsOf e → ∃ v, (q i).2[j]? = some v ∧ w.cell? (a.add (i * P.cellsOf e + j)) = some v := by
    intro i j hi hj
    obtain ⟨_, _, h3, h4⟩ := hq i hi
    have : j < (q i).2.length := by omega
    exact ⟨(q i).2[j], q4_ this, by rw [h4 j hj, q4_ this]⟩
   have hge : ∀ (i : Nat) (x : PV), (((List.range len).map fun i => (q i).1).map ee)[i]? = some x → i < len ∧ Z1n x = c (q i).1 := by
    intro i x hx
    rw [ZlB, q8_] at hx
    obtain ⟨k, hk, rfl⟩ := q6_.1 hx
    obtain ⟨h1, rfl⟩ := q2_.1 hk
    simp at h1
    refine ⟨h1, ?_⟩
    simp [he]
   have hsp : 0 < len → a.spot = none ∧ a.block < w.heap.size := by
    intro h0
    obtain ⟨v, _, h2⟩ := hcs 0 0 h0 hn
    exact cell_spot (by simpa using h2)
   have hadd : 0 < len → ∀ n, a.add n = ⟨a.block, a.off + n, none⟩ := by
    intro h0 n
    have hs := (hsp h0).1
    have : a = ⟨a.block, a.off, none⟩ := by cases a; simp at hs; simp [hs]
    rw [this, Z7Y]
   have key := PRel.lst (w := w) (S := Old w) .sh (((List.range len).map fun i => (q i).1).map ee) (some a) m a.block a.off (P.cellsOf e) (fun i j => ((q i).2[j]?).getD undef) (by simp; omega) (by simp) (by simp) (by simp) (by simp)
    (fun hne => by
     have h0 : 0 < len := by
      rcases ZrR len with e | e
      ·subst e; simp at hne
      ·exact e
     refine ⟨?_, hn, ?_⟩
     ·have := (hsp h0).1
      cases a
      simp at this
      simp [this]
     ·intro x hx
      obtain ⟨i, hi⟩ := List.getElem?_of_mem hx
      obtain ⟨h1, h2⟩ := hge i x hi
      rw [h2, hcl i h1])
    (fun i x j p hx hp => by
     obtain ⟨h1, h2⟩ := hge i x hx
     rw [h2] at hp
     have hj : j < P.cellsOf e := by rw [← hcl i h1]; exact (q2_.1 hp).1
     obtain ⟨v, e1, e2⟩ := hcs i j h1 hj
     refine ⟨?_, (hsp (by omega)).2, ((hq i h1).2.1.2 j p v hp e1).1⟩
     rw [e1, ZsE, ← e2, hadd (by omega)])
    (fun i x j p hx hp => by
     obtain ⟨h1, h2⟩ := hge i x hx
     rw [h2] at hp
     have hj : j < P.cellsOf e := by rw [← hcl i h1]; exact (q2_.1 hp).1
     obtain ⟨v, e1, e2⟩ := hcs i j h1 hj
     rw [e1, ZsE]
     exact ((hq i h1).2.1.2 j p v hp e1).2)
   rw [Z8t, Z8t, List.length_range] at key
   exact key
theorem Zvj {fs : Array Field} {t : TypeId} (ht : P.underlying t = some (.struct fs)) {fuel : Nat} {cs : List Value} {x : DataW H × List MemPlace} (h : DataW.trod enc P w 0 (fun _ => true) true fuel t cs = some x) :
  cs.length = P.cellsOf t ∧ ∀ (i : Nat) (f : Field), fs[i]? = some f → ∃ n y, DataW.trod enc P w 0 (fun _ => true) true n f.type ((cs.drop f.offset).take (P.cellsOf f.type)) = some y := by
 obtain ⟨xs, n, _, _, hl, hlen, hf⟩ := DataW.trod_struct ht h
 refine ⟨hl, fun i f hi => ?_⟩
 have hi' : i < xs.length := by rw [hlen]; exact (Z7L.1 hi).1
 exact ⟨n, xs[i], by rw [hf i f hi, q4_ hi']⟩
theorem Z4J.next {p q : List PV} {cs : List Value} {o n : Nat} (h1 : Z4J w p ((cs.drop o).take n)) (h2 : Z4J w q (cs.drop (o + n))) : Z4J w (p ++ q) (cs.drop o) :=
 Z4J.app h1 (by rw [ZD0]; exact h2)
theorem Z4J.agg {ps : List PV} {arr : Array Value} (h : Z4J w ps arr.toList) : PRel w (Old w) (.agg ps) (.agg arr) := by
 refine .agg ps arr (by rw [h.1]; simp) ?_ ?_
 ·intro c hc
  obtain ⟨i, hi⟩ := List.getElem?_of_mem hc
  have : i < arr.toList.length := by rw [← h.1]; exact (q2_.1 hi).1
  exact (h.2 i c arr.toList[i] hi (q4_ this)).1
 ·intro i c v hc hv
  exact (h.2 i c v hc (by simpa using hv)).2
theorem row_one {α : Type} {t : TypeId} {e : α → PV} {wf : α → Prop} {base : Nat} {v : Value} {d : DataW H} {ps : List MemPlace} (hc : Value.cells v = #[v]) (h : DataW.Trod enc P w 0 (fun _ => true) true t v d ps) (ho : Zjc enc P w t (fun a => [e a]) wf) :
  ∃ a, wf a ∧ PRel w (Old w) (e a) v := by
 obtain ⟨n, hn⟩ := h
 obtain ⟨a, ha, hr⟩ := ho _ _ _ hn
 rw [hc] at hr
 exact ⟨a, ha, (hr.2 0 (e a) v rfl rfl).2⟩
end
end Go.Abs
end
section
namespace Go.Abs
open Go
theorem Zno {P : Program} {k : IntKind} (a b : Int) : Z7I P true [.p (.v (.int k a)), .p (.v (.int k b))] = some (.p (.v (.int k (max a b)))) := by
 have : Z1S P (Builtin.max_ #[] 0 [Value.int k a, Value.int k b].toArray) = some (.int k (max a b)) := by
  have e : (if b > a then b else a) = max a b := by omega
  rw [← e]
  rfl
 show ob (Z1S P (Builtin.max_ #[] 0 [Value.int k a, Value.int k b].toArray)) Z7z = _
 rw [this]
 rfl
theorem ZcA {P : Program} {k : IntKind} (a b : Int) : Z7I P false [.p (.v (.int k a)), .p (.v (.int k b))] = some (.p (.v (.int k (min a b)))) := by
 have : Z1S P (Builtin.min_ #[] 0 [Value.int k a, Value.int k b].toArray) = some (.int k (min a b)) := by
  have e : (if b < a then b else a) = min a b := by omega
  rw [← e]
  rfl
 show ob (Z1S P (Builtin.min_ #[] 0 [Value.int k a, Value.int k b].toArray)) Z7z = _
 rw [this]
 rfl
def pOwn : PV → Own | .lst o _ => o | _ => .sh
end Go.Abs
end
section
namespace Go.Abs
open Go Go.RowKit

end Go.Abs
end
section
namespace Go.Abs
open Go
def lset {α : Type} (l : List α) (i : Int) (a : α) : List α := l.set i.toNat a
def okA (o : Own) : Option Unit := if ZM o = true then some () else none
theorem ZH0 {o : Own} {u : Unit} (h : okA o = some u) : ZM o = true := by
 unfold okA at h
 split at h
 ·assumption
 ·simp at h
section
variable {R : Type} {Q : R → Res → Prop} {x : Option R}
theorem zF (v : AV) (B2 : List Row) {a : AV} {B : List Row} {K : AV → List Row → Option Res} (s : Sim Q x (K v B2)) (h : (fun K : AV → List Row → Option Res => ldFz a B K) = fun K => K v B2 := by kernel_rfl) : Sim Q x (ldFz a B K) := by
 rw [show ldFz a B K = K v B2 from congrFun h K]; exact s
theorem zb (B2 : List Row) {z : Option (List Row)} {K : List Row → Option Res} (h : z = some B2) (s : Sim Q x (K B2)) : Sim Q x (ob z K) := Sim.ob1 h s
theorem zX (v : AV) (B2 : List Row) {l : List (Nat × Nat)} {B : List Row} {a : AV} {K : AV → List Row → Option Res} (s : Sim Q x (K v B2)) (h : (fun K : AV → List Row → Option Res => bxM l a B K) = fun K => K v B2 := by kernel_rfl) : Sim Q x (bxM l a B K) := by
 rw [show bxM l a B K = K v B2 from congrFun h K]; exact s
end
theorem Zs5 {α : Type} {l : List α} {i : Int} {a : α} (h : lget l i = some a) : 0 ≤ i ∧ i.toNat < l.length ∧ l[i.toNat]? = some a := by
 unfold lget at h
 split at h
 ·exact ⟨‹_›, (q2_.1 h).1, h⟩
 ·simp at h
theorem ZbE {α : Type} {P : Program} {t : TypeId} {d : TypeId} (h : P.underlying t = some (.slice d)) (e : α → PV) (l : List α) : xlen P t (.p (.hd (l.map e).length)) = some (.p (.v (.int .i64 l.length))) := by
 unfold xlen
 rw [h]
 simp
theorem ZDe {α : Type} {e : α → PV} {n : Nat} (hn : ∀ a, (Z1n (e a)).length = n) (h0 : 0 < n) {xs ys zs : List α} {o' : Own} (h : lapp xs ys = some zs) :
  ZnQ n (.p (.ml n (xs.map e))) (.p (.lst o' (ys.map e))) = some (.p (.ml n (zs.map e))) := by
 unfold lapp at h
 split at h
 ·rename_i hl
  cases h
  simp only [ZnQ, ZkV, Z20]
  rw [if_pos (by simp [Zp2 hn, h0, hl]), ZiL]
 ·simp at h
theorem Zkv {α : Type} {e : α → PV} {n id off : Nat} (h0 : 0 < n) {l : List α} {i : Int} {a : α} {k : IntKind} (h : lget l i = some a) :
  ixA n (.p (.jnk (.al id off n (l.map e).length))) (.p (.v (.int k i))) = some (.p (.jnk (.ep id off n i.toNat 0))) := by
 obtain ⟨h1, h2, _⟩ := Zs5 h
 simp only [ixA, asInt]
 rw [if_pos ⟨h1, by simp; omega, trivial, h0⟩]
theorem Zih {α : Type} {e : α → PV} {n id off m fo k : Nat} {x : AV} {B B2 : List Row} {row : Row} {l : List α} {i : Int} {a a' : α}
  (hc : Z9X B id off = some (row, n, l.map e)) (h : lget l i = some a) (hs : elSt k fo x (e a) = some (e a')) (hB : B.set id (row.set off (.p (.ml n ((lset l i a').map e)))) = B2) :
  stEl k (.p (.jnk (.ep id off m i.toNat fo))) x B = some B2 := by
 obtain ⟨_, _, h3⟩ := Zs5 h
 simp only [stEl, hc, Z20, q8_, h3, Z8K, hs]
 rw [← hB, ← List.map_set]
 rfl
end Go.Abs
end
