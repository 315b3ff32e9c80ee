/- A typed reading of what the evaluator comes to. No condition. -/
import Derived.Test.YteoeggbihfnbfaaGreatDoorEvD
import Derived.KernelRfl
import Derived.Laws.StructEq
import Derived.Deep.Slices
import Derived.ChangeArms
import Derived.ChangeMaps5
import Derived.ChangeAt
import Derived.WideShapes

set_option linter.unusedSimpArgs false
set_option linter.unusedVariables false
set_option linter.defProp false
section
namespace Go.Abs
open Go
def RRun {R : Type} (Q : R → Res → Prop) (y : Option Res) (r : R) : Prop := ∃ q, y = some q ∧ Q r q
def Sim {R : Type} (Q : R → Res → Prop) (x : Option R) (y : Option Res) : Prop := ∀ r, x = some r → RRun Q y r
noncomputable def pick {R : Type} (p : R → Prop) : Option R := open Classical in if h : ∃ r, p r then some h.choose else none
theorem Z1g {R : Type} {p : R → Prop} {r : R} (h : pick p = some r) : p r := by
 unfold pick at h
 split at h
 ·rename_i hh
  have := hh.choose_spec
  rw [Option.some.inj h] at this
  exact this
 ·simp at h
theorem Z1f {R : Type} {p : R → Prop} (hu : ∀ a b, p a → p b → a = b) {r : R} (h : p r) : pick p = some r := by
 unfold pick
 have hh : ∃ r, p r := ⟨r, h⟩
 rw [dif_pos hh]
 exact congrArg some (hu _ _ hh.choose_spec h)
theorem RRun.uniq {R : Type} {Q : R → Res → Prop} (hu : ∀ r r' q, Q r q → Q r' q → r = r') {y : Option Res} {a b : R} (ha : RRun Q y a) (hb : RRun Q y b) : a = b := by
 obtain ⟨q, e, h⟩ := ha
 obtain ⟨q', e', h'⟩ := hb
 rw [e] at e'
 cases e'
 exact hu _ _ _ h h'
section
variable {R : Type} {Q : R → Res → Prop} {x x' : Option R} {y y' : Option Res}
theorem Sim.none : Sim Q Option.none y := fun _ h => by cases h
theorem Sim.ret {r : R} {q : Res} (h : Q r q) : Sim Q (some r) (some q) := fun _ e => by cases e; exact ⟨q, rfl, h⟩
theorem Sim.cast (h : y = y') (s : Sim Q x y') : Sim Q x y := h ▸ s
theorem Sim.mk (s : Sim Q x y) : Sim Q x (mk y) := s
theorem Sim.lp (s : Sim Q x y) : Sim Q x (lp y) := s
theorem Sim.ob1 {α : Type} {v : α} {z : Option α} {K : α → Option Res} (h : z = some v) (s : Sim Q x (K v)) : Sim Q x (ob z K) := by rw [h]; exact s
theorem Sim.asB {b : Bool} {v : AV} {K : Bool → Option Res} (h : v = .p (.v (.bool b))) (s : Sim Q x (K b)) : Sim Q x (asB v K) := by rw [h]; exact s
theorem Sim.br {b : Bool} {y1 y2 : Option Res} {x1 x2 : Option R} (s1 : b = true → Sim Q x1 y1) (s2 : b = false → Sim Q x2 y2) : Sim Q (if b = true then x1 else x2) (br b y1 y2) := by
 cases b with
 | true => exact s1 rfl
 | false => exact s2 rfl
theorem Sim.grd {b : Bool} (h : b = true) (s : Sim Q x y) : Sim Q x (grd b y) := by rw [h]; exact s
theorem Sim.bind {α : Type} {z : Option α} {k : α → Option R} (s : ∀ a, z = some a → Sim Q (k a) y) : Sim Q (z.bind k) y := by
 intro r h
 cases hz : z with
 | none => rw [hz] at h; simp at h
 | some a => rw [hz] at h; exact s a hz r h
theorem Sim.kv {v : AV} {B2 : List Row} {z : Option Res} {K : AV → List Row → Option Res} (h : z = K v B2) (s : Sim Q x (K v B2)) : Sim Q x z := by rw [h]; exact s
theorem Sim.bx {v : AV} {B B2 : List Row} {a : AV} {K : AV → List Row → Option Res} (h : ∀ K : AV → List Row → Option Res, bx a B K = K v B2) (s : Sim Q x (K v B2)) : Sim Q x (bx a B K) := by rw [h]; exact s
theorem Sim.bz {P : Program} {t : TypeId} {v : AV} {B B2 : List Row} {K : AV → List Row → Option Res} (h : ∀ K : AV → List Row → Option Res, bz P t B K = K v B2) (s : Sim Q x (K v B2)) : Sim Q x (bz P t B K) := by rw [h]; exact s
theorem Sim.ldOwn {a v : AV} {B B2 : List Row} {K : AV → List Row → Option Res} (h : ∀ K : AV → List Row → Option Res, ldOwn a B K = K v B2) (s : Sim Q x (K v B2)) : Sim Q x (ldOwn a B K) := by rw [h]; exact s
theorem Sim.stN {n : Nat} {a v : AV} {B B2 : List Row} {K : List Row → Option Res} (h : ∀ K : List Row → Option Res, stN n a v B K = K B2) (s : Sim Q x (K B2)) : Sim Q x (stN n a v B K) := by rw [h]; exact s
theorem Sim.xmake {P : Program} {t : TypeId} {v : AV} {B B2 : List Row} {K : AV → List Row → Option Res} (h : ∀ K : AV → List Row → Option Res, xmake P t B K = K v B2) (s : Sim Q x (K v B2)) : Sim Q x (xmake P t B K) := by rw [h]; exact s
theorem Sim.xupd {P : Program} {t : TypeId} {m k a : AV} {B B2 : List Row} {K : List Row → Option Res} (h : ∀ K : List Row → Option Res, xupd P t m k a B K = K B2) (s : Sim Q x (K B2)) : Sim Q x (xupd P t m k a B K) := by rw [h]; exact s
theorem Sim.xdel {P : Program} {t : TypeId} {m k : AV} {B B2 : List Row} {K : List Row → Option Res} (h : ∀ K : List Row → Option Res, xdel P t m k B K = K B2) (s : Sim Q x (K B2)) : Sim Q x (xdel P t m k B K) := by rw [h]; exact s
end
def aft (rs : List Nat) (B : List Row) (k : AV → List Row → Option Res) (r : Res) : Option Res :=
 let m := rs.length
  let B' := r.2.take m
  if below m (ptrs r.1) && B'.all (fun row => below m (Z1M row)) then
   let back := fun id => rs.getD id 0
   k (Z2Y back r.1) (Z3m B rs (B'.map (Z2B back)))
  else
   let n := B.length
   let back := fun id => if id < m then rs.getD id 0 else n + (id - m)
   k (Z2Y back r.1) (Z3m B rs (B'.map (Z2B back)) ++ (r.2.drop m).map (Z2B back))
theorem Sim.callS {R : Type} {Q : R → Res → Prop} {x : Option R} {raw : Bool} {G : GF} {g : FuncId} {args : List AV} {B B2 : List Row} {K : AV → List Row → Option Res} {rs : List Nat} {y : Option Res} {q : Res} {v : AV}
  (hc : ∀ K : AV → List Row → Option Res, callS raw G g args B K = ob y (aft rs B K)) (e : y = some q) (ha : ∀ K : AV → List Row → Option Res, aft rs B K q = K v B2) (s : Sim Q x (K v B2)) : Sim Q x (callS raw G g args B K) := by
 rw [hc, e]
 show Sim Q x (aft rs B K q)
 rw [ha]
 exact s
theorem Sim.callV {R : Type} {Q : R → Res → Prop} {x : Option R} {H : Hints} {G : GF} {g : AV} {args : List AV} {B B2 : List Row} {K : AV → List Row → Option Res} {rs : List Nat} {y : Option Res} {q : Res} {v : AV}
  (hc : ∀ K : AV → List Row → Option Res, callV H G g args B K = ob y (aft rs B K)) (e : y = some q) (ha : ∀ K : AV → List Row → Option Res, aft rs B K q = K v B2) (s : Sim Q x (K v B2)) : Sim Q x (callV H G g args B K) := by
 rw [hc, e]
 show Sim Q x (aft rs B K q)
 rw [ha]
 exact s
section
variable {R : Type} {Q : R → Res → Prop} {x x' : Option R} {y y' : Option Res}
theorem ze (s : Sim Q x y) : Sim Q x (mk y) := s
theorem zo (v : AV) {z : Option AV} {K : AV → Option Res} (s : Sim Q x (K v)) (h : z = some v := by kernel_rfl) : Sim Q x (ob z K) := Sim.ob1 h s
theorem zp (v : AV) {z : Option AV} {K : AV → Option Res} (h : z = some v) (s : Sim Q x (K v)) : Sim Q x (ob z K) := Sim.ob1 h s
def the (z : Option AV) : AV := match z with | some v => v | none => .p .junk
theorem zq {z : Option AV} {K : AV → Option Res} (s : Sim Q x (K (the z))) (h : z = some (the z) := by kernel_rfl) : Sim Q x (ob z K) := Sim.ob1 h s
theorem za (b : Bool) {v : AV} {x1 x2 : Option R} {y1 y2 : Option Res} (s1 : Sim Q x1 y1) (s2 : Sim Q x2 y2) (h : v = .p (.v (.bool b)) := by kernel_rfl) : Sim Q (if b = true then x1 else x2) (asB v fun t => br t y1 y2) :=
 Sim.asB h (Sim.br (fun _ => s1) (fun _ => s2))
theorem zg {b : Bool} (s : Sim Q x y) (h : b = true := by kernel_rfl) : Sim Q x (grd b y) := Sim.grd h s
theorem zx (v : AV) (B2 : List Row) {B : List Row} {a : AV} {K : AV → List Row → Option Res} (s : Sim Q x (K v B2)) (h : (fun K : AV → List Row → Option Res => bx a B K) = fun K => K v B2 := by kernel_rfl) : Sim Q x (bx a B K) := Sim.bx (fun K => congrFun h K) s
theorem zz (v : AV) (B2 : List Row) {P : Program} {t : TypeId} {B : List Row} {K : AV → List Row → Option Res} (s : Sim Q x (K v B2)) (h : (fun K : AV → List Row → Option Res => bz P t B K) = fun K => K v B2 := by kernel_rfl) : Sim Q x (bz P t B K) := Sim.bz (fun K => congrFun h K) s
theorem zw (v : AV) (B2 : List Row) {a : AV} {B : List Row} {K : AV → List Row → Option Res} (s : Sim Q x (K v B2)) (h : (fun K : AV → List Row → Option Res => ldOwn a B K) = fun K => K v B2 := by kernel_rfl) : Sim Q x (ldOwn a B K) := Sim.ldOwn (fun K => congrFun h K) s
theorem zt (B2 : List Row) {n : Nat} {a v : AV} {B : List Row} {K : List Row → Option Res} (s : Sim Q x (K B2)) (h : (fun K : List Row → Option Res => stN n a v B K) = fun K => K B2 := by kernel_rfl) : Sim Q x (stN n a v B K) := Sim.stN (fun K => congrFun h K) s
theorem zm (v : AV) (B2 : List Row) {P : Program} {t : TypeId} {B : List Row} {K : AV → List Row → Option Res} (s : Sim Q x (K v B2)) (h : (fun K : AV → List Row → Option Res => xmake P t B K) = fun K => K v B2 := by kernel_rfl) : Sim Q x (xmake P t B K) := Sim.xmake (fun K => congrFun h K) s
theorem zc (rs : List Nat) (v : AV) (B2 : List Row) {raw : Bool} {G : GF} {g : FuncId} {args : List AV} {B : List Row} {K : AV → List Row → Option Res} {z : Option Res} {q : Res} (e : z = some q) (s : Sim Q x (K v B2))
  (hc : (fun K : AV → List Row → Option Res => callS raw G g args B K) = fun K => ob z (aft rs B K) := by kernel_rfl) (ha : (fun K : AV → List Row → Option Res => aft rs B K q) = fun K => K v B2 := by kernel_rfl) : Sim Q x (callS raw G g args B K) :=
 Sim.callS (fun K => congrFun hc K) e (fun K => congrFun ha K) s
theorem zv (rs : List Nat) (v : AV) (B2 : List Row) {H : Hints} {G : GF} {g : AV} {args : List AV} {B : List Row} {K : AV → List Row → Option Res} {z : Option Res} {q : Res} (e : z = some q) (s : Sim Q x (K v B2))
  (hc : (fun K : AV → List Row → Option Res => callV H G g args B K) = fun K => ob z (aft rs B K) := by kernel_rfl) (ha : (fun K : AV → List Row → Option Res => aft rs B K q) = fun K => K v B2 := by kernel_rfl) : Sim Q x (callV H G g args B K) :=
 Sim.callV (fun K => congrFun hc K) e (fun K => congrFun ha K) s
theorem zi {α : Type} {z : Option α} {k : α → Option R} (s : ∀ a, z = some a → Sim Q (k a) y) : Sim Q (z.bind k) y := Sim.bind s
theorem zk (s : Sim Q x y') (h : y = y' := by kernel_rfl) : Sim Q x y := Sim.cast h s
theorem zf (h : y = y') (s : Sim Q x y') : Sim Q x y := Sim.cast h s
theorem zr (q : Res) {r : R} (h : Q r q) (e : y = some q := by kernel_rfl) : Sim Q (some r) y := Sim.cast e (Sim.ret h)
end
def eI (k : IntKind) (n : Int) : PV := .v (.int k n)
def eB (b : Bool) : PV := .v (.bool b)
def eS (s : ByteArray) : PV := .v (.string s)
def eL {α : Type} (e : α → PV) (l : List α) : PV := .lst .sh (l.map e)
def pI : PV → Int | .v (.int _ n) => n | _ => 0
def pB : PV → Bool | .v (.bool b) => b | _ => false
def pS : PV → ByteArray | .v (.string b) => b | _ => default
def pL : PV → List PV | .lst _ l => l | _ => []
def pC : PV → List PV | .agg l => l | _ => []
def pT : PV → List PV | .tup l => l | _ => []
def pA : AV → PV | .p x => x | _ => .junk
def pM : AV → List (Int × PV) | .md l => l | _ => []
def cellAt (q : Res) (i j : Nat) : AV := (q.2.getD i []).getD j jk
theorem Z5c {α β : Type} {e : α → β} (h : ∀ a b, e a = e b → a = b) : ∀ {l l' : List α}, l.map e = l'.map e → l = l'
 | [], [], _ => rfl
 | [], _ :: _, h' => by simp at h'
 | _ :: _, [], h' => by simp at h'
 | a :: l, b :: l', h' => by
  simp only [Z8V, Ztf] at h'
  rw [h a b h'.1, Z5c h h'.2]
theorem Z46 {k : IntKind} (a b : Int) (h : eI k a = eI k b) : a = b := congrArg pI h
theorem Zs9 (a b : Bool) (h : eB a = eB b) : a = b := congrArg pB h
theorem ZHv (a b : ByteArray) (h : eS a = eS b) : a = b := congrArg pS h
theorem Zsa {α : Type} {e : α → PV} (hi : ∀ a b, e a = e b → a = b) (a b : List α) (h : eL e a = eL e b) : a = b := Z5c hi (congrArg pL h)
def lget {α : Type} (l : List α) (i : Int) : Option α := if 0 ≤ i then l[i.toNat]? else none
def lapp {α : Type} (l r : List α) : Option (List α) := if l.length + r.length ≤ lim then some (l ++ r) else none
def lsl {α : Type} (l : List α) (lo hi : Int) : Option (List α) := if 0 ≤ lo ∧ lo ≤ hi ∧ hi ≤ l.length then some ((l.take hi.toNat).drop lo.toNat) else none
def slO : Own → Own
 | .nl => .nl
 | _ => .sh
def seq (x y : ByteArray) : Bool := x.toList == y.toList
def Z5o (s : ByteArray) : List Int := s.data.toList.map fun b => (b.toNat : Int)
def strI (l : List Int) : ByteArray := ⟨(l.map fun n => UInt8.ofNat n.toNat).toArray⟩
def encM {α : Type} (e : α → PV) (q : Int × α) : Int × PV := (q.1, e q.2)
def getM {α : Type} : List (Int × α) → Int → Option α
 | [], _ => none
 | q :: r, n => if q.1 = n then some q.2 else getM r n
def putM {α : Type} : List (Int × α) → Int → α → List (Int × α)
 | [], n, y => [(n, y)]
 | q :: r, n, y => if q.1 = n then (n, y) :: r else q :: putM r n y
def delM {α : Type} : List (Int × α) → Int → List (Int × α)
 | [], _ => []
 | q :: r, n => if q.1 = n then r else q :: delM r n
theorem ZjR {α : Type} {e : α → PV} (hi : ∀ a b, e a = e b → a = b) (a b : Int × α) (h : encM e a = encM e b) : a = b :=
 Z43 (show a.1 = b.1 from congrArg (fun q : Int × PV => q.1) h) (hi _ _ (congrArg (fun q : Int × PV => q.2) h))
theorem ZC6 {α : Type} (e : α → PV) : ∀ (es : List (Int × α)) (n : Int), getE (es.map (encM e)) n = (getM es n).map e
 | [], _ => rfl
 | q :: r, n => by
  simp only [Z8V, getE, getM, encM]
  split
  ·rfl
  ·exact ZC6 e r n
theorem ZCp {α : Type} (e : α → PV) (y : α) : ∀ (es : List (Int × α)) (n : Int), putE (es.map (encM e)) n (e y) = (putM es n y).map (encM e)
 | [], _ => rfl
 | q :: r, n => by
  simp only [Z8V, putE, putM, encM]
  split
  ·rfl
  ·rw [Z8V, ← ZCp e y r n]; rfl
theorem ZAA {α : Type} (e : α → PV) : ∀ (es : List (Int × α)) (n : Int), delE (es.map (encM e)) n = (delM es n).map (encM e)
 | [], _ => rfl
 | q :: r, n => by
  simp only [Z8V, delE, delM, encM]
  split
  ·rfl
  ·rw [Z8V, ← ZAA e r n]; rfl
theorem Z3u {α : Type} {e : α → PV} {cs : α → List PV} {n : Nat} (hn : ∀ a, Z2q (e a) = cs a) (hl : ∀ a, (cs a).length = n) (h0 : 0 < n) {l : List α} {i : Int} {a : α} {o : Own} {k : IntKind} (h : lget l i = some a) :
  xidx n (.p (.lst o (l.map e))) (.p (.v (.int k i))) = some (.cptr (cs a)) := by
 unfold lget at h
 split at h
 ·rename_i hi
  have : (Z2q (e a)).length = n := by rw [hn, hl]
  simp only [xidx, asInt, if_pos hi, q5_, h, Z9W]
  rw [if_pos (by simp [this, h0]), hn]
 ·simp at h
theorem ZCZ {α : Type} {e : α → PV} {n : Nat} (hn : ∀ a, (Z2q (e a)).length = n) (l : List α) : szOk n (l.map e) = true := by
 unfold szOk
 simp [Zam, hn]
theorem Zin {α : Type} {e : α → PV} {n : Nat} (hn : ∀ a, (Z2q (e a)).length = n) (h0 : 0 < n) {xs ys zs : List α} {o o' : Own} (ho : ZV o = true) (h : lapp xs ys = some zs) :
  xapp n (.p (.lst o (xs.map e))) (.p (.lst o' (ys.map e))) = some (.p (.lst (apo o (ys.map e)) (zs.map e))) := by
 unfold lapp at h
 split at h
 ·rename_i hl
  cases h
  simp only [xapp, ZAn, Z3C]
  rw [if_pos (by simp [ho, ZCZ hn, h0, hl]), List.map_append]
 ·simp at h
theorem ZEN (s : ByteArray) : ZaJ s = (Z5o s).map (eI .u8) := by
 unfold ZaJ Z5o
 rw [Zrq]
 rfl
theorem ZJU {α : Type} {e : α → PV} {n : Nat} (hn : ∀ a, (Z2q (e a)).length = n) (h0 : 0 < n) {l r : List α} {lo hi : Option AV} {a b : Int} {o : Own} (ha : optI 0 lo = some a) (hb : optI l.length hi = some b) (h : lsl l a b = some r) :
  xsl n (.p (.lst o (l.map e))) lo hi none = some (.p (.lst (slO o) (r.map e))) := by
 unfold lsl at h
 split at h
 ·rename_i hc
  cases h
  have hlen : (l.map e).length = l.length := by simp
  simp only [xsl, hlen, ha, hb, Z3C]
  rw [if_pos ⟨hc.1, hc.2.1, hc.2.2, ZCZ hn l, h0⟩]
  simp only [List.map_drop, List.map_take]
  cases o <;> rfl
 ·simp at h
theorem Z2M {α : Type} {P : Program} {t : TypeId} {d : TypeId} (h : P.underlying t = some (.slice d)) (e : α → PV) (o : Own) (l : List α) : xlen P t (.p (.lst o (l.map e))) = some (.p (.v (.int .i64 l.length))) := by
 rw [ZPF h, Zgy]
theorem ZuB : ∀ (l : List Int), bytesOf (l.map (eI .u8)) = some (l.map fun n => UInt8.ofNat n.toNat)
 | [] => rfl
 | n :: r => by simp [bytesOf, byteOf, eI, ZuB r]
theorem ZNw (o : Own) (l : List Int) : xstr (.p (.lst o (l.map (eI .u8)))) = some (.p (.v (.string (strI l)))) := by
 simp only [xstr, ZuB, Z9W]
 rfl
theorem ZNs (s : ByteArray) : xbyt (.p (.v (.string s))) = some (.p (.lst .sh ((Z5o s).map (eI .u8)))) := by
 simp only [xbyt, ZEN]
theorem ZL2 {P : Program} {s d : TypeId} (h : (ZfT P d && Zaj P s .u8) = true) (o : Own) (l : List Int) : xcnv P s d (.p (.lst o (l.map (eI .u8)))) = some (.p (.v (.string (strI l)))) := by
 unfold xcnv; rw [if_pos h]; exact ZNw o l
theorem ZL1 {P : Program} {s d : TypeId} (h0 : (ZfT P d && Zaj P s .u8) = false) (h : (ZfT P s && Zaj P d .u8) = true) (x : ByteArray) : xcnv P s d (.p (.v (.string x))) = some (.p (.lst .sh ((Z5o x).map (eI .u8)))) := by
 unfold xcnv; rw [if_neg (by simp [h0]), if_pos h]; exact ZNs x
theorem ZL5 {α : Type} {e : α → PV} {es : List (Int × α)} {id : Nat} {B : List Row} (h : B[id]? = some [.md (es.map (encM e))]) : ZrB (.mp id) B = some (.p (.v (.int .i64 es.length))) := by
 unfold ZrB ZfU
 simp only [h, Z3C, mdOf, Zgy]
theorem ZrA {α : Type} {e : α → PV} {z : α} {es : List (Int × α)} {id : Nat} {B : List Row} {P : Program} {t te : TypeId} {n : Int} (hm : mapE P t = some te) (h : B[id]? = some [.md (es.map (encM e))])
  (hz : ((P.info? te).bind (·.zero)).bind Za8 = some (.p (e z))) (c : Bool) :
  Ze8 P t c (.mp id) (.p (.v (.int .i64 n))) B = some (.p (if c = true then .tup [e ((getM es n).getD z), .v (.bool (getM es n).isSome)] else e ((getM es n).getD z))) := by
 unfold Ze8 ZfU
 simp only [hm, h, Z3C, mdOf, asK, ZC6]
 cases hg : getM es n with
 | some y => simp
 | none =>
  obtain ⟨zv, h1, h2⟩ := ZCs.1 hz
  simp [h1, h2, Z3C, Zfo]
theorem Zug {α : Type} {e : α → PV} {a : α} {es : List (Int × α)} {id : Nat} {B B2 : List Row} {P : Program} {t te : TypeId} {n : Int} {y : PV} {K : List Row → Option Res} (hm : mapE P t = some te) (h : B[id]? = some [.md (es.map (encM e))])
  (hy : nrm y = e a) (hp : Z7G (.p y) = false) (hB : B.set id [.md ((putM es n a).map (encM e))] = B2) : xupd P t (.mp id) (.p (.v (.int .i64 n))) (.p y) B K = K B2 := by
 unfold xupd ZfU
 simp only [hm, h, Z3C, mdOf, asK, Zfo, hp, hy, ZCp, hB]
 rfl
theorem ZNt {α : Type} {e : α → PV} {es : List (Int × α)} {id : Nat} {B B2 : List Row} {P : Program} {t te : TypeId} {n : Int} {K : List Row → Option Res} (hm : mapE P t = some te) (h : B[id]? = some [.md (es.map (encM e))])
  (hB : B.set id [.md ((delM es n).map (encM e))] = B2) : xdel P t (.mp id) (.p (.v (.int .i64 n))) B K = K B2 := by
 unfold xdel ZfU
 simp only [hm, h, Z3C, mdOf, asK, ZAA, hB]
def nilO {α : Type} (o : Own) (l : List α) : Option Bool :=
 match o with
 | .nl => some true
 | .ex | .un => some false
 | .sh => match l with
  | [] => none
  | _ :: _ => some false
theorem ZKl {α : Type} {e : α → PV} {o : Own} {l : List α} {b : Bool} (h : nilO o l = some b) : Zh9 (.p (.lst o (l.map e))) = some b := by
 cases o <;> cases l <;> simp_all [nilO, Zh9]
theorem ZrC {α : Type} {P : Program} {t : TypeId} {c : Value} {e : α → PV} {o : Own} {l : List α} {b : Bool} (hk : ZpM P t c (.p (.lst o (l.map e))) = true) (h : nilO o l = some b) : xnil P .neq t c (.p (.lst o (l.map e))) = some (.p (.v (.bool (!b)))) := by
 unfold xnil; rw [if_pos hk, ZKl h]; rfl
end Go.Abs
end
section
namespace Go.Abs
open Go
theorem Z63 {α β : Type} (P : Program) (s : Sem α) (k : α → Sem β) : Z2r P (s >>= k) = (Z2r P s).bind fun a => Z2r P (k a) := by
 show Z2r P (Sem.bind s k) = _
 induction s with
 | pure x => simp [Sem.bind, Z2r]
 | program c ih => simp only [Sem.bind, Z2r]; exact ih P
 | _ => simp [Sem.bind, Z2r]
theorem Z5D {α : Type} (P : Program) (a : α) : Z2r P (pure a : Sem α) = some a := rfl
theorem Zmg (P : Program) : Z2r P program = some P := rfl
theorem Zcc {P : Program} {t : TypeId} {d : TypeDesc} (h : P.underlying t = some d) : Z2r P (underlying t) = some d := by
 simp [underlying, Z63, Zmg, h, Z5D]
theorem ZpV {α : Type} (P : Program) (c : Prop) [Decidable c] (a b : Sem α) : Z2r P (if c then a else b) = if c then Z2r P a else Z2r P b := by split <;> rfl
theorem Zll (P : Program) (d : Nat) (t : TypeId) (xs ys : Array Value) (ht : P.underlying t = some (.struct (P.fieldsOf t))) (hp' : P.stoodInHeld t = false) :
  Z2r P (Op.equalIn (d + 1) t (.agg xs) (.agg ys)) = Z2r P (Op.eqFields d xs ys (P.fieldsOf t).toList) := by
 simp only [Op.equalIn, Z63, Zcc ht, q0_, Zmg, hp', Ze6, if_false, Z5D, ZpV]
 rw [← Array.forIn_toList]
 generalize (P.fieldsOf t).toList = fs
 clear ht
 induction fs with
 | nil => simp [Op.eqFields, Z5D]
 | cons f fs ih =>
  simp only [List.forIn_cons, Op.eqFields, Z63, ZpV]
  split
  ·cases Z2r P (part f.type xs f.offset) with
   | none => rfl
   | some a =>
    simp only [q0_]
    cases Z2r P (part f.type ys f.offset) with
    | none => rfl
    | some b =>
     simp only [q0_]
     cases Z2r P (Op.equalIn d f.type a b) with
     | none => rfl
     | some r =>
      cases r
      ·simp [Z5D]
      ·simp only [q0_, Zn9, Ze6, if_false, Z5D]
       exact ih
  ·simp only [Z5D, q0_]
   exact ih
theorem ZKJ {P : Program} {d : Nat} {t : TypeId} {k k' : IntKind} (a b : Int) (h : P.underlying t = some (.int k')) : Z2r P (Op.equalIn (d + 1) t (.int k a) (.int k b)) = some (a == b) := by
 simp [Op.equalIn, Z63, Zcc h, Z5D]
theorem ZJE {P : Program} {d : Nat} {t : TypeId} (a b : Bool) (h : P.underlying t = some .bool) : Z2r P (Op.equalIn (d + 1) t (.bool a) (.bool b)) = some (a == b) := by
 simp [Op.equalIn, Z63, Zcc h, Z5D]
theorem ZKK {P : Program} {d : Nat} {t : TypeId} (a b : ByteArray) (h : P.underlying t = some .string) : Z2r P (Op.equalIn (d + 1) t (.string a) (.string b)) = some (seq a b) := by
 simp [Op.equalIn, Z63, Zcc h, Z5D, beq_toListBytes, seq]
def eqC : PV → PV → Bool
 | .v (.int _ a), .v (.int _ b) => a == b
 | .v (.bool a), .v (.bool b) => a == b
 | .v (.string a), .v (.string b) => seq a b
 | _, _ => true
def okC (P : Program) (t : TypeId) (x y : PV) : Bool :=
 match P.underlying t, x, y with
 | some (.int _), .v (.int k _), .v (.int k' _) => k == k'
 | some .bool, .v (.bool _), .v (.bool _) => true
 | some .string, .v (.string _), .v (.string _) => true
 | _, _, _ => false
def eqCs : List PV → List PV → Bool
 | x :: xs, y :: ys => eqC x y && eqCs xs ys
 | _, _ => true
def okFs (P : Program) : Nat → List Field → List PV → List PV → Bool
 | i, f :: fs, x :: xs, y :: ys => f.name != "_" && f.offset == i && okC P f.type x y && okFs P (i + 1) fs xs ys
 | _, [], [], [] => true
 | _, _, _, _ => false
theorem ZJD {P : Program} {d : Nat} {t : TypeId} {x y : PV} {a b : Value} (h : okC P t x y = true) (hx : ZcC x = some a) (hy : ZcC y = some b) : Z2r P (Op.equalIn (d + 1) t a b) = some (eqC x y) := by
 unfold okC at h
 split at h <;> simp only [ZcC, q1_] at hx hy
 ·subst hx; subst hy
  have e := beq_iff_eq.1 h
  subst e
  exact ZKJ _ _ ‹_›
 ·subst hx; subst hy; exact ZJE _ _ ‹_›
 ·subst hx; subst hy; exact ZKK _ _ ‹_›
 ·simp at h
theorem Zuc {P : Program} {t : TypeId} {xs : Array Value} {i : Nat} {v : Value} (ha : Z2r P (isAgg t) = some false) (h : xs[i]? = some v) : Z2r P (part t xs i) = some v := by
 unfold part
 simp [Z63, ha, h, ZpV, Z5D]
theorem Zhc : ∀ {l : List PV} {vs : List Value}, Z3P l = some vs → ∀ (i : Nat) (x : PV), l[i]? = some x → ∃ v, ZcC x = some v ∧ vs[i]? = some v
 | [], _, _, i, x, h => by simp at h
 | p :: r, vs, h, i, x, hx => by
  simp only [Z3P] at h
  split at h
  ·rename_i a b ha hb
   cases h
   cases i with
   | zero => simp at hx; subst hx; exact ⟨a, ha, rfl⟩
   | succ i => simpa using Zhc hb i x (by simpa using hx)
  ·simp at h
theorem Zu9 {P : Program} {t : TypeId} {x y : PV} (h : okC P t x y = true) : Z2r P (isAgg t) = some false := by
 unfold okC at h
 split at h <;> first | (simp [isAgg, Z63, Zcc ‹_›, Z5D]) | (simp at h)
theorem Zt8 {P : Program} {d : Nat} {xs ys : List PV} {us vs : List Value} (hx : Z3P xs = some us) (hy : Z3P ys = some vs) : ∀ (fs : List Field) (i : Nat), okFs P i fs (xs.drop i) (ys.drop i) = true →
  Z2r P (Op.eqFields (d + 1) us.toArray vs.toArray fs) = some (eqCs (xs.drop i) (ys.drop i)) := by
 intro fs
 induction fs with
 | nil =>
  intro i h
  cases hxi : xs.drop i <;> cases hyi : ys.drop i <;> rw [hxi, hyi] at h <;> simp_all [okFs, Op.eqFields, eqCs, Z5D]
 | cons f fs ih =>
  intro i h
  cases hxi : xs.drop i with
  | nil => rw [hxi] at h; simp [okFs] at h
  | cons x xr =>
   cases hyi : ys.drop i with
   | nil => rw [hxi, hyi] at h; simp [okFs] at h
   | cons y yr =>
    rw [hxi, hyi] at h
    simp only [okFs, q6_, bne_iff_ne, beq_iff_eq, ne_eq] at h
    obtain ⟨⟨⟨h1, h2⟩, h3⟩, h4⟩ := h
    have gx : xs[i]? = some x := by rw [← List.head?_drop, hxi]; rfl
    have gy : ys[i]? = some y := by rw [← List.head?_drop, hyi]; rfl
    have dx : xs.drop (i + 1) = xr := by rw [← List.tail_drop, hxi]; rfl
    have dy : ys.drop (i + 1) = yr := by rw [← List.tail_drop, hyi]; rfl
    obtain ⟨a, ha, hau⟩ := Zhc hx i x gx
    obtain ⟨b, hb, hbv⟩ := Zhc hy i y gy
    have ih' := ih (i + 1) (by rw [dx, dy]; exact h4)
    rw [dx, dy] at ih'
    simp only [Op.eqFields, ZpV, Z63]
    rw [if_pos h1, h2, Zuc (Zu9 h3) (by simpa using hau), Zuc (Zu9 h3) (by simpa using hbv)]
    simp only [q0_, ZJD h3 ha hb, ih', eqCs]
    cases eqC x y <;> simp [Z5D]
theorem Zrj {P : Program} {op : BinOp} {t : TypeId} {x y : Operand} {xs ys : Array Value} (h : P.eqGuardType P.depth t = false) : Z2r P (eqGuard op t x y (.agg xs) (.agg ys)) = some () := by
 cases op <;> simp [eqGuard, Z63, Zmg, h, Z5D, ZpV]
theorem Zhw {P : Program} : ∀ {fs : List Field} {i : Nat} {xs ys : List PV}, okFs P i fs xs ys = true → (∃ us, Z3P xs = some us) ∧ ∃ vs, Z3P ys = some vs
 | [], i, [], [], _ => ⟨⟨[], rfl⟩, [], rfl⟩
 | [], i, [], _ :: _, h => by simp [okFs] at h
 | [], i, _ :: _, _, h => by simp [okFs] at h
 | f :: fs, i, [], _, h => by simp [okFs] at h
 | f :: fs, i, _ :: _, [], h => by simp [okFs] at h
 | f :: fs, i, x :: xs, y :: ys, h => by
  simp only [okFs, q6_] at h
  obtain ⟨⟨us, hu⟩, vs, hv⟩ := Zhw h.2
  have hc := h.1.2
  unfold okC at hc
  split at hc <;> first | (simp at hc; done) | (simp only [Z3P, ZcC, hu, hv]; exact ⟨⟨_, rfl⟩, _, rfl⟩)
def Z8S (P : Program) (t : TypeId) : Nat := match P.info? t with | some i => i.size | none => 0
def okGs (P : Program) : Nat → List Field → List PV → List PV → Bool
 | i, f :: fs, x :: xs, y :: ys => f.name != "_" && f.offset == i &&
  ((okC P f.type x y && okGs P (i + 1) fs xs ys) ||
   ((match P.underlying f.type with | some (.struct _) => true | _ => false) && decide (0 < Z8S P f.type) && decide (((x :: xs).take (Z8S P f.type)).length = Z8S P f.type) && decide (((y :: ys).take (Z8S P f.type)).length = Z8S P f.type) &&
    okFs P 0 (P.fieldsOf f.type).toList ((x :: xs).take (Z8S P f.type)) ((y :: ys).take (Z8S P f.type)) && !P.stoodInHeld f.type && okGs P (i + Z8S P f.type) fs ((x :: xs).drop (Z8S P f.type)) ((y :: ys).drop (Z8S P f.type))))
 | _, [], [], [] => true
 | _, _, _, _ => false
theorem Zwc : ∀ (k : Nat) (xs ys : List PV), (xs.take k).length = k → (ys.take k).length = k → eqCs xs ys = (eqCs (xs.take k) (ys.take k) && eqCs (xs.drop k) (ys.drop k))
 | 0, xs, ys, _, _ => by simp [eqCs]
 | k + 1, [], _, h, _ => by simp at h
 | k + 1, _ :: _, [], _, h => by simp at h
 | k + 1, x :: xs, y :: ys, h, h' => by
  have := Zwc k xs ys (by simpa using h) (by simpa using h')
  simp only [List.take_succ_cons, List.drop_succ_cons, eqCs, this, Bool.and_assoc]
theorem Znf : ∀ {l : List PV} {vs : List Value} (k : Nat), Z3P l = some vs → Z3P (l.take k) = some (vs.take k)
 | [], vs, k, h => by simp only [Z3P, q1_] at h; subst h; simp [Z3P]
 | p :: r, vs, 0, h => by simp [Z3P]
 | p :: r, vs, k + 1, h => by
  simp only [Z3P] at h
  split at h
  ·rename_i a b ha hb
   cases h
   simp only [List.take_succ_cons, Z3P, ha, Znf k hb]
  ·simp at h
theorem Zne : ∀ {l : List PV} {vs : List Value} (k : Nat), Z3P l = some vs → Z3P (l.drop k) = some (vs.drop k)
 | [], vs, k, h => by simp only [Z3P, q1_] at h; subst h; simp [Z3P]
 | p :: r, vs, 0, h => by simpa using h
 | p :: r, vs, k + 1, h => by
  simp only [Z3P] at h
  split at h
  ·rename_i a b ha hb
   cases h
   simpa using Zne k hb
  ·simp at h
theorem ZoE : ∀ {a b : List PV} {us vs : List Value}, Z3P a = some us → Z3P b = some vs → Z3P (a ++ b) = some (us ++ vs)
 | [], b, us, vs, h, h' => by simp only [Z3P, q1_] at h; subst h; simpa using h'
 | p :: r, b, us, vs, h, h' => by
  simp only [Z3P] at h
  split at h
  ·rename_i x y hx hy
   cases h
   simp only [ZvQ, Z3P, hx, ZoE hy h']
  ·simp at h
theorem Zg0 {P : Program} : ∀ {fs : List Field} {i : Nat} {xs ys : List PV}, okGs P i fs xs ys = true → (∃ us, Z3P xs = some us) ∧ ∃ vs, Z3P ys = some vs
 | [], i, [], [], _ => ⟨⟨[], rfl⟩, [], rfl⟩
 | [], i, [], _ :: _, h => by simp [okGs] at h
 | [], i, _ :: _, _, h => by simp [okGs] at h
 | f :: fs, i, [], _, h => by simp [okGs] at h
 | f :: fs, i, _ :: _, [], h => by simp [okGs] at h
 | f :: fs, i, x :: xs, y :: ys, h => by
  rw [okGs, q6_, ZlD] at h
  rcases h.2 with h2 | h2
  ·rw [q6_] at h2
   obtain ⟨⟨us, hu⟩, vs, hv⟩ := Zg0 h2.2
   have hc := h2.1
   unfold okC at hc
   split at hc <;> first | (simp at hc; done) | (simp only [Z3P, ZcC, hu, hv]; exact ⟨⟨_, rfl⟩, _, rfl⟩)
  ·simp only [q6_] at h2
   obtain ⟨⟨⟨_, hk⟩, _⟩, hr⟩ := h2
   obtain ⟨⟨us, hu⟩, vs, hv⟩ := Zhw hk
   obtain ⟨⟨us', hu'⟩, vs', hv'⟩ := Zg0 hr
   refine ⟨⟨us ++ us', ?_⟩, vs ++ vs', ?_⟩
   ·have := ZoE hu hu'
    rwa [ZAq] at this
   ·have := ZoE hv hv'
    rwa [ZAq] at this
theorem ZCn {P : Program} {t : TypeId} {fs : Array Field} {vs : List Value} {i : Nat} (ht : P.underlying t = some (.struct fs)) (h0 : 0 < Z8S P t) : Z2r P (part t vs.toArray i) = some (.agg ((vs.drop i).take (Z8S P t)).toArray) := by
 have ha : Z2r P (isAgg t) = some true := by simp [isAgg, Z63, Zcc ht, Z5D]
 have hs : Z2r P (Go.sizeOf t) = some (Z8S P t) := by
  unfold Go.sizeOf typeInfo
  unfold Z8S at h0 ⊢
  cases hi : P.info? t with
  | none => rw [hi] at h0; simp at h0
  | some inf => simp [Z63, Zmg, hi, Z5D]
 unfold part
 simp only [Z63, ha, q0_, if_true, hs, Z5D, q1_, Value.agg.injEq]
 apply Zxs.1
 simp [List.extract, List.take_drop]
theorem Zxp {P : Program} {d : Nat} {xs ys : List PV} {us vs : List Value} (hx : Z3P xs = some us) (hy : Z3P ys = some vs) : ∀ (fs : List Field) (i : Nat), okGs P i fs (xs.drop i) (ys.drop i) = true →
  Z2r P (Op.eqFields (d + 2) us.toArray vs.toArray fs) = some (eqCs (xs.drop i) (ys.drop i)) := by
 intro fs
 induction fs with
 | nil =>
  intro i h
  cases hxi : xs.drop i <;> cases hyi : ys.drop i <;> rw [hxi, hyi] at h <;> simp_all [okGs, Op.eqFields, eqCs, Z5D]
 | cons f fs ih =>
  intro i h
  cases hxi : xs.drop i with
  | nil => rw [hxi] at h; simp [okGs] at h
  | cons x xr =>
   cases hyi : ys.drop i with
   | nil => rw [hxi, hyi] at h; simp [okGs] at h
   | cons y yr =>
    rw [hxi, hyi, okGs, q6_, ZlD] at h
    obtain ⟨h12, h3⟩ := h
    simp only [q6_, bne_iff_ne, beq_iff_eq, ne_eq] at h12
    obtain ⟨h1, h2⟩ := h12
    simp only [Op.eqFields, ZpV, Z63]
    rw [if_pos h1, h2]
    rcases h3 with h3 | h3
    ·rw [q6_] at h3
     have gx : xs[i]? = some x := by rw [← List.head?_drop, hxi]; rfl
     have gy : ys[i]? = some y := by rw [← List.head?_drop, hyi]; rfl
     have dx : xs.drop (i + 1) = xr := by rw [← List.tail_drop, hxi]; rfl
     have dy : ys.drop (i + 1) = yr := by rw [← List.tail_drop, hyi]; rfl
     obtain ⟨a, ha, hau⟩ := Zhc hx i x gx
     obtain ⟨b, hb, hbv⟩ := Zhc hy i y gy
     have ih' := ih (i + 1) (by rw [dx, dy]; exact h3.2)
     rw [dx, dy] at ih'
     rw [Zuc (Zu9 h3.1) (by simpa using hau), Zuc (Zu9 h3.1) (by simpa using hbv)]
     simp only [q0_, ZJD (d := d + 1) h3.1 ha hb, ih', eqCs]
     cases eqC x y <;> simp [Z5D]
    ·simp only [q6_, decide_eq_true_eq, Zrp] at h3
     obtain ⟨⟨⟨⟨⟨⟨s1, s2⟩, s3⟩, s4⟩, s5⟩, s6⟩, s7⟩ := h3
     obtain ⟨fa, ht⟩ : ∃ fa, P.underlying f.type = some (.struct fa) := by
      cases hu : P.underlying f.type with
      | none => rw [hu] at s1; simp at s1
      | some q => cases q <;> rw [hu] at s1 <;> first | exact ⟨_, rfl⟩ | (simp at s1)
     have hfo : P.fieldsOf f.type = fa := by unfold Program.fieldsOf; rw [ht]
     rw [ZCn ht s2, ZCn ht s2]
     have ex := Znf (Z8S P f.type) (Zne i hx)
     have ey := Znf (Z8S P f.type) (Zne i hy)
     rw [hxi] at ex
     rw [hyi] at ey
     have hsub : Z2r P (Op.equalIn (d + 2) f.type (.agg ((us.drop i).take (Z8S P f.type)).toArray) (.agg ((vs.drop i).take (Z8S P f.type)).toArray)) = some (eqCs ((x :: xr).take (Z8S P f.type)) ((y :: yr).take (Z8S P f.type))) := by
      rw [Zll P _ f.type _ _ (by rw [hfo]; exact ht) s6]
      exact Zt8 ex ey _ 0 s5
     have ih' := ih (i + Z8S P f.type) (by rw [← ZvR, ← ZvR, hxi, hyi]; exact s7)
     rw [← ZvR, ← ZvR, hxi, hyi] at ih'
     simp only [q0_, hsub, ih']
     rw [Zwc (Z8S P f.type) (x :: xr) (y :: yr) s3 s4]
     cases eqCs ((x :: xr).take (Z8S P f.type)) ((y :: yr).take (Z8S P f.type)) <;> simp [Z5D]
theorem ZL3 {P : Program} {t : TypeId} {xs ys : List PV} {b : Bool} (ht : P.underlying t = some (.struct (P.fieldsOf t))) (hp : P.stoodInHeld t = false) (hg : P.eqGuardType P.depth t = false)
  (hf : okGs P 0 (P.fieldsOf t).toList xs ys = true) (hb : eqCs xs ys = b) : xbin P .eql t (.p (.agg xs)) (.p (.agg ys)) = some (.p (.v (.bool b))) := by
 subst hb
 obtain ⟨⟨us, hu⟩, vs, hv⟩ := Zg0 hf
 have e : Z2r P (Op.equal t (.agg us.toArray) (.agg vs.toArray)) = some (eqCs xs ys) := by
  unfold Op.equal Op.maxDepth
  rw [show (10000 : Nat) = 9997 + 2 + 1 from rfl, Zll P _ t _ _ ht hp]
  exact Zxp hu hv _ 0 hf
 unfold xbin
 simp only [Zhx, hu, hv, Z9W, Zbc, Zxt, if_true]
 have : Z2r P (do eqGuard .eql t (.tmp 0) (.tmp 0) (.agg us.toArray) (.agg vs.toArray); binOp .eql t (.agg us.toArray) (.agg vs.toArray)) = some (.bool (eqCs xs ys)) := by
  rw [Z63, Zrj hg]
  simp only [q0_, binOp, Z63, e, Z5D]
 rw [this]
 rfl
theorem ZL4 {P : Program} {t : TypeId} {xs ys : List PV} {b : Bool} (ht : P.underlying t = some (.struct (P.fieldsOf t))) (hp : P.stoodInHeld t = false) (hg : P.eqGuardType P.depth t = false)
  (hf : okGs P 0 (P.fieldsOf t).toList xs ys = true) (hb : eqCs xs ys = b) : xbin P .neq t (.p (.agg xs)) (.p (.agg ys)) = some (.p (.v (.bool (!b)))) := by
 subst hb
 obtain ⟨⟨us, hu⟩, vs, hv⟩ := Zg0 hf
 have e : Z2r P (Op.equal t (.agg us.toArray) (.agg vs.toArray)) = some (eqCs xs ys) := by
  unfold Op.equal Op.maxDepth
  rw [show (10000 : Nat) = 9997 + 2 + 1 from rfl, Zll P _ t _ _ ht hp]
  exact Zxp hu hv _ 0 hf
 unfold xbin
 simp only [Zhx, hu, hv, Z9W, Zbc, Zxt, if_true]
 have : Z2r P (do eqGuard .neq t (.tmp 0) (.tmp 0) (.agg us.toArray) (.agg vs.toArray); binOp .neq t (.agg us.toArray) (.agg vs.toArray)) = some (.bool (!(eqCs xs ys))) := by
  rw [Z63, Zrj hg]
  simp only [q0_, binOp, Z63, e, Z5D]
 rw [this]
 rfl
theorem ZNu {P : Program} {t : TypeId} {xs ys : List PV} {b : Bool} (ht : P.underlying t = some (.struct (P.fieldsOf t))) (hp : P.stoodInHeld t = false) (hg : P.eqGuardType P.depth t = false)
  (hf : okFs P 0 (P.fieldsOf t).toList xs ys = true) (hb : eqCs xs ys = b) : xbin P .eql t (.p (.agg xs)) (.p (.agg ys)) = some (.p (.v (.bool b))) := by
 subst hb
 obtain ⟨⟨us, hu⟩, vs, hv⟩ := Zhw hf
 have e : Z2r P (Op.equal t (.agg us.toArray) (.agg vs.toArray)) = some (eqCs xs ys) := by
  unfold Op.equal Op.maxDepth
  rw [show (10000 : Nat) = 9998 + 1 + 1 from rfl, Zll P _ t _ _ ht hp]
  exact Zt8 hu hv _ 0 hf
 unfold xbin
 simp only [Zhx, hu, hv, Z9W, Zbc, Zxt, if_true]
 have : Z2r P (do eqGuard .eql t (.tmp 0) (.tmp 0) (.agg us.toArray) (.agg vs.toArray); binOp .eql t (.agg us.toArray) (.agg vs.toArray)) = some (.bool (eqCs xs ys)) := by
  rw [Z63, Zrj hg]
  simp only [q0_, binOp, Z63, e, Z5D]
 rw [this]
 rfl
theorem ZNv {P : Program} {t : TypeId} {xs ys : List PV} {b : Bool} (ht : P.underlying t = some (.struct (P.fieldsOf t))) (hp : P.stoodInHeld t = false) (hg : P.eqGuardType P.depth t = false)
  (hf : okFs P 0 (P.fieldsOf t).toList xs ys = true) (hb : eqCs xs ys = b) : xbin P .neq t (.p (.agg xs)) (.p (.agg ys)) = some (.p (.v (.bool (!b)))) := by
 subst hb
 obtain ⟨⟨us, hu⟩, vs, hv⟩ := Zhw hf
 have e : Z2r P (Op.equal t (.agg us.toArray) (.agg vs.toArray)) = some (eqCs xs ys) := by
  unfold Op.equal Op.maxDepth
  rw [show (10000 : Nat) = 9998 + 1 + 1 from rfl, Zll P _ t _ _ ht hp]
  exact Zt8 hu hv _ 0 hf
 unfold xbin
 simp only [Zhx, hu, hv, Z9W, Zbc, Zxt, if_true]
 have : Z2r P (do eqGuard .neq t (.tmp 0) (.tmp 0) (.agg us.toArray) (.agg vs.toArray); binOp .neq t (.agg us.toArray) (.agg vs.toArray)) = some (.bool (!(eqCs xs ys))) := by
  rw [Z63, Zrj hg]
  simp only [q0_, binOp, Z63, e, Z5D]
 rw [this]
 rfl
end Go.Abs
end
section
namespace Go.Abs
open Go Go.RowKit Go.ChangeShapes Go.WideShapes Go.ChangeAt Go.Deep
def Z3w (w : World) (ps : List PV) (cs : List Value) : Prop :=
 ps.length = cs.length ∧ ∀ (i : Nat) (p : PV) (v : Value), ps[i]? = some p → cs[i]? = some v → Z8a p = true ∧ PRel w (Old w) p v
section
variable {H : Type} {enc : TypeId × Value → H} {P : Program} {w : World}
def Zet {α : Type} (enc : TypeId × Value → H) (P : Program) (w : World) (t : TypeId) (c : α → List PV) (wf : α → Prop) : Prop :=
 ∀ fuel cs x, DataW.trod enc P w 0 (fun _ => true) true fuel t cs = some x → ∃ a, wf a ∧ Z3w w (c a) cs
theorem Z3w.one {p : PV} {v : Value} (h1 : Z8a p = true) (h2 : PRel w (Old w) p v) : Z3w w [p] [v] := by
 refine ⟨rfl, fun i q u hq hu => ?_⟩
 cases i with
 | zero => simp at hq hu; subst hq; subst hu; exact ⟨h1, h2⟩
 | succ i => simp at hq
theorem Z3w.nil : Z3w w [] [] := ⟨rfl, fun i q u hq => by simp at hq⟩
theorem Z3w.app {p q : List PV} {cs : List Value} {n : Nat} (h1 : Z3w w p (cs.take n)) (h2 : Z3w w q (cs.drop n)) : Z3w w (p ++ q) cs := by
 have e := ZAq n cs
 refine ⟨by rw [ZaC, h1.1, h2.1, ← ZaC, e], fun i a v ha hv => ?_⟩
 by_cases hi : i < p.length
 ·rw [ZH0 hi] at ha
  refine h1.2 i a v ha ?_
  rw [← e, ZH0 (by rw [← h1.1]; exact hi)] at hv
  exact hv
 ·rw [ZCq (by omega)] at ha
  refine h2.2 (i - p.length) a v ha ?_
  rw [← e, ZCq (by rw [← h1.1]; omega), ← h1.1] at hv
  exact hv
theorem ZA8 {t : TypeId} {k : IntKind} (ht : P.underlying t = some (.int k)) : Zet enc P w t (fun n : Int => [eI k n]) (fun n => (Lit.int k n).wf = true) := by
 intro fuel cs x h
 obtain ⟨n, rfl, _, hw⟩ := DataW.trod_int ht h
 exact ⟨n, hw, Z3w.one rfl (.v _ rfl)⟩
theorem ZJz {t : TypeId} (ht : P.underlying t = some .string) : Zet enc P w t (fun s : ByteArray => [eS s]) (fun s => s.size ≤ maxLen) := by
 intro fuel cs x h
 obtain ⟨s, rfl, _, hs⟩ := DataW.trod_string ht h
 exact ⟨s, hs, Z3w.one rfl (.v _ rfl)⟩
theorem Zmf {α : Type} {t : TypeId} {c : α → List PV} {p q : α → Prop} (h : Zet enc P w t c p) (hq : ∀ a, p a → q a) : Zet enc P w t c q := fun fuel cs x hx => by
 obtain ⟨a, h1, h2⟩ := h fuel cs x hx
 exact ⟨a, hq a h1, h2⟩
theorem cell_spot {a : Addr} {v : Value} (h : w.cell? (a.add 0) = some v) : a.spot = none ∧ a.block < w.heap.size := by
 have e : a.add 0 = a := by simp [Addr.add]
 rw [e] at h
 unfold World.cell? at h
 cases hh : w.heap[a.block]? with
 | none => rw [hh] at h; simp at h
 | some x =>
  refine ⟨?_, (Zal.1 hh).1⟩
  rw [hh] at h
  cases ha : a.spot with
  | none => rfl
  | some s => rw [ha] at h; cases x <;> simp at h
theorem ZkG {α : Type} {t e : TypeId} {c : α → List PV} {ee : α → PV} {wf : α → Prop} [Inhabited α] (ht : P.underlying t = some (.slice e)) (hn : 0 < P.cellsOf e) (he : ∀ a, Z2q (ee a) = c a) (ho : Zet enc P w e c wf) :
  Zet enc P w t (fun l : List α => [eL ee l]) (fun l => l.length ≤ maxLen ∧ ∀ a ∈ l, wf a) := by
 intro fuel cs x h
 rcases open_slice ht h with ⟨rfl, _⟩ | ⟨a, len, cap, m, n, D, Pl, rfl, _, hl, hm, hmm, _, hx⟩
 ·exact ⟨[], ⟨by simp, by simp⟩, Z3w.one rfl (.lst .sh [] none 0 0 0 0 (fun _ _ => undef) (q7_ _) (by simp) (by simp) (by simp) (fun _ => rfl) (by simp) (by simp) (by simp))⟩
 ·have hmc : m = cap := by simpa using hmm
  subst hmc
  have each : ∀ i, i < len → ∃ q : α × List Value, wf q.1 ∧ Z3w w (c q.1) q.2 ∧ q.2.length = P.cellsOf e ∧ ∀ j, j < P.cellsOf e → w.cell? (a.add (i * P.cellsOf e + j)) = q.2[j]? := by
   intro i hi
   obtain ⟨cs', h1, h2⟩ := hx i (by omega)
   obtain ⟨_, hlen, hcell⟩ := World.cells?_some h1
   obtain ⟨y, hy, hr⟩ := ho _ _ _ h2
   exact ⟨(y, cs'), hy, hr, hlen, fun j hj => by rw [← hcell j hj, add_add]⟩
  haveI : Inhabited (α × List Value) := ⟨(default, [])⟩
  obtain ⟨q, hq⟩ := choose_lt each
  have hlen : ((List.range len).map fun i => (q i).1).length = len := by simp
  refine ⟨(List.range len).map fun i => (q i).1, ⟨by rw [hlen]; omega, ?_⟩, Z3w.one rfl ?_⟩
  ·intro y hy
   obtain ⟨i, hi, rfl⟩ := Z7p.1 hy
   exact (hq i (Zrs.1 hi)).1
  ·have hcl : ∀ i, i < len → (c (q i).1).length = P.cellsOf e := fun i hi => by rw [(hq i hi).2.1.1]; exact (hq i hi).2.2.1
   have hcs : ∀ i j, i < len → j < P.cellsOf e → ∃ v, (q i).2[j]? = some v ∧ w.cell? (a.add (i * P.cellsOf e + j)) = some v := by
    intro i j hi hj
    obtain ⟨_, _, h3, h4⟩ := hq i hi
    have : j < (q i).2.length := by omega
    exact ⟨(q i).2[j], q2_ this, by rw [h4 j hj, q2_ this]⟩
   have hge : ∀ (i : Nat) (x : PV), (((List.range len).map fun i => (q i).1).map ee)[i]? = some x → i < len ∧ Z2q x = c (q i).1 := by
    intro i x hx
    rw [Zrq, q5_] at hx
    obtain ⟨k, hk, rfl⟩ := q4_.1 hx
    obtain ⟨h1, rfl⟩ := q3_.1 hk
    simp at h1
    refine ⟨h1, ?_⟩
    simp [he]
   have hsp : 0 < len → a.spot = none ∧ a.block < w.heap.size := by
    intro h0
    obtain ⟨v, _, h2⟩ := hcs 0 0 h0 hn
    exact cell_spot (by simpa using h2)
   have hadd : 0 < len → ∀ n, a.add n = ⟨a.block, a.off + n, none⟩ := by
    intro h0 n
    have hs := (hsp h0).1
    have : a = ⟨a.block, a.off, none⟩ := by cases a; simp at hs; simp [hs]
    rw [this, Zbf]
   have key := PRel.lst (w := w) (S := Old w) .sh (((List.range len).map fun i => (q i).1).map ee) (some a) m a.block a.off (P.cellsOf e) (fun i j => ((q i).2[j]?).getD undef) (by simp; omega) (by simp) (by simp) (by simp) (by simp)
    (fun hne => by
     have h0 : 0 < len := by
      rcases ZvM len with e | e
      ·subst e; simp at hne
      ·exact e
     refine ⟨?_, hn, ?_⟩
     ·have := (hsp h0).1
      cases a
      simp at this
      simp [this]
     ·intro x hx
      obtain ⟨i, hi⟩ := ZCB hx
      obtain ⟨h1, h2⟩ := hge i x hi
      rw [h2, hcl i h1])
    (fun i x j p hx hp => by
     obtain ⟨h1, h2⟩ := hge i x hx
     rw [h2] at hp
     have hj : j < P.cellsOf e := by rw [← hcl i h1]; exact (q3_.1 hp).1
     obtain ⟨v, e1, e2⟩ := hcs i j h1 hj
     refine ⟨?_, (hsp (by omega)).2, ((hq i h1).2.1.2 j p v hp e1).1⟩
     rw [e1, Ztb, ← e2, hadd (by omega)])
    (fun i x j p hx hp => by
     obtain ⟨h1, h2⟩ := hge i x hx
     rw [h2] at hp
     have hj : j < P.cellsOf e := by rw [← hcl i h1]; exact (q3_.1 hp).1
     obtain ⟨v, e1, e2⟩ := hcs i j h1 hj
     rw [e1, Ztb]
     exact ((hq i h1).2.1.2 j p v hp e1).2)
   rw [Zgy, Zgy, List.length_range] at key
   exact key
theorem Zn7 {fs : Array Field} {t : TypeId} (ht : P.underlying t = some (.struct fs)) {fuel : Nat} {cs : List Value} {x : DataW H × List MemPlace} (h : DataW.trod enc P w 0 (fun _ => true) true fuel t cs = some x) :
  cs.length = P.cellsOf t ∧ ∀ (i : Nat) (f : Field), fs[i]? = some f → ∃ n y, DataW.trod enc P w 0 (fun _ => true) true n f.type ((cs.drop f.offset).take (P.cellsOf f.type)) = some y := by
 obtain ⟨xs, n, _, _, hl, hlen, hf⟩ := DataW.trod_struct ht h
 refine ⟨hl, fun i f hi => ?_⟩
 have hi' : i < xs.length := by rw [hlen]; exact (Zal.1 hi).1
 exact ⟨n, xs[i], by rw [hf i f hi, q2_ hi']⟩
theorem Z3w.next {p q : List PV} {cs : List Value} {o n : Nat} (h1 : Z3w w p ((cs.drop o).take n)) (h2 : Z3w w q (cs.drop (o + n))) : Z3w w (p ++ q) (cs.drop o) :=
 Z3w.app h1 (by rw [ZvR]; exact h2)
theorem Z3w.agg {ps : List PV} {arr : Array Value} (h : Z3w w ps arr.toList) : PRel w (Old w) (.agg ps) (.agg arr) := by
 refine .agg ps arr (by rw [h.1]; simp) ?_ ?_
 ·intro c hc
  obtain ⟨i, hi⟩ := ZCB hc
  have : i < arr.toList.length := by rw [← h.1]; exact (q3_.1 hi).1
  exact (h.2 i c arr.toList[i] hi (q2_ this)).1
 ·intro i c v hc hv
  exact (h.2 i c v hc (by simpa using hv)).2
theorem row_one {α : Type} {t : TypeId} {e : α → PV} {wf : α → Prop} {base : Nat} {v : Value} {d : DataW H} {ps : List MemPlace} (hc : Value.cells v = #[v]) (h : DataW.Trod enc P w 0 (fun _ => true) true t v d ps) (ho : Zet enc P w t (fun a => [e a]) wf) :
  ∃ a, wf a ∧ PRel w (Old w) (e a) v := by
 obtain ⟨n, hn⟩ := h
 obtain ⟨a, ha, hr⟩ := ho _ _ _ hn
 rw [hc] at hr
 exact ⟨a, ha, (hr.2 0 (e a) v rfl rfl).2⟩
end
end Go.Abs
end
section
namespace Go.Abs
open Go
theorem Ztq {P : Program} {k : IntKind} (a b : Int) : Z9q P true [.p (.v (.int k a)), .p (.v (.int k b))] = some (.p (.v (.int k (max a b)))) := by
 have : Z2r P (Builtin.max_ #[] 0 [Value.int k a, Value.int k b].toArray) = some (.int k (max a b)) := by
  have e : (if b > a then b else a) = max a b := by omega
  rw [← e]
  rfl
 show ob (Z2r P (Builtin.max_ #[] 0 [Value.int k a, Value.int k b].toArray)) Za8 = _
 rw [this]
 rfl
theorem Zfl {P : Program} {k : IntKind} (a b : Int) : Z9q P false [.p (.v (.int k a)), .p (.v (.int k b))] = some (.p (.v (.int k (min a b)))) := by
 have : Z2r P (Builtin.min_ #[] 0 [Value.int k a, Value.int k b].toArray) = some (.int k (min a b)) := by
  have e : (if b < a then b else a) = min a b := by omega
  rw [← e]
  rfl
 show ob (Z2r P (Builtin.min_ #[] 0 [Value.int k a, Value.int k b].toArray)) Za8 = _
 rw [this]
 rfl
def pOwn : PV → Own | .lst o _ => o | _ => .sh
end Go.Abs
end
