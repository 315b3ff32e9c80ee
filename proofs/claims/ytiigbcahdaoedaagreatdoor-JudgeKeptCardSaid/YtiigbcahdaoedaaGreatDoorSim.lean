/- A typed reading of what the evaluator comes to. No condition. -/
import Derived.Test.YtiigbcahdaoedaaGreatDoorEvD
import Derived.KernelRfl
import Derived.Laws.StructEq
import Derived.Deep.Slices
import Derived.ChangeArms
import Derived.ChangeMaps5
import Derived.ChangeAt
import Derived.WideShapes
import Derived.SizedLaws

set_option linter.unusedSimpArgs false
set_option linter.unusedVariables false
set_option linter.defProp false
section
namespace Go.Abs
open Go
def RRun {R : Type} (Q : R → Res → Prop) (y : Option Res) (r : R) : Prop := ∃ q, y = some q ∧ Q r q
def Sim {R : Type} (Q : R → Res → Prop) (x : Option R) (y : Option Res) : Prop := ∀ r, x = some r → RRun Q y r
noncomputable def pick {R : Type} (p : R → Prop) : Option R := open Classical in if h : ∃ r, p r then some h.choose else none
theorem ZM {R : Type} {p : R → Prop} {r : R} (h : pick p = some r) : p r := by
 unfold pick at h
 split at h
 ·rename_i hh
  have := hh.choose_spec
  rw [Option.some.inj h] at this
  exact this
 ·simp at h
theorem ZR {R : Type} {p : R → Prop} (hu : ∀ a b, p a → p b → a = b) {r : R} (h : p r) : pick p = some r := by
 unfold pick
 have hh : ∃ r, p r := ⟨r, h⟩
 rw [dif_pos hh]
 exact congrArg some (hu _ _ hh.choose_spec h)
theorem RRun.uniq {R : Type} {Q : R → Res → Prop} (hu : ∀ r r' q, Q r q → Q r' q → r = r') {y : Option Res} {a b : R} (ha : RRun Q y a) (hb : RRun Q y b) : a = b := by
 obtain ⟨q, e, h⟩ := ha
 obtain ⟨q', e', h'⟩ := hb
 rw [e] at e'
 cases e'
 exact hu _ _ _ h h'
section
variable {R : Type} {Q : R → Res → Prop} {x x' : Option R} {y y' : Option Res}
theorem Sim.none : Sim Q Option.none y := fun _ h => by cases h
theorem Sim.ret {r : R} {q : Res} (h : Q r q) : Sim Q (some r) (some q) := fun _ e => by cases e; exact ⟨q, rfl, h⟩
theorem Sim.cast (h : y = y') (s : Sim Q x y') : Sim Q x y := h ▸ s
theorem Sim.mk (s : Sim Q x y) : Sim Q x (mk y) := s
theorem Sim.lp (s : Sim Q x y) : Sim Q x (lp y) := s
theorem Sim.ob1 {α : Type} {v : α} {z : Option α} {K : α → Option Res} (h : z = some v) (s : Sim Q x (K v)) : Sim Q x (ob z K) := by rw [h]; exact s
theorem Sim.asB {b : Bool} {v : AV} {K : Bool → Option Res} (h : v = .p (.v (.bool b))) (s : Sim Q x (K b)) : Sim Q x (asB v K) := by rw [h]; exact s
theorem Sim.br {b : Bool} {y1 y2 : Option Res} {x1 x2 : Option R} (s1 : b = true → Sim Q x1 y1) (s2 : b = false → Sim Q x2 y2) : Sim Q (if b = true then x1 else x2) (br b y1 y2) := by
 cases b with
 | true => exact s1 rfl
 | false => exact s2 rfl
theorem Sim.grd {b : Bool} (h : b = true) (s : Sim Q x y) : Sim Q x (grd b y) := by rw [h]; exact s
theorem Sim.bind {α : Type} {z : Option α} {k : α → Option R} (s : ∀ a, z = some a → Sim Q (k a) y) : Sim Q (z.bind k) y := by
 intro r h
 cases hz : z with
 | none => rw [hz] at h; simp at h
 | some a => rw [hz] at h; exact s a hz r h
theorem Sim.kv {v : AV} {B2 : List Row} {z : Option Res} {K : AV → List Row → Option Res} (h : z = K v B2) (s : Sim Q x (K v B2)) : Sim Q x z := by rw [h]; exact s
theorem Sim.bx {v : AV} {B B2 : List Row} {a : AV} {K : AV → List Row → Option Res} (h : ∀ K : AV → List Row → Option Res, bx a B K = K v B2) (s : Sim Q x (K v B2)) : Sim Q x (bx a B K) := by rw [h]; exact s
theorem Sim.bz {P : Program} {t : TypeId} {v : AV} {B B2 : List Row} {K : AV → List Row → Option Res} (h : ∀ K : AV → List Row → Option Res, bz P t B K = K v B2) (s : Sim Q x (K v B2)) : Sim Q x (bz P t B K) := by rw [h]; exact s
theorem Sim.ldOwn {a v : AV} {B B2 : List Row} {K : AV → List Row → Option Res} (h : ∀ K : AV → List Row → Option Res, ldOwn a B K = K v B2) (s : Sim Q x (K v B2)) : Sim Q x (ldOwn a B K) := by rw [h]; exact s
theorem Sim.stN {n : Nat} {a v : AV} {B B2 : List Row} {K : List Row → Option Res} (h : ∀ K : List Row → Option Res, stN n a v B K = K B2) (s : Sim Q x (K B2)) : Sim Q x (stN n a v B K) := by rw [h]; exact s
theorem Sim.xmake {P : Program} {t : TypeId} {v : AV} {B B2 : List Row} {K : AV → List Row → Option Res} (h : ∀ K : AV → List Row → Option Res, xmake P t B K = K v B2) (s : Sim Q x (K v B2)) : Sim Q x (xmake P t B K) := by rw [h]; exact s
theorem Sim.xupd {P : Program} {t : TypeId} {m k a : AV} {B B2 : List Row} {K : List Row → Option Res} (h : ∀ K : List Row → Option Res, xupd P t m k a B K = K B2) (s : Sim Q x (K B2)) : Sim Q x (xupd P t m k a B K) := by rw [h]; exact s
theorem Sim.xdel {P : Program} {t : TypeId} {m k : AV} {B B2 : List Row} {K : List Row → Option Res} (h : ∀ K : List Row → Option Res, xdel P t m k B K = K B2) (s : Sim Q x (K B2)) : Sim Q x (xdel P t m k B K) := by rw [h]; exact s
end
def aft (rs : List Nat) (B : List Row) (k : AV → List Row → Option Res) (r : Res) : Option Res :=
 let m := rs.length
  let B' := r.2.take m
  if below m (ptrs r.1) && B'.all (fun row => below m (ZX row)) then
   let back := fun id => rs.getD id 0
   k (Z1z back r.1) (Z1G B rs (B'.map (Z1k back)))
  else
   let n := B.length
   let back := fun id => if id < m then rs.getD id 0 else n + (id - m)
   k (Z1z back r.1) (Z1G B rs (B'.map (Z1k back)) ++ (r.2.drop m).map (Z1k back))
theorem Sim.callS {R : Type} {Q : R → Res → Prop} {x : Option R} {raw : Bool} {G : GF} {g : FuncId} {args : List AV} {B B2 : List Row} {K : AV → List Row → Option Res} {rs : List Nat} {y : Option Res} {q : Res} {v : AV}
  (hc : ∀ K : AV → List Row → Option Res, callS raw G g args B K = ob y (aft rs B K)) (e : y = some q) (ha : ∀ K : AV → List Row → Option Res, aft rs B K q = K v B2) (s : Sim Q x (K v B2)) : Sim Q x (callS raw G g args B K) := by
 rw [hc, e]
 show Sim Q x (aft rs B K q)
 rw [ha]
 exact s
theorem Sim.callV {R : Type} {Q : R → Res → Prop} {x : Option R} {H : Hints} {G : GF} {g : AV} {args : List AV} {B B2 : List Row} {K : AV → List Row → Option Res} {rs : List Nat} {y : Option Res} {q : Res} {v : AV}
  (hc : ∀ K : AV → List Row → Option Res, callV H G g args B K = ob y (aft rs B K)) (e : y = some q) (ha : ∀ K : AV → List Row → Option Res, aft rs B K q = K v B2) (s : Sim Q x (K v B2)) : Sim Q x (callV H G g args B K) := by
 rw [hc, e]
 show Sim Q x (aft rs B K q)
 rw [ha]
 exact s
section
variable {R : Type} {Q : R → Res → Prop} {x x' : Option R} {y y' : Option Res}
theorem ze (s : Sim Q x y) : Sim Q x (mk y) := s
theorem zo (v : AV) {z : Option AV} {K : AV → Option Res} (s : Sim Q x (K v)) (h : z = some v := by kernel_rfl) : Sim Q x (ob z K) := Sim.ob1 h s
theorem zp (v : AV) {z : Option AV} {K : AV → Option Res} (h : z = some v) (s : Sim Q x (K v)) : Sim Q x (ob z K) := Sim.ob1 h s
def the (z : Option AV) : AV := match z with | some v => v | none => .p .junk
theorem zq {z : Option AV} {K : AV → Option Res} (s : Sim Q x (K (the z))) (h : z = some (the z) := by kernel_rfl) : Sim Q x (ob z K) := Sim.ob1 h s
theorem za (b : Bool) {v : AV} {x1 x2 : Option R} {y1 y2 : Option Res} (s1 : Sim Q x1 y1) (s2 : Sim Q x2 y2) (h : v = .p (.v (.bool b)) := by kernel_rfl) : Sim Q (if b = true then x1 else x2) (asB v fun t => br t y1 y2) :=
 Sim.asB h (Sim.br (fun _ => s1) (fun _ => s2))
theorem zg {b : Bool} (s : Sim Q x y) (h : b = true := by kernel_rfl) : Sim Q x (grd b y) := Sim.grd h s
theorem zx (v : AV) (B2 : List Row) {B : List Row} {a : AV} {K : AV → List Row → Option Res} (s : Sim Q x (K v B2)) (h : (fun K : AV → List Row → Option Res => bx a B K) = fun K => K v B2 := by kernel_rfl) : Sim Q x (bx a B K) := Sim.bx (fun K => congrFun h K) s
theorem zz (v : AV) (B2 : List Row) {P : Program} {t : TypeId} {B : List Row} {K : AV → List Row → Option Res} (s : Sim Q x (K v B2)) (h : (fun K : AV → List Row → Option Res => bz P t B K) = fun K => K v B2 := by kernel_rfl) : Sim Q x (bz P t B K) := Sim.bz (fun K => congrFun h K) s
theorem zw (v : AV) (B2 : List Row) {a : AV} {B : List Row} {K : AV → List Row → Option Res} (s : Sim Q x (K v B2)) (h : (fun K : AV → List Row → Option Res => ldOwn a B K) = fun K => K v B2 := by kernel_rfl) : Sim Q x (ldOwn a B K) := Sim.ldOwn (fun K => congrFun h K) s
theorem zt (B2 : List Row) {n : Nat} {a v : AV} {B : List Row} {K : List Row → Option Res} (s : Sim Q x (K B2)) (h : (fun K : List Row → Option Res => stN n a v B K) = fun K => K B2 := by kernel_rfl) : Sim Q x (stN n a v B K) := Sim.stN (fun K => congrFun h K) s
theorem zm (v : AV) (B2 : List Row) {P : Program} {t : TypeId} {B : List Row} {K : AV → List Row → Option Res} (s : Sim Q x (K v B2)) (h : (fun K : AV → List Row → Option Res => xmake P t B K) = fun K => K v B2 := by kernel_rfl) : Sim Q x (xmake P t B K) := Sim.xmake (fun K => congrFun h K) s
theorem zc (rs : List Nat) (v : AV) (B2 : List Row) {raw : Bool} {G : GF} {g : FuncId} {args : List AV} {B : List Row} {K : AV → List Row → Option Res} {z : Option Res} {q : Res} (e : z = some q) (s : Sim Q x (K v B2))
  (hc : (fun K : AV → List Row → Option Res => callS raw G g args B K) = fun K => ob z (aft rs B K) := by kernel_rfl) (ha : (fun K : AV → List Row → Option Res => aft rs B K q) = fun K => K v B2 := by kernel_rfl) : Sim Q x (callS raw G g args B K) :=
 Sim.callS (fun K => congrFun hc K) e (fun K => congrFun ha K) s
theorem zv (rs : List Nat) (v : AV) (B2 : List Row) {H : Hints} {G : GF} {g : AV} {args : List AV} {B : List Row} {K : AV → List Row → Option Res} {z : Option Res} {q : Res} (e : z = some q) (s : Sim Q x (K v B2))
  (hc : (fun K : AV → List Row → Option Res => callV H G g args B K) = fun K => ob z (aft rs B K) := by kernel_rfl) (ha : (fun K : AV → List Row → Option Res => aft rs B K q) = fun K => K v B2 := by kernel_rfl) : Sim Q x (callV H G g args B K) :=
 Sim.callV (fun K => congrFun hc K) e (fun K => congrFun ha K) s
theorem zi {α : Type} {z : Option α} {k : α → Option R} (s : ∀ a, z = some a → Sim Q (k a) y) : Sim Q (z.bind k) y := Sim.bind s
theorem zk (s : Sim Q x y') (h : y = y' := by kernel_rfl) : Sim Q x y := Sim.cast h s
theorem zf (h : y = y') (s : Sim Q x y') : Sim Q x y := Sim.cast h s
theorem zr (q : Res) {r : R} (h : Q r q) (e : y = some q := by kernel_rfl) : Sim Q (some r) y := Sim.cast e (Sim.ret h)
end
def eI (k : IntKind) (n : Int) : PV := .v (.int k n)
def eB (b : Bool) : PV := .v (.bool b)
def eS (s : ByteArray) : PV := .v (.string s)
def eL {α : Type} (e : α → PV) (l : List α) : PV := .lst .sh (l.map e)
def pI : PV → Int | .v (.int _ n) => n | _ => 0
def pB : PV → Bool | .v (.bool b) => b | _ => false
def pS : PV → ByteArray | .v (.string b) => b | _ => default
def pL : PV → List PV | .lst _ l => l | _ => []
def pC : PV → List PV | .agg l => l | _ => []
def pT : PV → List PV | .tup l => l | _ => []
def pA : AV → PV | .p x => x | _ => .junk
def pM : AV → List (Int × PV) | .md l => l | _ => []
def cellAt (q : Res) (i j : Nat) : AV := (q.2.getD i []).getD j jk
theorem Z5S {α β : Type} {e : α → β} (h : ∀ a b, e a = e b → a = b) : ∀ {l l' : List α}, l.map e = l'.map e → l = l'
 | [], [], _ => rfl
 | [], _ :: _, h' => by simp at h'
 | _ :: _, [], h' => by simp at h'
 | a :: l, b :: l', h' => by
  simp only [Zht, List.cons.injEq] at h'
  rw [h a b h'.1, Z5S h h'.2]
theorem Z1Y {k : IntKind} (a b : Int) (h : eI k a = eI k b) : a = b := congrArg pI h
theorem ZDe (a b : ByteArray) (h : eS a = eS b) : a = b := congrArg pS h
theorem Zfm {α : Type} {e : α → PV} (hi : ∀ a b, e a = e b → a = b) (a b : List α) (h : eL e a = eL e b) : a = b := Z5S hi (congrArg pL h)
def lget {α : Type} (l : List α) (i : Int) : Option α := if 0 ≤ i then l[i.toNat]? else none
def lapp {α : Type} (l r : List α) : Option (List α) := if l.length + r.length ≤ lim then some (l ++ r) else none
def lsl {α : Type} (l : List α) (lo hi : Int) : Option (List α) := if 0 ≤ lo ∧ lo ≤ hi ∧ hi ≤ l.length then some ((l.take hi.toNat).drop lo.toNat) else none
def slO : Own → Own
 | .nl => .nl
 | _ => .sh
def seq (x y : ByteArray) : Bool := x.toList == y.toList
def irem (a b : Int) : Option Int := if b = 0 then none else some (a.tmod b)
def encM {α : Type} (e : α → PV) (q : Int × α) : Int × PV := (q.1, e q.2)
theorem ZB7 {α : Type} {e : α → PV} (hi : ∀ a b, e a = e b → a = b) (a b : Int × α) (h : encM e a = encM e b) : a = b :=
 Zc1 (show a.1 = b.1 from congrArg (fun q : Int × PV => q.1) h) (hi _ _ (congrArg (fun q : Int × PV => q.2) h))
theorem Z1i {α : Type} {e : α → PV} {cs : α → List PV} {n : Nat} (hn : ∀ a, Z1j (e a) = cs a) (hl : ∀ a, (cs a).length = n) (h0 : 0 < n) {l : List α} {i : Int} {a : α} {o : Own} {k : IntKind} (h : lget l i = some a) :
  xidx n (.p (.lst o (l.map e))) (.p (.v (.int k i))) = some (.cptr (cs a)) := by
 unfold lget at h
 split at h
 ·rename_i hi
  have : (Z1j (e a)).length = n := by rw [hn, hl]
  simp only [xidx, asInt, if_pos hi, q7_, h, Z9x]
  rw [if_pos (by simp [this, h0]), hn]
 ·simp at h
theorem Zo5 {α : Type} {e : α → PV} {n : Nat} (hn : ∀ a, (Z1j (e a)).length = n) (l : List α) : szOk n (l.map e) = true := by
 unfold szOk
 simp [Z5a, hn]
theorem ZAs {o : Own} {ys : List PV} (h : Z1e o = true) : Z1e (apo o ys) = true := by cases ys <;> first | exact h | rfl
theorem Z4E {α : Type} {e : α → PV} {n : Nat} (hn : ∀ a, (Z1j (e a)).length = n) (h0 : 0 < n) {xs ys zs : List α} {o o' : Own} (ho : Z1e o = true) (h : lapp xs ys = some zs) :
  xapp n (.p (.lst o (xs.map e))) (.p (.lst o' (ys.map e))) = some (.p (.lst (apo o (ys.map e)) (zs.map e))) := by
 unfold lapp at h
 split at h
 ·rename_i hl
  cases h
  simp only [xapp, Zr9, Z1Z]
  rw [if_pos (by simp [ho, Zo5 hn, h0, hl]), Zmo]
 ·simp at h
theorem Z9n {α : Type} {e : α → PV} {n : Nat} (hn : ∀ a, (Z1j (e a)).length = n) (h0 : 0 < n) {l r : List α} {lo hi : Option AV} {a b : Int} {o : Own} (ha : optI 0 lo = some a) (hb : optI l.length hi = some b) (h : lsl l a b = some r) :
  xsl n (.p (.lst o (l.map e))) lo hi none = some (.p (.lst (slO o) (r.map e))) := by
 unfold lsl at h
 split at h
 ·rename_i hc
  cases h
  have hlen : (l.map e).length = l.length := by simp
  simp only [xsl, hlen, ha, hb, Z1Z]
  rw [if_pos ⟨hc.1, hc.2.1, hc.2.2, Zo5 hn l, h0⟩]
  simp only [List.map_drop, List.map_take]
  cases o <;> rfl
 ·simp at h
theorem ZDc {α : Type} {e : α → PV} {n : Nat} (hn : ∀ a, (Z1j (e a)).length = n) (h0 : 0 < n) {l r : List α} {lo hi : Option AV} {mx : AV} {a b : Int} {k : IntKind} {o : Own} (ha : optI 0 lo = some a) (hb : optI l.length hi = some b) (hm : mx = .p (.v (.int k b))) (h : lsl l a b = some r) :
  xsl n (.p (.lst o (l.map e))) lo hi (some mx) = some (.p (.lst .ex (r.map e))) := by
 subst hm
 unfold lsl at h
 split at h
 ·rename_i hc
  cases h
  have hlen : (l.map e).length = l.length := by simp
  simp only [xsl, hlen, ha, hb, Z1Z]
  rw [if_pos ⟨hc.1, hc.2.1, hc.2.2, Zo5 hn l, h0⟩]
  simp only [asInt, if_true, List.map_drop, List.map_take]
 ·simp at h
theorem Z14 {α : Type} {P : Program} {t : TypeId} {d : TypeId} (h : P.underlying t = some (.slice d)) (e : α → PV) (o : Own) (l : List α) : xlen P t (.p (.lst o (l.map e))) = some (.p (.v (.int .i64 l.length))) := by
 rw [ZFP h, q8_]
theorem ZDb {P : Program} {t : TypeId} {k : IntKind} {a b c : Int} (h : irem a b = some c) : xbin P .rem t (.p (.v (.int k a))) (.p (.v (.int k b))) = some (.p (.v (.int k c))) := by
 unfold irem at h
 split at h
 ·simp at h
 ·cases h; exact ZFQ ‹_›
end Go.Abs
end
section
namespace Go.Abs
open Go
theorem Z8V {α β : Type} (P : Program) (s : Sem α) (k : α → Sem β) : Z1p P (s >>= k) = (Z1p P s).bind fun a => Z1p P (k a) := by
 show Z1p P (Sem.bind s k) = _
 induction s with
 | pure x => simp [Sem.bind, Z1p]
 | program c ih => simp only [Sem.bind, Z1p]; exact ih P
 | _ => simp [Sem.bind, Z1p]
theorem Z6v {α : Type} (P : Program) (a : α) : Z1p P (pure a : Sem α) = some a := rfl
theorem Zkm (P : Program) : Z1p P program = some P := rfl
theorem Zar {P : Program} {t : TypeId} {d : TypeDesc} (h : P.underlying t = some d) : Z1p P (underlying t) = some d := by
 simp [underlying, Z8V, Zkm, h, Z6v]
theorem Zmh {α : Type} (P : Program) (c : Prop) [Decidable c] (a b : Sem α) : Z1p P (if c then a else b) = if c then Z1p P a else Z1p P b := by split <;> rfl
theorem ZAF (P : Program) (d : Nat) (t : TypeId) (xs ys : Array Value) (ht : P.underlying t = some (.struct (P.fieldsOf t))) (hp' : P.stoodInHeld t = false) :
  Z1p P (Op.equalIn (d + 1) t (.agg xs) (.agg ys)) = Z1p P (Op.eqFields d xs ys (P.fieldsOf t).toList) := by
 simp only [Op.equalIn, Z8V, Zar ht, ZY, Zkm, hp', ZnU, if_false, Z6v, Zmh]
 rw [← Array.forIn_toList]
 generalize (P.fieldsOf t).toList = fs
 clear ht
 induction fs with
 | nil => simp [Op.eqFields, Z6v]
 | cons f fs ih =>
  simp only [List.forIn_cons, Op.eqFields, Z8V, Zmh]
  split
  ·cases Z1p P (part f.type xs f.offset) with
   | none => rfl
   | some a =>
    simp only [ZY]
    cases Z1p P (part f.type ys f.offset) with
    | none => rfl
    | some b =>
     simp only [ZY]
     cases Z1p P (Op.equalIn d f.type a b) with
     | none => rfl
     | some r =>
      cases r
      ·simp [Z6v]
      ·simp only [ZY, Bool.not_true, ZnU, if_false, Z6v]
       exact ih
  ·simp only [Z6v, ZY]
   exact ih
theorem ZBO {P : Program} {d : Nat} {t : TypeId} {k k' : IntKind} (a b : Int) (h : P.underlying t = some (.int k')) : Z1p P (Op.equalIn (d + 1) t (.int k a) (.int k b)) = some (a == b) := by
 simp [Op.equalIn, Z8V, Zar h, Z6v]
theorem ZAD {P : Program} {d : Nat} {t : TypeId} (a b : Bool) (h : P.underlying t = some .bool) : Z1p P (Op.equalIn (d + 1) t (.bool a) (.bool b)) = some (a == b) := by
 simp [Op.equalIn, Z8V, Zar h, Z6v]
theorem ZBP {P : Program} {d : Nat} {t : TypeId} (a b : ByteArray) (h : P.underlying t = some .string) : Z1p P (Op.equalIn (d + 1) t (.string a) (.string b)) = some (seq a b) := by
 simp [Op.equalIn, Z8V, Zar h, Z6v, beq_toListBytes, seq]
def eqC : PV → PV → Bool
 | .v (.int _ a), .v (.int _ b) => a == b
 | .v (.bool a), .v (.bool b) => a == b
 | .v (.string a), .v (.string b) => seq a b
 | _, _ => true
def okC (P : Program) (t : TypeId) (x y : PV) : Bool :=
 match P.underlying t, x, y with
 | some (.int _), .v (.int k _), .v (.int k' _) => k == k'
 | some .bool, .v (.bool _), .v (.bool _) => true
 | some .string, .v (.string _), .v (.string _) => true
 | _, _, _ => false
def eqCs : List PV → List PV → Bool
 | x :: xs, y :: ys => eqC x y && eqCs xs ys
 | _, _ => true
def okFs (P : Program) : Nat → List Field → List PV → List PV → Bool
 | i, f :: fs, x :: xs, y :: ys => f.name != "_" && f.offset == i && okC P f.type x y && okFs P (i + 1) fs xs ys
 | _, [], [], [] => true
 | _, _, _, _ => false
theorem ZFl {P : Program} {d : Nat} {t : TypeId} {x y : PV} {a b : Value} (h : okC P t x y = true) (hx : Z9m x = some a) (hy : Z9m y = some b) : Z1p P (Op.equalIn (d + 1) t a b) = some (eqC x y) := by
 unfold okC at h
 split at h <;> simp only [Z9m, q1_] at hx hy
 ·subst hx; subst hy
  have e := beq_iff_eq.1 h
  subst e
  exact ZBO _ _ ‹_›
 ·subst hx; subst hy; exact ZAD _ _ ‹_›
 ·subst hx; subst hy; exact ZBP _ _ ‹_›
 ·simp at h
theorem Zvx {P : Program} {t : TypeId} {xs : Array Value} {i : Nat} {v : Value} (ha : Z1p P (isAgg t) = some false) (h : xs[i]? = some v) : Z1p P (part t xs i) = some v := by
 unfold part
 simp [Z8V, ha, h, Zmh, Z6v]
theorem ZiP : ∀ {l : List PV} {vs : List Value}, Z8W l = some vs → ∀ (i : Nat) (x : PV), l[i]? = some x → ∃ v, Z9m x = some v ∧ vs[i]? = some v
 | [], _, _, i, x, h => by simp at h
 | p :: r, vs, h, i, x, hx => by
  simp only [Z8W] at h
  split at h
  ·rename_i a b ha hb
   cases h
   cases i with
   | zero => simp at hx; subst hx; exact ⟨a, ha, rfl⟩
   | succ i => simpa using ZiP hb i x (by simpa using hx)
  ·simp at h
theorem Zvu {P : Program} {t : TypeId} {x y : PV} (h : okC P t x y = true) : Z1p P (isAgg t) = some false := by
 unfold okC at h
 split at h <;> first | (simp [isAgg, Z8V, Zar ‹_›, Z6v]) | (simp at h)
theorem ZAE {P : Program} {d : Nat} {xs ys : List PV} {us vs : List Value} (hx : Z8W xs = some us) (hy : Z8W ys = some vs) : ∀ (fs : List Field) (i : Nat), okFs P i fs (xs.drop i) (ys.drop i) = true →
  Z1p P (Op.eqFields (d + 1) us.toArray vs.toArray fs) = some (eqCs (xs.drop i) (ys.drop i)) := by
 intro fs
 induction fs with
 | nil =>
  intro i h
  cases hxi : xs.drop i <;> cases hyi : ys.drop i <;> rw [hxi, hyi] at h <;> simp_all [okFs, Op.eqFields, eqCs, Z6v]
 | cons f fs ih =>
  intro i h
  cases hxi : xs.drop i with
  | nil => rw [hxi] at h; simp [okFs] at h
  | cons x xr =>
   cases hyi : ys.drop i with
   | nil => rw [hxi, hyi] at h; simp [okFs] at h
   | cons y yr =>
    rw [hxi, hyi] at h
    simp only [okFs, q9_, bne_iff_ne, beq_iff_eq, ne_eq] at h
    obtain ⟨⟨⟨h1, h2⟩, h3⟩, h4⟩ := h
    have gx : xs[i]? = some x := by rw [← List.head?_drop, hxi]; rfl
    have gy : ys[i]? = some y := by rw [← List.head?_drop, hyi]; rfl
    have dx : xs.drop (i + 1) = xr := by rw [← List.tail_drop, hxi]; rfl
    have dy : ys.drop (i + 1) = yr := by rw [← List.tail_drop, hyi]; rfl
    obtain ⟨a, ha, hau⟩ := ZiP hx i x gx
    obtain ⟨b, hb, hbv⟩ := ZiP hy i y gy
    have ih' := ih (i + 1) (by rw [dx, dy]; exact h4)
    rw [dx, dy] at ih'
    simp only [Op.eqFields, Zmh, Z8V]
    rw [if_pos h1, h2, Zvx (Zvu h3) (by simpa using hau), Zvx (Zvu h3) (by simpa using hbv)]
    simp only [ZY, ZFl h3 ha hb, ih', eqCs]
    cases eqC x y <;> simp [Z6v]
theorem ZBQ {P : Program} {op : BinOp} {t : TypeId} {x y : Operand} {xs ys : Array Value} (h : P.eqGuardType P.depth t = false) : Z1p P (eqGuard op t x y (.agg xs) (.agg ys)) = some () := by
 cases op <;> simp [eqGuard, Z8V, Zkm, h, Z6v, Zmh]
theorem ZkE {P : Program} : ∀ {fs : List Field} {i : Nat} {xs ys : List PV}, okFs P i fs xs ys = true → (∃ us, Z8W xs = some us) ∧ ∃ vs, Z8W ys = some vs
 | [], i, [], [], _ => ⟨⟨[], rfl⟩, [], rfl⟩
 | [], i, [], _ :: _, h => by simp [okFs] at h
 | [], i, _ :: _, _, h => by simp [okFs] at h
 | f :: fs, i, [], _, h => by simp [okFs] at h
 | f :: fs, i, _ :: _, [], h => by simp [okFs] at h
 | f :: fs, i, x :: xs, y :: ys, h => by
  simp only [okFs, q9_] at h
  obtain ⟨⟨us, hu⟩, vs, hv⟩ := ZkE h.2
  have hc := h.1.2
  unfold okC at hc
  split at hc <;> first | (simp at hc; done) | (simp only [Z8W, Z9m, hu, hv]; exact ⟨⟨_, rfl⟩, _, rfl⟩)
theorem ZvD {P : Program} {t : TypeId} {xs ys : List PV} {b : Bool} (ht : P.underlying t = some (.struct (P.fieldsOf t))) (hp : P.stoodInHeld t = false) (hg : P.eqGuardType P.depth t = false)
  (hf : okFs P 0 (P.fieldsOf t).toList xs ys = true) (hb : eqCs xs ys = b) : xbin P .neq t (.p (.agg xs)) (.p (.agg ys)) = some (.p (.v (.bool (!b)))) := by
 subst hb
 obtain ⟨⟨us, hu⟩, vs, hv⟩ := ZkE hf
 have e : Z1p P (Op.equal t (.agg us.toArray) (.agg vs.toArray)) = some (eqCs xs ys) := by
  unfold Op.equal Op.maxDepth
  rw [show (10000 : Nat) = 9998 + 1 + 1 from rfl, ZAF P _ t _ _ ht hp]
  exact ZAE hu hv _ 0 hf
 unfold xbin
 simp only [Zff, hu, hv, Z9x, Zco, Bool.and_self, if_true]
 have : Z1p P (do eqGuard .neq t (.tmp 0) (.tmp 0) (.agg us.toArray) (.agg vs.toArray); binOp .neq t (.agg us.toArray) (.agg vs.toArray)) = some (.bool (!(eqCs xs ys))) := by
  rw [Z8V, ZBQ hg]
  simp only [ZY, binOp, Z8V, e, Z6v]
 rw [this]
 rfl
end Go.Abs
end
section
namespace Go.Abs
open Go Go.RowKit Go.ChangeShapes Go.WideShapes Go.ChangeAt Go.Deep
def Z1r (w : World) (ps : List PV) (cs : List Value) : Prop :=
 ps.length = cs.length ∧ ∀ (i : Nat) (p : PV) (v : Value), ps[i]? = some p → cs[i]? = some v → Z59 p = true ∧ PRel w (Old w) p v
section
variable {H : Type} {enc : TypeId × Value → H} {P : Program} {w : World}
def Z66 {α : Type} (enc : TypeId × Value → H) (P : Program) (w : World) (t : TypeId) (c : α → List PV) (wf : α → Prop) : Prop :=
 ∀ fuel cs x, DataW.trod enc P w 0 (fun _ => true) true fuel t cs = some x → ∃ a, wf a ∧ Z1r w (c a) cs
theorem Z1r.one {p : PV} {v : Value} (h1 : Z59 p = true) (h2 : PRel w (Old w) p v) : Z1r w [p] [v] := by
 refine ⟨rfl, fun i q u hq hu => ?_⟩
 cases i with
 | zero => simp at hq hu; subst hq; subst hu; exact ⟨h1, h2⟩
 | succ i => simp at hq
theorem Z1r.nil : Z1r w [] [] := ⟨rfl, fun i q u hq => by simp at hq⟩
theorem Z1r.app {p q : List PV} {cs : List Value} {n : Nat} (h1 : Z1r w p (cs.take n)) (h2 : Z1r w q (cs.drop n)) : Z1r w (p ++ q) cs := by
 have e := List.take_append_drop n cs
 refine ⟨by rw [ZaC, h1.1, h2.1, ← ZaC, e], fun i a v ha hv => ?_⟩
 by_cases hi : i < p.length
 ·rw [Zxb hi] at ha
  refine h1.2 i a v ha ?_
  rw [← e, Zxb (by rw [← h1.1]; exact hi)] at hv
  exact hv
 ·rw [Zxa (by omega)] at ha
  refine h2.2 (i - p.length) a v ha ?_
  rw [← e, Zxa (by rw [← h1.1]; omega), ← h1.1] at hv
  exact hv
theorem ZfT {t : TypeId} {k : IntKind} (ht : P.underlying t = some (.int k)) : Z66 enc P w t (fun n : Int => [eI k n]) (fun n => (Lit.int k n).wf = true) := by
 intro fuel cs x h
 obtain ⟨n, rfl, _, hw⟩ := DataW.trod_int ht h
 exact ⟨n, hw, Z1r.one rfl (.v _ rfl)⟩
theorem Zx8 {t : TypeId} (ht : P.underlying t = some .bool) : Z66 enc P w t (fun b : Bool => [eB b]) (fun _ => True) := by
 intro fuel cs x h
 obtain ⟨n, rfl, _⟩ := DataW.trod_bool ht h
 exact ⟨n, trivial, Z1r.one rfl (.v _ rfl)⟩
theorem ZAB {t : TypeId} (ht : P.underlying t = some .string) : Z66 enc P w t (fun s : ByteArray => [eS s]) (fun s => s.size ≤ maxLen) := by
 intro fuel cs x h
 obtain ⟨s, rfl, _, hs⟩ := DataW.trod_string ht h
 exact ⟨s, hs, Z1r.one rfl (.v _ rfl)⟩
theorem Z84 {α : Type} {t : TypeId} {c : α → List PV} {p q : α → Prop} (h : Z66 enc P w t c p) (hq : ∀ a, p a → q a) : Z66 enc P w t c q := fun fuel cs x hx => by
 obtain ⟨a, h1, h2⟩ := h fuel cs x hx
 exact ⟨a, hq a h1, h2⟩
theorem cell_spot {a : Addr} {v : Value} (h : w.cell? (a.add 0) = some v) : a.spot = none ∧ a.block < w.heap.size := by
 have e : a.add 0 = a := by simp [Addr.add]
 rw [e] at h
 unfold World.cell? at h
 cases hh : w.heap[a.block]? with
 | none => rw [hh] at h; simp at h
 | some x =>
  refine ⟨?_, (Zbb.1 hh).1⟩
  rw [hh] at h
  cases ha : a.spot with
  | none => rfl
  | some s => rw [ha] at h; cases x <;> simp at h
theorem Zax {α : Type} {t e : TypeId} {c : α → List PV} {ee : α → PV} {wf : α → Prop} [Inhabited α] (ht : P.underlying t = some (.slice e)) (hn : 0 < P.cellsOf e) (he : ∀ a, Z1j (ee a) = c a) (ho : Z66 enc P w e c wf) :
  Z66 enc P w t (fun l : List α => [eL ee l]) (fun l => l.length ≤ maxLen ∧ ∀ a ∈ l, wf a) := by
 intro fuel cs x h
 rcases open_slice ht h with ⟨rfl, _⟩ | ⟨a, len, cap, m, n, D, Pl, rfl, _, hl, hm, hmm, _, hx⟩
 ·exact ⟨[], ⟨by simp, by simp⟩, Z1r.one rfl (.lst .sh [] none 0 0 0 0 (fun _ _ => undef) (Z2w _) (by simp) (by simp) (by simp) (fun _ => rfl) (by simp) (by simp) (by simp))⟩
 ·have hmc : m = cap := by simpa using hmm
  subst hmc
  have each : ∀ i, i < len → ∃ q : α × List Value, wf q.1 ∧ Z1r w (c q.1) q.2 ∧ q.2.length = P.cellsOf e ∧ ∀ j, j < P.cellsOf e → w.cell? (a.add (i * P.cellsOf e + j)) = q.2[j]? := by
   intro i hi
   obtain ⟨cs', h1, h2⟩ := hx i (by omega)
   obtain ⟨_, hlen, hcell⟩ := World.cells?_some h1
   obtain ⟨y, hy, hr⟩ := ho _ _ _ h2
   exact ⟨(y, cs'), hy, hr, hlen, fun j hj => by rw [← hcell j hj, add_add]⟩
  haveI : Inhabited (α × List Value) := ⟨(default, [])⟩
  obtain ⟨q, hq⟩ := choose_lt each
  have hlen : ((List.range len).map fun i => (q i).1).length = len := by simp
  refine ⟨(List.range len).map fun i => (q i).1, ⟨by rw [hlen]; omega, ?_⟩, Z1r.one rfl ?_⟩
  ·intro y hy
   obtain ⟨i, hi, rfl⟩ := Z5l.1 hy
   exact (hq i (Zks.1 hi)).1
  ·have hcl : ∀ i, i < len → (c (q i).1).length = P.cellsOf e := fun i hi => by rw [(hq i hi).2.1.1]; exact (hq i hi).2.2.1
   have hcs : ∀ i j, i < len → j < P.cellsOf e → ∃ v, (q i).2[j]? = some v ∧ w.cell? (a.add (i * P.cellsOf e + j)) = some v := by
    intro i j hi hj
    obtain ⟨_, _, h3, h4⟩ := hq i hi
    have : j < (q i).2.length := by omega
    exact ⟨(q i).2[j], q2_ this, by rw [h4 j hj, q2_ this]⟩
   have hge : ∀ (i : Nat) (x : PV), (((List.range len).map fun i => (q i).1).map ee)[i]? = some x → i < len ∧ Z1j x = c (q i).1 := by
    intro i x hx
    rw [List.map_map, q7_] at hx
    obtain ⟨k, hk, rfl⟩ := q4_.1 hx
    obtain ⟨h1, rfl⟩ := q3_.1 hk
    simp at h1
    refine ⟨h1, ?_⟩
    simp [he]
   have hsp : 0 < len → a.spot = none ∧ a.block < w.heap.size := by
    intro h0
    obtain ⟨v, _, h2⟩ := hcs 0 0 h0 hn
    exact cell_spot (by simpa using h2)
   have hadd : 0 < len → ∀ n, a.add n = ⟨a.block, a.off + n, none⟩ := by
    intro h0 n
    have hs := (hsp h0).1
    have : a = ⟨a.block, a.off, none⟩ := by cases a; simp at hs; simp [hs]
    rw [this, Z9o]
   have key := PRel.lst (w := w) (S := Old w) .sh (((List.range len).map fun i => (q i).1).map ee) (some a) m a.block a.off (P.cellsOf e) (fun i j => ((q i).2[j]?).getD undef) (by simp; omega) (by simp) (by simp) (by simp) (by simp)
    (fun hne => by
     have h0 : 0 < len := by
      rcases ZnY len with e | e
      ·subst e; simp at hne
      ·exact e
     refine ⟨?_, hn, ?_⟩
     ·have := (hsp h0).1
      cases a
      simp at this
      simp [this]
     ·intro x hx
      obtain ⟨i, hi⟩ := Zxg hx
      obtain ⟨h1, h2⟩ := hge i x hi
      rw [h2, hcl i h1])
    (fun i x j p hx hp => by
     obtain ⟨h1, h2⟩ := hge i x hx
     rw [h2] at hp
     have hj : j < P.cellsOf e := by rw [← hcl i h1]; exact (q3_.1 hp).1
     obtain ⟨v, e1, e2⟩ := hcs i j h1 hj
     refine ⟨?_, (hsp (by omega)).2, ((hq i h1).2.1.2 j p v hp e1).1⟩
     rw [e1, Zuh, ← e2, hadd (by omega)])
    (fun i x j p hx hp => by
     obtain ⟨h1, h2⟩ := hge i x hx
     rw [h2] at hp
     have hj : j < P.cellsOf e := by rw [← hcl i h1]; exact (q3_.1 hp).1
     obtain ⟨v, e1, e2⟩ := hcs i j h1 hj
     rw [e1, Zuh]
     exact ((hq i h1).2.1.2 j p v hp e1).2)
   rw [q8_, q8_, List.length_range] at key
   exact key
theorem Ze8 {fs : Array Field} {t : TypeId} (ht : P.underlying t = some (.struct fs)) {fuel : Nat} {cs : List Value} {x : DataW H × List MemPlace} (h : DataW.trod enc P w 0 (fun _ => true) true fuel t cs = some x) :
  cs.length = P.cellsOf t ∧ ∀ (i : Nat) (f : Field), fs[i]? = some f → ∃ n y, DataW.trod enc P w 0 (fun _ => true) true n f.type ((cs.drop f.offset).take (P.cellsOf f.type)) = some y := by
 obtain ⟨xs, n, _, _, hl, hlen, hf⟩ := DataW.trod_struct ht h
 refine ⟨hl, fun i f hi => ?_⟩
 have hi' : i < xs.length := by rw [hlen]; exact (Zbb.1 hi).1
 exact ⟨n, xs[i], by rw [hf i f hi, q2_ hi']⟩
theorem Z1r.next {p q : List PV} {cs : List Value} {o n : Nat} (h1 : Z1r w p ((cs.drop o).take n)) (h2 : Z1r w q (cs.drop (o + n))) : Z1r w (p ++ q) (cs.drop o) :=
 Z1r.app h1 (by rw [List.drop_drop]; exact h2)
theorem Z1r.agg {ps : List PV} {arr : Array Value} (h : Z1r w ps arr.toList) : PRel w (Old w) (.agg ps) (.agg arr) := by
 refine .agg ps arr (by rw [h.1]; simp) ?_ ?_
 ·intro c hc
  obtain ⟨i, hi⟩ := Zxg hc
  have : i < arr.toList.length := by rw [← h.1]; exact (q3_.1 hi).1
  exact (h.2 i c arr.toList[i] hi (q2_ this)).1
 ·intro i c v hc hv
  exact (h.2 i c v hc (by simpa using hv)).2
theorem ZgW {α : Type} {t : TypeId} {c : α → List PV} {wf : α → Prop} {fs : Array Field} {base : Nat} {v : Value} {d : DataW H} {ps : List MemPlace} (ht : P.underlying t = some (.struct fs)) (hv : Value.okWide P w .any base t v) (h : DataW.Trod enc P w 0 (fun _ => true) true t v d ps) (ho : Z66 enc P w t c wf) :
  ∃ a, wf a ∧ PRel w (Old w) (.agg (c a)) v := by
 obtain ⟨arr, rfl, _⟩ := okWide_struct ht hv
 obtain ⟨n, hn⟩ := h
 obtain ⟨a, ha, hr⟩ := ho _ _ _ hn
 exact ⟨a, ha, hr.agg⟩
theorem row_one {α : Type} {t : TypeId} {e : α → PV} {wf : α → Prop} {base : Nat} {v : Value} {d : DataW H} {ps : List MemPlace} (hc : Value.cells v = #[v]) (h : DataW.Trod enc P w 0 (fun _ => true) true t v d ps) (ho : Z66 enc P w t (fun a => [e a]) wf) :
  ∃ a, wf a ∧ PRel w (Old w) (e a) v := by
 obtain ⟨n, hn⟩ := h
 obtain ⟨a, ha, hr⟩ := ho _ _ _ hn
 rw [hc] at hr
 exact ⟨a, ha, (hr.2 0 (e a) v rfl rfl).2⟩
end
end Go.Abs
end
section
namespace Go.Abs
open Go
theorem Zmz {P : Program} {k : IntKind} (a b : Int) : Zay P false [.p (.v (.int k a)), .p (.v (.int k b))] = some (.p (.v (.int k (min a b)))) := by
 have : Z1p P (Builtin.min_ #[] 0 [Value.int k a, Value.int k b].toArray) = some (.int k (min a b)) := by
  have e : (if b < a then b else a) = min a b := by omega
  rw [← e]
  rfl
 show ob (Z1p P (Builtin.min_ #[] 0 [Value.int k a, Value.int k b].toArray)) Z7m = _
 rw [this]
 rfl
end Go.Abs
end
section
namespace Go.Abs
open Go Go.RowKit

end Go.Abs
end
