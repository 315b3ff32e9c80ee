/- A typed reading of what the evaluator comes to. No condition. -/
import Derived.Test.YtocikhhkicahoaaDoorEvD
import Derived.KernelRfl
import Derived.Laws.StructEq
import Derived.Deep.Slices
import Derived.ChangeArms
import Derived.ChangeMaps5
import Derived.ChangeAt
import Derived.WideShapes
import Derived.SizedLaws

set_option linter.unusedSimpArgs false
set_option linter.unusedVariables false
set_option linter.defProp false
section
namespace Go.Abs
open Go
def RRun {R:Type} (Q:R → Res → Prop) (y:Option Res) (r:R):Prop:=∃ q,y = some q ∧ Q r q
def Sim {R:Type} (Q:R → Res → Prop) (x:Option R) (y:Option Res):Prop:=∀ r,x = some r → RRun Q y r
noncomputable def pick {R:Type} (p:R → Prop):Option R:=open Classical in if h:∃ r,p r then some h.choose else none
theorem Z1m {R:Type} {p:R → Prop} {r:R} (h:pick p = some r):p r:=by
 unfold pick at h
 split at h
 ·rename_i hh
  have:=hh.choose_spec
  rw [Option.some.inj h] at this
  exact this
 ·simp at h
theorem Z1l {R:Type} {p:R → Prop} (hu:∀ a b,p a → p b → a = b) {r:R} (h:p r):pick p = some r:=by
 unfold pick
 have hh:∃ r,p r:=⟨r,h⟩
 rw [dif_pos hh]
 exact congrArg some (hu _ _ hh.choose_spec h)
theorem RRun.uniq {R:Type} {Q:R → Res → Prop} (hu:∀ r r' q,Q r q → Q r' q → r = r') {y:Option Res} {a b:R} (ha:RRun Q y a) (hb:RRun Q y b):a = b:=by
 obtain ⟨q,e,h⟩:=ha
 obtain ⟨q',e',h'⟩:=hb
 rw [e] at e'
 cases e'
 exact hu _ _ _ h h'
section
variable {R:Type} {Q:R → Res → Prop} {x x':Option R} {y y':Option Res}
theorem Sim.none:Sim Q Option.none y:=fun _ h => by cases h
theorem Sim.ret {r:R} {q:Res} (h:Q r q):Sim Q (some r) (some q):=fun _ e => by cases e; exact ⟨q,rfl,h⟩
theorem Sim.cast (h:y = y') (s:Sim Q x y'):Sim Q x y:=h ▸ s
theorem Sim.mk (s:Sim Q x y):Sim Q x (mk y):=s
theorem Sim.lp (s:Sim Q x y):Sim Q x (lp y):=s
theorem Sim.ob1 {α:Type} {v:α} {z:Option α} {K:α → Option Res} (h:z = some v) (s:Sim Q x (K v)):Sim Q x (ob z K):=by rw [h]; exact s
theorem Sim.asB {b:Bool} {v:AV} {K:Bool → Option Res} (h:v = .p (.v (.bool b))) (s:Sim Q x (K b)):Sim Q x (asB v K):=by rw [h]; exact s
theorem Sim.br {b:Bool} {y1 y2:Option Res} {x1 x2:Option R} (s1:b = true → Sim Q x1 y1) (s2:b = false → Sim Q x2 y2):Sim Q (if b = true then x1 else x2) (br b y1 y2):=by
 cases b with
 | true => exact s1 rfl
 | false => exact s2 rfl
theorem Sim.grd {b:Bool} (h:b = true) (s:Sim Q x y):Sim Q x (grd b y):=by rw [h]; exact s
theorem Sim.bind {α:Type} {z:Option α} {k:α → Option R} (s:∀ a,z = some a → Sim Q (k a) y):Sim Q (z.bind k) y:=by
 intro r h
 cases hz:z with
 | none => rw [hz] at h; simp at h
 | some a => rw [hz] at h; exact s a hz r h
theorem Sim.kv {v:AV} {B2:List Row} {z:Option Res} {K:AV → List Row → Option Res} (h:z = K v B2) (s:Sim Q x (K v B2)):Sim Q x z:=by rw [h]; exact s
theorem Sim.bx {v:AV} {B B2:List Row} {a:AV} {K:AV → List Row → Option Res} (h:∀ K:AV → List Row → Option Res,bx a B K = K v B2) (s:Sim Q x (K v B2)):Sim Q x (bx a B K):=by rw [h]; exact s
theorem Sim.bz {P:Program} {t:TypeId} {v:AV} {B B2:List Row} {K:AV → List Row → Option Res} (h:∀ K:AV → List Row → Option Res,bz P t B K = K v B2) (s:Sim Q x (K v B2)):Sim Q x (bz P t B K):=by rw [h]; exact s
theorem Sim.ldOwn {a v:AV} {B B2:List Row} {K:AV → List Row → Option Res} (h:∀ K:AV → List Row → Option Res,ldOwn a B K = K v B2) (s:Sim Q x (K v B2)):Sim Q x (ldOwn a B K):=by rw [h]; exact s
theorem Sim.stN {n:Nat} {a v:AV} {B B2:List Row} {K:List Row → Option Res} (h:∀ K:List Row → Option Res,stN n a v B K = K B2) (s:Sim Q x (K B2)):Sim Q x (stN n a v B K):=by rw [h]; exact s
theorem Sim.xmake {P:Program} {t:TypeId} {v:AV} {B B2:List Row} {K:AV → List Row → Option Res} (h:∀ K:AV → List Row → Option Res,xmake P t B K = K v B2) (s:Sim Q x (K v B2)):Sim Q x (xmake P t B K):=by rw [h]; exact s
theorem Sim.xupd {P:Program} {t:TypeId} {m k a:AV} {B B2:List Row} {K:List Row → Option Res} (h:∀ K:List Row → Option Res,xupd P t m k a B K = K B2) (s:Sim Q x (K B2)):Sim Q x (xupd P t m k a B K):=by rw [h]; exact s
theorem Sim.xdel {P:Program} {t:TypeId} {m k:AV} {B B2:List Row} {K:List Row → Option Res} (h:∀ K:List Row → Option Res,xdel P t m k B K = K B2) (s:Sim Q x (K B2)):Sim Q x (xdel P t m k B K):=by rw [h]; exact s
end
def aft (rs:List Nat) (B:List Row) (k:AV → List Row → Option Res) (r:Res):Option Res :=
 let m:=rs.length
  let B':=r.2.take m
  if below m (ptrs r.1) && B'.all (fun row => below m (Z1p row)) then
   let back:=fun id => rs.getD id 0
   k (Z2o back r.1) (Z2E B rs (B'.map (Z1W back)))
  else
   let n:=B.length
   let back:=fun id => if id < m then rs.getD id 0 else n + (id - m)
   k (Z2o back r.1) (Z2E B rs (B'.map (Z1W back)) ++ (r.2.drop m).map (Z1W back))
theorem Sim.callS {R:Type} {Q:R → Res → Prop} {x:Option R} {raw:Bool} {G:GF} {g:FuncId} {args:List AV} {B B2:List Row} {K:AV → List Row → Option Res} {rs:List Nat} {y:Option Res} {q:Res} {v:AV}
  (hc:∀ K:AV → List Row → Option Res,callS raw G g args B K = ob y (aft rs B K)) (e:y = some q) (ha:∀ K:AV → List Row → Option Res,aft rs B K q = K v B2) (s:Sim Q x (K v B2)):Sim Q x (callS raw G g args B K):=by
 rw [hc,e]
 show Sim Q x (aft rs B K q)
 rw [ha]
 exact s
theorem Sim.callV {R:Type} {Q:R → Res → Prop} {x:Option R} {H:Hints} {G:GF} {g:AV} {args:List AV} {B B2:List Row} {K:AV → List Row → Option Res} {rs:List Nat} {y:Option Res} {q:Res} {v:AV}
  (hc:∀ K:AV → List Row → Option Res,callV H G g args B K = ob y (aft rs B K)) (e:y = some q) (ha:∀ K:AV → List Row → Option Res,aft rs B K q = K v B2) (s:Sim Q x (K v B2)):Sim Q x (callV H G g args B K):=by
 rw [hc,e]
 show Sim Q x (aft rs B K q)
 rw [ha]
 exact s
section
variable {R:Type} {Q:R → Res → Prop} {x x':Option R} {y y':Option Res}
theorem ze (s:Sim Q x y):Sim Q x (mk y):=s
theorem zo (v:AV) {z:Option AV} {K:AV → Option Res} (s:Sim Q x (K v)) (h:z = some v:=by kernel_rfl):Sim Q x (ob z K):=Sim.ob1 h s
theorem zp (v:AV) {z:Option AV} {K:AV → Option Res} (h:z = some v) (s:Sim Q x (K v)):Sim Q x (ob z K):=Sim.ob1 h s
def the (z:Option AV):AV:=match z with | some v => v | none => .p .junk
theorem zq {z:Option AV} {K:AV → Option Res} (s:Sim Q x (K (the z))) (h:z = some (the z):=by kernel_rfl):Sim Q x (ob z K):=Sim.ob1 h s
theorem za (b:Bool) {v:AV} {x1 x2:Option R} {y1 y2:Option Res} (s1:Sim Q x1 y1) (s2:Sim Q x2 y2) (h:v = .p (.v (.bool b)):=by kernel_rfl):Sim Q (if b = true then x1 else x2) (asB v fun t => br t y1 y2) :=
 Sim.asB h (Sim.br (fun _ => s1) (fun _ => s2))
theorem zg {b:Bool} (s:Sim Q x y) (h:b = true:=by kernel_rfl):Sim Q x (grd b y):=Sim.grd h s
theorem zx (v:AV) (B2:List Row) {B:List Row} {a:AV} {K:AV → List Row → Option Res} (s:Sim Q x (K v B2)) (h:(fun K:AV → List Row → Option Res => bx a B K) = fun K => K v B2:=by kernel_rfl):Sim Q x (bx a B K):=Sim.bx (fun K => congrFun h K) s
theorem zz (v:AV) (B2:List Row) {P:Program} {t:TypeId} {B:List Row} {K:AV → List Row → Option Res} (s:Sim Q x (K v B2)) (h:(fun K:AV → List Row → Option Res => bz P t B K) = fun K => K v B2:=by kernel_rfl):Sim Q x (bz P t B K):=Sim.bz (fun K => congrFun h K) s
theorem zw (v:AV) (B2:List Row) {a:AV} {B:List Row} {K:AV → List Row → Option Res} (s:Sim Q x (K v B2)) (h:(fun K:AV → List Row → Option Res => ldOwn a B K) = fun K => K v B2:=by kernel_rfl):Sim Q x (ldOwn a B K):=Sim.ldOwn (fun K => congrFun h K) s
theorem zt (B2:List Row) {n:Nat} {a v:AV} {B:List Row} {K:List Row → Option Res} (s:Sim Q x (K B2)) (h:(fun K:List Row → Option Res => stN n a v B K) = fun K => K B2:=by kernel_rfl):Sim Q x (stN n a v B K):=Sim.stN (fun K => congrFun h K) s
theorem zc (rs:List Nat) (v:AV) (B2:List Row) {raw:Bool} {G:GF} {g:FuncId} {args:List AV} {B:List Row} {K:AV → List Row → Option Res} {z:Option Res} {q:Res} (e:z = some q) (s:Sim Q x (K v B2))
  (hc:(fun K:AV → List Row → Option Res => callS raw G g args B K) = fun K => ob z (aft rs B K):=by kernel_rfl) (ha:(fun K:AV → List Row → Option Res => aft rs B K q) = fun K => K v B2:=by kernel_rfl):Sim Q x (callS raw G g args B K) :=
 Sim.callS (fun K => congrFun hc K) e (fun K => congrFun ha K) s
theorem zv (rs:List Nat) (v:AV) (B2:List Row) {H:Hints} {G:GF} {g:AV} {args:List AV} {B:List Row} {K:AV → List Row → Option Res} {z:Option Res} {q:Res} (e:z = some q) (s:Sim Q x (K v B2))
  (hc:(fun K:AV → List Row → Option Res => callV H G g args B K) = fun K => ob z (aft rs B K):=by kernel_rfl) (ha:(fun K:AV → List Row → Option Res => aft rs B K q) = fun K => K v B2:=by kernel_rfl):Sim Q x (callV H G g args B K) :=
 Sim.callV (fun K => congrFun hc K) e (fun K => congrFun ha K) s
theorem zi {α:Type} {z:Option α} {k:α → Option R} (s:∀ a,z = some a → Sim Q (k a) y):Sim Q (z.bind k) y:=Sim.bind s
theorem zk (s:Sim Q x y') (h:y = y':=by kernel_rfl):Sim Q x y:=Sim.cast h s
theorem zf (h:y = y') (s:Sim Q x y'):Sim Q x y:=Sim.cast h s
theorem zr (q:Res) {r:R} (h:Q r q) (e:y = some q:=by kernel_rfl):Sim Q (some r) y:=Sim.cast e (Sim.ret h)
end
def eI (k:IntKind) (n:Int):PV:=.v (.int k n)
def eB (b:Bool):PV:=.v (.bool b)
def eS (s:ByteArray):PV:=.v (.string s)
def eL {α:Type} (e:α → PV) (l:List α):PV:=.lst .sh (l.map e)
def pI:PV → Int | .v (.int _ n) => n | _ => 0
def pB:PV → Bool | .v (.bool b) => b | _ => false
def pS:PV → ByteArray | .v (.string b) => b | _ => default
def pL:PV → List PV | .lst _ l => l | .ml _ l => l | _ => []
def pC:PV → List PV | .agg l => l | _ => []
def pT:PV → List PV | .tup l => l | _ => []
def pA:AV → PV | .p x => x | _ => .junk
def cellAt (q:Res) (i j:Nat):AV:=(q.2.getD i []).getD j jk
theorem Z5u {α β:Type} {e:α → β} (h:∀ a b,e a = e b → a = b):∀ {l l':List α},l.map e = l'.map e → l = l'
 | [],[],_ => rfl
 | [],_ :: _,h' => by simp at h'
 | _ :: _,[],h' => by simp at h'
 | a :: l,b :: l',h' => by
  simp only [Z99,Zj8] at h'
  rw [h a b h'.1,Z5u h h'.2]
theorem Z8o {k:IntKind} (a b:Int) (h:eI k a = eI k b):a = b:=congrArg pI h
theorem ZFw (a b:Bool) (h:eB a = eB b):a = b:=congrArg pB h
theorem ZFx (a b:ByteArray) (h:eS a = eS b):a = b:=congrArg pS h
theorem ZzJ {α:Type} {e:α → PV} (hi:∀ a b,e a = e b → a = b) (a b:List α) (h:eL e a = eL e b):a = b:=Z5u hi (congrArg pL h)
def lget {α:Type} (l:List α) (i:Int):Option α:=if 0 ≤ i then l[i.toNat]? else none
def lapp {α:Type} (l r:List α):Option (List α):=if l.length + r.length ≤ lim then some (l ++ r) else none
def lsl {α:Type} (l:List α) (lo hi:Int):Option (List α):=if 0 ≤ lo ∧ lo ≤ hi ∧ hi ≤ l.length then some ((l.take hi.toNat).drop lo.toNat) else none
def slO:Own → Own
 | .nl => .nl
 | _ => .sh
def ssl (s:ByteArray) (lo hi:Int):Option ByteArray:=if 0 ≤ lo ∧ lo ≤ hi ∧ hi ≤ s.size then some (s.extract lo.toNat hi.toNat) else none
def sadd (x y:ByteArray):Option ByteArray:=if ((x.size + y.size:Nat):Int) > IntKind.i64.max then none else some (x ++ y)
def seq (x y:ByteArray):Bool:=x.toList == y.toList
def Z4i (s:ByteArray):List Int:=s.data.toList.map fun b => (b.toNat:Int)
def strI (l:List Int):ByteArray:=⟨(l.map fun n => UInt8.ofNat n.toNat).toArray⟩
theorem Z2Q {α:Type} {e:α → PV} {cs:α → List PV} {n:Nat} (hn:∀ a,Z1r (e a) = cs a) (hl:∀ a,(cs a).length = n) (h0:0 < n) {l:List α} {i:Int} {a:α} {o:Own} {k:IntKind} (h:lget l i = some a) :
  xidx n (.p (.lst o (l.map e))) (.p (.v (.int k i))) = some (.cptr (cs a)):=by
 unfold lget at h
 split at h
 ·rename_i hi
  have:(Z1r (e a)).length = n:=by rw [hn,hl]
  simp only [xidx,asInt,if_pos hi,q7_,h,Z8O]
  rw [if_pos (by simp [this,h0]),hn]
 ·simp at h
theorem Zpr {α:Type} {e:α → PV} {n:Nat} (hn:∀ a,(Z1r (e a)).length = n) (l:List α):szOk n (l.map e) = true:=by
 unfold szOk
 simp [Z8v,hn]
theorem ZeP {α:Type} {e:α → PV} {n:Nat} (hn:∀ a,(Z1r (e a)).length = n) (h0:0 < n) {xs ys zs:List α} {o o':Own} (ho:ZM o = true) (h:lapp xs ys = some zs) :
  xapp n (.p (.lst o (xs.map e))) (.p (.lst o' (ys.map e))) = some (.p (.lst (apo o (ys.map e)) (zs.map e))):=by
 unfold lapp at h
 split at h
 ·rename_i hl
  cases h
  simp only [xapp,Zlo,Z22]
  rw [if_pos (by simp [ho,Zpr hn,h0,hl]),ZhA]
 ·simp at h
theorem ZxI (s:ByteArray):Z8V s = (Z4i s).map (eI .u8):=by
 unfold Z8V Z4i
 rw [Zph]
 rfl
theorem Zrr {α:Type} {e:α → PV} {n:Nat} (hn:∀ a,(Z1r (e a)).length = n) (h0:0 < n) {l r:List α} {lo hi:Option AV} {a b:Int} {o:Own} (ha:optI 0 lo = some a) (hb:optI l.length hi = some b) (h:lsl l a b = some r) :
  xsl n (.p (.lst o (l.map e))) lo hi none = some (.p (.lst (slO o) (r.map e))):=by
 unfold lsl at h
 split at h
 ·rename_i hc
  cases h
  have hlen:(l.map e).length = l.length:=by simp
  simp only [xsl,hlen,ha,hb,Z22]
  rw [if_pos ⟨hc.1,hc.2.1,hc.2.2,Zpr hn l,h0⟩]
  simp only [List.map_drop,Zw9]
  cases o <;> rfl
 ·simp at h
theorem Zsh {s r:ByteArray} {lo hi:Option AV} {a b:Int} (ha:optI 0 lo = some a) (hb:optI s.size hi = some b) (h:ssl s a b = some r):xslS (.p (.v (.string s))) lo hi = some (.p (.v (.string r))):=by
 unfold ssl at h
 split at h
 ·rename_i hc
  cases h
  simp only [xslS,ha,hb,Z22]
  rw [if_pos hc]
 ·simp at h
theorem Z37 {α:Type} {P:Program} {t:TypeId} {d:TypeId} (h:P.underlying t = some (.slice d)) (e:α → PV) (o:Own) (l:List α):xlen P t (.p (.lst o (l.map e))) = some (.p (.v (.int .i64 l.length))):=by
 rw [ZIL h,ZbC]
theorem Zmc {P:Program} {t:TypeId} {x y z:ByteArray} (h:sadd x y = some z):xbin P .add t (.p (.v (.string x))) (.p (.v (.string y))) = some (.p (.v (.string z))):=by
 unfold sadd at h
 split at h
 ·simp at h
 ·rename_i hc
  cases h
  have:Z51 P (Op.stringOp .add x y) = some (.string (x ++ y)):=by
   unfold Op.stringOp
   simp only
   rw [if_neg hc]
   rfl
  show ob (Z51 P (Op.stringOp .add x y)) Z8i = _
  rw [this]
  rfl
theorem Zor:∀ (l:List Int),bytesOf (l.map (eI .u8)) = some (l.map fun n => UInt8.ofNat n.toNat)
 | [] => rfl
 | n :: r => by simp [bytesOf,byteOf,eI,Zor r]
theorem ZFs (o:Own) (l:List Int):xstr (.p (.lst o (l.map (eI .u8)))) = some (.p (.v (.string (strI l)))):=by
 simp only [xstr,Zor,Z8O]
 rfl
theorem ZFr (s:ByteArray):xbyt (.p (.v (.string s))) = some (.p (.lst .sh ((Z4i s).map (eI .u8)))):=by
 simp only [xbyt,ZxI]
theorem ZE2 {P:Program} {s d:TypeId} (h:(Zdf P d && Z8q P s .u8) = true) (o:Own) (l:List Int):xcnv P s d (.p (.lst o (l.map (eI .u8)))) = some (.p (.v (.string (strI l)))):=by
 unfold xcnv; rw [if_pos h]; exact ZFs o l
theorem ZE1 {P:Program} {s d:TypeId} (h0:(Zdf P d && Z8q P s .u8) = false) (h:(Zdf P s && Z8q P d .u8) = true) (x:ByteArray):xcnv P s d (.p (.v (.string x))) = some (.p (.lst .sh ((Z4i x).map (eI .u8)))):=by
 unfold xcnv; rw [if_neg (by simp [h0]),if_pos h]; exact ZFr x
def nilO {α:Type} (o:Own) (l:List α):Option Bool :=
 match o with
 | .nl => some true
 | .un => some false
 | .ex | .sh => match l with
  | [] => none
  | _ :: _ => some false
theorem ZDk {α:Type} {e:α → PV} {o:Own} {l:List α} {b:Bool} (h:nilO o l = some b):ZdT (.p (.lst o (l.map e))) = some b:=by
 cases o <;> cases l <;> simp_all [nilO,ZdT]
theorem Zmb {α:Type} {P:Program} {t:TypeId} {c:Value} {e:α → PV} {o:Own} {l:List α} {b:Bool} (hk:Zl2 P t c (.p (.lst o (l.map e))) = true) (h:nilO o l = some b):xnil P .neq t c (.p (.lst o (l.map e))) = some (.p (.v (.bool (!b)))):=by
 unfold xnil; rw [if_pos hk,ZDk h]; rfl
end Go.Abs
end
section
namespace Go.Abs
open Go

end Go.Abs
end
section
namespace Go.Abs
open Go Go.RowKit Go.ChangeShapes Go.WideShapes Go.ChangeAt Go.Deep
def Z9j (w:World) (ps:List PV) (cs:List Value):Prop :=
 ps.length = cs.length ∧ ∀ (i:Nat) (p:PV) (v:Value),ps[i]? = some p → cs[i]? = some v → Z42 p = true ∧ PRel w (Old w) p v
section
variable {H:Type} {enc:TypeId × Value → H} {P:Program} {w:World}
theorem Z9j.one {p:PV} {v:Value} (h1:Z42 p = true) (h2:PRel w (Old w) p v):Z9j w [p] [v]:=by
 refine ⟨rfl,fun i q u hq hu => ?_⟩
 cases i with
 | zero => simp at hq hu; subst hq; subst hu; exact ⟨h1,h2⟩
 | succ i => simp at hq
theorem Z9j.nil:Z9j w [] []:=⟨rfl,fun i q u hq => by simp at hq⟩
theorem Z9j.app {p q:List PV} {cs:List Value} {n:Nat} (h1:Z9j w p (cs.take n)) (h2:Z9j w q (cs.drop n)):Z9j w (p ++ q) cs:=by
 have e:=ZEy n cs
 refine ⟨by rw [q3_,h1.1,h2.1,← q3_,e],fun i a v ha hv => ?_⟩
 by_cases hi:i < p.length
 ·rw [ZdB hi] at ha
  refine h1.2 i a v ha ?_
  rw [← e,ZdB (by rw [← h1.1]; exact hi)] at hv
  exact hv
 ·rw [ZbU (by omega)] at ha
  refine h2.2 (i - p.length) a v ha ?_
  rw [← e,ZbU (by rw [← h1.1]; omega),← h1.1] at hv
  exact hv
theorem Z9j.next {p q:List PV} {cs:List Value} {o n:Nat} (h1:Z9j w p ((cs.drop o).take n)) (h2:Z9j w q (cs.drop (o + n))):Z9j w (p ++ q) (cs.drop o) :=
 Z9j.app h1 (by rw [ZDK]; exact h2)
theorem Z9j.agg {ps:List PV} {arr:Array Value} (h:Z9j w ps arr.toList):PRel w (Old w) (.agg ps) (.agg arr):=by
 refine .agg ps arr (by rw [h.1]; simp) ?_ ?_
 ·intro c hc
  obtain ⟨i,hi⟩:=List.getElem?_of_mem hc
  have:i < arr.toList.length:=by rw [← h.1]; exact (q2_.1 hi).1
  exact (h.2 i c arr.toList[i] hi (q4_ this)).1
 ·intro i c v hc hv
  exact (h.2 i c v hc (by simpa using hv)).2
end
end Go.Abs
end
section
namespace Go.Abs
open Go
theorem ZnJ {P:Program} {k:IntKind} (a b:Int):Z7J P true [.p (.v (.int k a)),.p (.v (.int k b))] = some (.p (.v (.int k (max a b)))):=by
 have:Z51 P (Builtin.max_ #[] 0 [Value.int k a,Value.int k b].toArray) = some (.int k (max a b)):=by
  have e:(if b > a then b else a) = max a b:=by omega
  rw [← e]
  rfl
 show ob (Z51 P (Builtin.max_ #[] 0 [Value.int k a,Value.int k b].toArray)) Z8i = _
 rw [this]
 rfl
theorem ZcQ {P:Program} {k:IntKind} (a b:Int):Z7J P false [.p (.v (.int k a)),.p (.v (.int k b))] = some (.p (.v (.int k (min a b)))):=by
 have:Z51 P (Builtin.min_ #[] 0 [Value.int k a,Value.int k b].toArray) = some (.int k (min a b)):=by
  have e:(if b < a then b else a) = min a b:=by omega
  rw [← e]
  rfl
 show ob (Z51 P (Builtin.min_ #[] 0 [Value.int k a,Value.int k b].toArray)) Z8i = _
 rw [this]
 rfl
def pOwn:PV → Own | .lst o _ => o | _ => .sh
end Go.Abs
end
section
namespace Go.Abs
open Go Go.RowKit

end Go.Abs
end
section
namespace Go.Abs
open Go
def lset {α:Type} (l:List α) (i:Int) (a:α):List α:=l.set i.toNat a
def okA (o:Own):Option Unit:=if ZM o = true then some () else none
theorem ZHK {o:Own} {u:Unit} (h:okA o = some u):ZM o = true:=by
 unfold okA at h
 split at h
 ·assumption
 ·simp at h
section
variable {R:Type} {Q:R → Res → Prop} {x:Option R}
theorem zF (v:AV) (B2:List Row) {a:AV} {B:List Row} {K:AV → List Row → Option Res} (s:Sim Q x (K v B2)) (h:(fun K:AV → List Row → Option Res => ldFz a B K) = fun K => K v B2:=by kernel_rfl):Sim Q x (ldFz a B K):=by
 rw [show ldFz a B K = K v B2 from congrFun h K]; exact s
theorem zb (B2:List Row) {z:Option (List Row)} {K:List Row → Option Res} (h:z = some B2) (s:Sim Q x (K B2)):Sim Q x (ob z K):=Sim.ob1 h s
theorem zX (v:AV) (B2:List Row) {l:List (Nat × Nat)} {B:List Row} {a:AV} {K:AV → List Row → Option Res} (s:Sim Q x (K v B2)) (h:(fun K:AV → List Row → Option Res => bxM l a B K) = fun K => K v B2:=by kernel_rfl):Sim Q x (bxM l a B K):=by
 rw [show bxM l a B K = K v B2 from congrFun h K]; exact s
end
theorem Zsu {α:Type} {l:List α} {i:Int} {a:α} (h:lget l i = some a):0 ≤ i ∧ i.toNat < l.length ∧ l[i.toNat]? = some a:=by
 unfold lget at h
 split at h
 ·exact ⟨‹_›,(q2_.1 h).1,h⟩
 ·simp at h
theorem ZbT {α:Type} {P:Program} {t:TypeId} {d:TypeId} (h:P.underlying t = some (.slice d)) (e:α → PV) (l:List α):xlen P t (.p (.hd (l.map e).length)) = some (.p (.v (.int .i64 l.length))):=by
 unfold xlen
 rw [h]
 simp
theorem ZE0 {α:Type} {e:α → PV} {n:Nat} (hn:∀ a,(Z1r (e a)).length = n) (h0:0 < n) {xs ys zs:List α} {o':Own} (h:lapp xs ys = some zs) :
  Zoe n (.p (.ml n (xs.map e))) (.p (.lst o' (ys.map e))) = some (.p (.ml n (zs.map e))):=by
 unfold lapp at h
 split at h
 ·rename_i hl
  cases h
  simp only [Zoe,Zlo,Z22]
  rw [if_pos (by simp [Zpr hn,h0,hl]),ZhA]
 ·simp at h
theorem ZkZ {α:Type} {e:α → PV} {n id off:Nat} (h0:0 < n) {l:List α} {i:Int} {a:α} {k:IntKind} (h:lget l i = some a) :
  ixA n (.p (.jnk (.al id off n (l.map e).length))) (.p (.v (.int k i))) = some (.p (.jnk (.ep id off n i.toNat 0))):=by
 obtain ⟨h1,h2,_⟩:=Zsu h
 simp only [ixA,asInt]
 rw [if_pos ⟨h1,by simp; omega,trivial,h0⟩]
theorem ZiE {α:Type} {e:α → PV} {n id off m fo k:Nat} {x:AV} {B B2:List Row} {row:Row} {l:List α} {i:Int} {a a':α}
  (hc:Za5 B id off = some (row,n,l.map e)) (h:lget l i = some a) (hs:elSt k fo x (e a) = some (e a')) (hB:B.set id (row.set off (.p (.ml n ((lset l i a').map e)))) = B2) :
  stEl k (.p (.jnk (.ep id off m i.toNat fo))) x B = some B2:=by
 obtain ⟨_,_,h3⟩:=Zsu h
 simp only [stEl,hc,Z22,q7_,h3,Z8O,hs]
 rw [← hB,← List.map_set]
 rfl
end Go.Abs
end
