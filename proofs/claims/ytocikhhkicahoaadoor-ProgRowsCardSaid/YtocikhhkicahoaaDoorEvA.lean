/- An evaluator for the program's form: what it reckons with, and its operations. No condition. -/
import Derived.Calls
import Derived.Orders
import Derived.Control
import Derived.Laws.World
import Derived.Below
import Derived.Laws.Sem
import Derived.Laws.Cells
import Derived.Laws.BytesString
import Derived.Laws.CopyRow

set_option linter.unusedSimpArgs false
set_option linter.unusedVariables false
set_option linter.defProp false
section
namespace Go
def q0_:=@Option.bind_some
def q1_:=@Option.some.injEq
def q2_:=@List.getElem?_eq_some_iff
def q3_:=@List.length_append
def q4_:=@List.getElem?_eq_getElem
def q5_:=@List.length_cons
def q6_:=@Option.map_eq_some_iff
def q7_:=@List.getElem?_map
def q8_:=@List.length_nil
def q9_:=@List.mem_of_getElem?
def Z2x:=@Nat.le_refl
def Z4R:=@Bool.and_eq_true
def Z8t:=@Array.getElem?_eq_some_iff
def Z87:=@List.getD_eq_getElem?_getD
def Z43:=@Prod.mk.injEq
def Z5G:=@List.mem_cons
def ZbU:=@List.getElem?_append_right
def Z8O:=@Option.map_some
def Z8u:=@List.getElem?_set
def Zgg:=@List.drop_of_length_le
def Z8v:=@List.all_eq_true
def Zay:=@List.mem_cons_of_mem
def Z3F:=@Prod.ext
def Z9C:=@List.mem_cons_self
def Z7a:=@List.mem_map
def Zfo:=@List.eq_nil_of_length_eq_zero
def ZdB:=@List.getElem?_append_left
def ZcJ:=@List.getElem?_cons_zero
def Z99:=@List.map_cons
def ZbC:=@List.length_map
def ZcK:=@List.mem_iff_getElem?
def ZcL:=@List.getElem?_eq_none
def Zaz:=@List.append_assoc
def Zfp:=@Array.getElem?_eq_getElem
def ZbD:=@List.cons_append
def Zgh:=@List.drop_eq_getElem_cons
def Zj4:=@Bool.false_eq_true
def Zb8:=@List.mem_append
def ZbE:=@List.nil_append
def ZdC:=@List.mem_singleton
def Zhz:=@List.getElem?_cons_succ
def Zes:=@Bool.not_eq_true'
def Zet:=@List.getElem?_take
def Z9X:=@Nat.lt_or_ge
def Zgi:=@List.getElem?_append
def Z9Y:=@Nat.add_mul
def ZdD:=@List.foldl_cons
def Zj5:=@List.length_singleton
def ZbF:=@Nat.add_zero
def Zeu:=@List.mem_filter
def Zev:=@List.map_nil
def Zj6:=@List.pairwise_cons
def Zj7:=@Bool.or_eq_true
def ZhA:=@List.map_append
def Zj8:=@List.cons.injEq
def Zew:=@Int.le_refl
def ZhB:=@List.mem_range
def Zka:=@List.getElem?_drop
def ZlZ:=@Nat.mul_le_mul_right
def Znm:=@List.getElem_mem
def Znn:=@List.map_congr_left
def Zfq:=@Nat.zero_add
def Zno:=@Array.getElem?_append
def Zkb:=@List.append_nil
def Zsc:=@Array.getD_eq_getD_getElem?
def Zpg:=@List.length_eq_zero_iff
def Zm0:=@List.ext_getElem?
def Znp:=@Nat.lt_of_lt_of_le
def ZhC:=@Nat.le_trans
def Zph:=@List.map_map
def Zpi:=@List.mem_of_mem_take
def Zpj:=@List.contains_eq_mem
def Znq:=@Array.size_append
def Znr:=@List.reverse_cons
def ZvZ:=@List.take_succ_cons
def ZhD:=@Nat.zero_le
def Zw0:=@List.take_of_length_le
def Zns:=@List.length_drop
def Zsd:=@Array.getElem?_toList
def Zse:=@List.mem_append_left
def Zw1:=@List.eq_of_mem_replicate
def Zpk:=@List.size_toArray
def ZDJ:=@List.take_append_of_le_length
def Zpl:=@List.drop_zero
def Zpm:=@List.not_mem_nil
def Zw2:=@Nat.eq_zero_or_pos
def Zw3:=@List.mem_append_right
def Zw4:=@Array.mem_of_getElem?
def Znt:=@Nat.add_assoc
def Zw5:=@Array.replicate_succ
def Zw6:=@Array.replicate_zero
def ZDK:=@List.drop_drop
def Znu:=@Int.le_trans
def ZDL:=@Array.all_eq_true_iff_forall_mem
def ZDM:=@List.take_succ_eq_append_getElem
def Zw7:=@List.append_toArray
def Zpn:=@Nat.lt_irrefl
def Zw8:=@Bool.true_and
def Zw9:=@List.map_take
def Zwa:=@Array.getElem?_map
def Zo9:=@Option.map_none
def Zrc:=@List.push_toArray
def Zt7:=@Nat.eq_of_beq_eq_true
def Zzd:=@Array.getElem?_setIfInBounds
def Zt8:=@List.getElem?_toArray
def Zt9:=@Array.getElem?_modify
def ZEy:=@List.take_append_drop
def Zta:=@List.singleton_append
def Ztb:=@Array.toList_inj
def Ztc:=@List.mem_of_mem_drop
def ZEz:=@Option.getD_some
def Ztd:=@List.range_eq_range'
def Zrd:=@List.filter_cons
end Go
namespace Go.Abs
open Go
inductive Own where
 | sh | ex | un | nl
 deriving DecidableEq
inductive Al where
 | no
 | al (id off n len:Nat)
 | ep (id off n i fo:Nat)
inductive PV where
 | v (x:Value)
 | lst (o:Own) (xs:List PV)
 | ml (n:Nat) (xs:List PV)
 | hd (k:Nat)
 | agg (cs:List PV)
 | tup (vs:List PV)
 | jnk (q:Al)
@[match_pattern] abbrev PV.junk:PV:=.jnk .no
inductive AV where
 | p (x:PV)
 | ptr (id off:Nat)
 | mp (id:Nat)
 | md (es:List (Int × PV))
 | cptr (cs:List PV)
 | clo (f:FuncId) (first cap:List AV)
 | agg (cs:List AV)
 | tup (vs:List AV)
abbrev Row:=List AV
abbrev Res:=AV × List Row
abbrev Sl:=List (Nat × AV)
abbrev hi {α:Sort _} {β:Sort _} (a:α) (_:β):α:=a
inductive Ex where
 | normal
 | exit (id:Nat)
 | ret
def lp (x:Option Res):Option Res:=x
def mk (x:Option Res):Option Res:=x
abbrev Kont:=Ex → Sl → List Row → Option Res
structure Hints where
 keep:FuncId → Nat → Option (List Nat)
 own:FuncId → List Nat
 raw:FuncId → Bool
 near:FuncId → List Nat:=fun _ => []
 al:FuncId → List Nat:=fun _ => []
 fz:FuncId → List Nat:=fun _ => []
 mz:FuncId → List (Nat × List (Nat × Nat)):=fun _ => []
def jk:AV:=.p .junk
def ud:AV:=.p (.tup [])
def iv (n:Int):AV:=.p (.v (.int .i64 n))
def kv (k:IntKind) (n:Int):AV:=.p (.v (.int k n))
def bv (b:Bool):AV:=.p (.v (.bool b))
def nilA:AV:=.p (.lst .nl [])
def l1:Code → Code
 | .seq a _ | .cond _ a _ | .block _ a | .loop a | .scope a => a
 | c => c
def l2:Code → Code
 | .seq _ b | .cond _ _ b => b
 | c => c
def Z2K (fn:Func):Code :=
 match fn.body with
 | some c => c
 | none => .skip
def scal:Value → Bool
 | .bool _ | .int .. | .string _ | .float .. | .nilFunc | .nilIface | .pointer none | .map none | .chan none => true
 | _ => false
def shrO:Own → Own
 | .un => .sh
 | o => o
def shrP:PV → PV
 | .lst o xs => .lst (shrO o) xs
 | .ml _ xs => .hd xs.length
 | x => x
def shr:AV → AV
 | .p (.lst o xs) => .p (.lst (shrO o) xs)
 | .p (.ml _ xs) => .p (.hd xs.length)
 | .p (.tup vs) => .p (.tup (vs.map shrP))
 | .tup vs => .tup (vs.map fun | .p x => .p (shrP x) | x => x)
 | x => x
def nrmP:PV → PV
 | .lst _ xs => .lst .sh xs
 | .ml _ xs => .hd xs.length
 | x => x
def nrm:PV → PV
 | .lst _ xs => .lst .sh xs
 | .ml _ xs => .hd xs.length
 | .agg cs => .agg (cs.map nrmP)
 | .tup vs => .tup (vs.map fun | .lst _ xs => .lst .sh xs | .ml _ xs => .hd xs.length | .agg cs => .agg (cs.map nrmP) | x => x)
 | x => x
def nrmA:AV → AV
 | .p x => .p (nrm x)
 | .agg cs => .agg (cs.map fun | .p x => .p (nrmP x) | x => x)
 | .tup vs => .tup (vs.map fun | .p x => .p (nrm x) | x => x)
 | x => x
def Z1r:PV → List PV
 | .agg cs => cs
 | x => [x]
def Z2k:AV → List AV
 | .p (.agg cs) => cs.map .p
 | .agg cs => cs
 | x => [x]
def allP:List AV → Option (List PV)
 | [] => some []
 | .p x :: r => (allP r).map (x :: ·)
 | _ :: _ => none
def Zfj (cs:List AV):AV :=
 match allP cs with
 | some ps => .p (.agg ps)
 | none => .agg cs
def Z98 (vs:List AV):AV :=
 match allP vs with
 | some ps => .p (.tup ps)
 | none => .tup vs
def Zhk (x:Value):Option PV :=
 match x with
 | .slice none 0 0 => some (.lst .nl [])
 | x => if scal x then some (.v x) else none
def Zl5:List Value → Option (List PV)
 | [] => some []
 | x :: r => match Zhk x,Zl5 r with
  | some a,some b => some (a :: b)
  | _,_ => none
def Z8i (x:Value):Option AV :=
 match x with
 | .agg cs => (Zl5 cs.toList).map fun l => .p (.agg l)
 | x => (Zhk x).map .p
def ZdV:PV → Option Value
 | .v x => some x
 | .lst .nl [] => some (.slice none 0 0)
 | _ => none
def Zle:List PV → Option (List Value)
 | [] => some []
 | x :: r => match ZdV x,Zle r with
  | some a,some b => some (a :: b)
  | _,_ => none
def ZgB:AV → Option Value
 | .p (.agg cs) => (Zle cs).map fun l => .agg l.toArray
 | .p x => ZdV x
 | _ => none
def Z51 {α:Type} (P:Program):Sem α → Option α
 | .pure a => some a
 | .program k => Z51 P (k P)
 | _ => none
def ob {α β:Type} (x:Option α) (k:α → Option β):Option β :=
 hi (match x with
 | some a => k a
 | none => none) mk
def grd {β:Type} (b:Bool) (k:Option β):Option β:=hi (if b = true then k else none) mk
def asB {β:Type} (x:AV) (k:Bool → Option β):Option β :=
 hi (match x with
 | .p (.v (.bool b)) => k b
 | _ => none) mk
def br {β:Type} (b:Bool) (t e:Option β):Option β:=hi (if b = true then t else e) mk
def ZdT:AV → Option Bool
 | .p (.v (.pointer none)) => some true
 | .p (.v .nilFunc) => some true
 | .ptr _ _ => some false
 | .mp _ => some false
 | .cptr _ => some false
 | .clo .. => some false
 | .p (.lst .nl _) => some true
 | .p (.lst .ex (_ :: _)) => some false
 | .p (.lst .un _) => some false
 | .p (.lst .sh (_ :: _)) => some false
 | _ => none
def ZyX:Value → Bool
 | .slice none 0 0 | .pointer none | .nilFunc => true
 | _ => false
def Zgz:Value → Bool
 | .nilIface => false
 | _ => true
def xbin (P:Program) (op:BinOp) (t:TypeId) (x y:AV):Option AV :=
 match ZgB x,ZgB y with
 | some a,some b =>
  if Zgz a && Zgz b then
   ob (Z51 P (do eqGuard op t (.tmp 0) (.tmp 0) a b; binOp op t a b)) Z8i
  else none
 | _,_ => none
def Zl2 (P:Program) (t:TypeId) (c:Value) (x:AV):Bool :=
 match P.underlying t,c,x with
 | some (.slice _),.slice none 0 0,.p (.lst ..) => true
 | some (.pointer _),.pointer none,.ptr .. => true
 | some (.pointer _),.pointer none,.cptr _ => true
 | some (.pointer _),.pointer none,.p (.v (.pointer none)) => true
 | some (.func ..),.nilFunc,.clo .. => true
 | some (.func ..),.nilFunc,.p (.v .nilFunc) => true
 | _,_,_ => false
def xnil (P:Program) (op:BinOp) (t:TypeId) (c:Value) (x:AV):Option AV :=
 if Zl2 P t c x = true then
  ob (ZdT x) fun b =>
   match op with
   | .eql => some (.p (.v (.bool b)))
   | .neq => some (.p (.v (.bool !b)))
   | _ => none
 else none
def xun (P:Program) (op:UnOp) (x:AV):Option AV:=ob (ZgB x) fun a => ob (Z51 P (Op.unary op a)) Z8i
def Z8V (s:ByteArray):List PV:=s.data.toList.map fun b => .v (.int .u8 b.toNat)
def byteOf:PV → Option UInt8
 | .v (.int .u8 n) => some (UInt8.ofNat n.toNat)
 | _ => none
def bytesOf:List PV → Option (List UInt8)
 | [] => some []
 | x :: r => match byteOf x,bytesOf r with
  | some a,some b => some (a :: b)
  | _,_ => none
def xstr (x:AV):Option AV :=
 match x with
 | .p (.lst _ xs) => (bytesOf xs).map fun l => .p (.v (.string ⟨l.toArray⟩))
 | _ => none
def xbyt (x:AV):Option AV :=
 match x with
 | .p (.v (.string s)) => some (.p (.lst .sh (Z8V s)))
 | _ => none
def Z8q (P:Program) (t:TypeId) (k:IntKind):Bool :=
 match P.underlying t with
 | some (.slice e) => (match P.underlying e with | some (.int k') => k == k' | _ => false)
 | _ => false
def Zdf (P:Program) (t:TypeId):Bool :=
 match P.underlying t with
 | some .string => true
 | _ => false
def xcnv (P:Program) (s d:TypeId) (x:AV):Option AV :=
 if Zdf P d && Z8q P s .u8 then xstr x
 else if Zdf P s && Z8q P d .u8 then xbyt x
 else ob (ZgB x) fun a => ob (Z51 P (convert s d a)) Z8i
def Zzk (P:Program) (s:TypeId) (x:AV):Option AV :=
 match x with
 | .p (.lst .un xs) => if Z8q P s .u8 = true then some (.p (.lst .sh xs)) else none
 | x => xcnv P s s x
def unOf:AV → AV
 | .p (.lst .ex (x :: xs)) => .p (.lst .un (x :: xs))
 | x => x
def asInt {β:Type} (x:AV) (k:Int → Option β):Option β :=
 match x with
 | .p (.v (.int _ n)) => k n
 | _ => none
def szOk (n:Nat) (xs:List PV):Bool:=xs.all fun e => (Z1r e).length == n
def xidx (n:Nat) (x i:AV):Option AV :=
 match x with
 | .p (.lst _ xs) => asInt i fun j =>
  if 0 ≤ j then
   match xs[j.toNat]? with
   | some e => if (Z1r e).length == n && decide (0 < n) then some (.cptr (Z1r e)) else none
   | none => none
  else none
 | _ => none
def Zro (n s:Nat) (x i:AV):Option AV :=
 match x with
 | .ptr id off => asInt i fun j => if 0 ≤ j ∧ j < n then some (.ptr id (off + j.toNat * s)) else none
 | .cptr cs => asInt i fun j => if 0 ≤ j ∧ j < n then some (.cptr (cs.drop (j.toNat * s))) else none
 | _ => none
def xfld (off:Nat) (x:AV):Option AV :=
 match x with
 | .ptr id o => some (.ptr id (o + off))
 | .cptr cs => some (.cptr (cs.drop off))
 | _ => none
def Z1J (x:AV):Option AV :=
 match x with
 | .ptr .. | .cptr _ | .clo .. => some x
 | _ => none
def Zof (ag:Bool) (off n:Nat) (x:AV):Option AV :=
 match x with
 | .p (.agg cs) => if ag then (if off + n ≤ cs.length then some (.p (.agg ((cs.drop off).take n))) else none) else ob cs[off]? fun c => some (.p c)
 | .agg cs => if ag then (if off + n ≤ cs.length then some (Zfj ((cs.drop off).take n)) else none) else cs[off]?
 | _ => none
def xext (i:Nat) (x:AV):Option AV :=
 match x with
 | .p (.tup vs) => ob vs[i]? fun c => some (.p c)
 | .tup vs => vs[i]?
 | _ => none
def xlen (P:Program) (t:TypeId) (x:AV):Option AV :=
 match P.underlying t,x with
 | some (.slice _),.p (.lst _ xs) => some (.p (.v (.int .i64 xs.length)))
 | some (.slice _),.p (.hd k) => some (.p (.v (.int .i64 k)))
 | some .string,.p (.v (.string s)) => some (.p (.v (.int .i64 s.size)))
 | _,_ => none
def Zhi (P:Program) (t:TypeId):Bool :=
 match P.underlying t with
 | some (.slice _) | some .string => false
 | _ => true
def optI (d:Int):Option AV → Option Int
 | none => some d
 | some (.p (.v (.int _ n))) => some n
 | some _ => none
def xsl (n:Nat) (x:AV) (lo hi mx:Option AV):Option AV :=
 match x with
 | .p (.lst o xs) => ob (optI 0 lo) fun l => ob (optI xs.length hi) fun h =>
  if 0 ≤ l ∧ l ≤ h ∧ h ≤ xs.length ∧ szOk n xs ∧ 0 < n then
   let ys:=(xs.take h.toNat).drop l.toNat
   match mx with
   | none => some (.p (.lst (match o with | .nl => .nl | _ => .sh) ys))
   | some m => asInt m fun c => if c = h then some (.p (.lst .ex ys)) else none
  else none
 | _ => none
def xslS (x:AV) (lo hi:Option AV):Option AV :=
 match x with
 | .p (.v (.string s)) => ob (optI 0 lo) fun l => ob (optI s.size hi) fun h =>
  if 0 ≤ l ∧ l ≤ h ∧ h ≤ s.size then some (.p (.v (.string (s.extract l.toNat h.toNat)))) else none
 | _ => none
def ZM:Own → Bool
 | .sh => false
 | _ => true
def apo (o:Own) (ys:List PV):Own :=
 match ys with
 | [] => o
 | _ :: _ => .un
def lim:Nat:=1353245080339
def Zlo (x:AV):Option (List PV) :=
 match x with
 | .p (.lst _ ys) => some ys
 | .p (.v (.string s)) => some (Z8V s)
 | _ => none
def xapp (n:Nat) (x y:AV):Option AV :=
 match x with
 | .p (.lst o xs) => ob (Zlo y) fun ys =>
  if (ZM o || ys.isEmpty) && szOk n xs && szOk n ys && decide (0 < n) && decide (xs.length + ys.length ≤ lim) then some (.p (.lst (apo o ys) (xs ++ ys))) else none
 | _ => none
def Zoe (n:Nat) (x y:AV):Option AV :=
 match x with
 | .p (.lst .nl []) => ob (Zlo y) fun ys =>
  if szOk n ys && decide (0 < n) && decide (ys.length ≤ lim) && !ys.isEmpty then some (.p (.ml n ys)) else none
 | .p (.ml k xs) => ob (Zlo y) fun ys =>
  if Nat.beq k n && szOk n ys && decide (0 < n) && decide (xs.length + ys.length ≤ lim) then some (.p (.ml n (xs ++ ys))) else none
 | _ => none
def xslM (n:Nat) (x:AV) (lo hi mx:Option AV):Option AV :=
 match x with
 | .p (.ml k xs) =>
  match lo,mx,hi with
  | none,none,some h => asInt h fun h => if 0 ≤ h ∧ h ≤ xs.length ∧ k = n ∧ 0 < n then some (.p (.ml k (xs.take h.toNat))) else none
  | _,_,_ => none
 | _ => none
def Z7J (P:Program) (mx:Bool) (xs:List AV):Option AV :=
 let rec vals:List AV → Option (List Value)
  | [] => some []
  | a :: r => ob (ZgB a) fun x => (vals r).map (x :: ·)
 ob (vals xs) fun l => ob (Z51 P (if mx then Builtin.max_ #[] 0 l.toArray else Builtin.min_ #[] 0 l.toArray)) Z8i
def mdOf:Row → Option (List (Int × PV))
 | [.md es] => some es
 | _ => none
def ldN (ag:Bool) (n:Nat) (x:AV) (B:List Row):Option AV :=
 match x with
 | .ptr id off => ob B[id]? fun row =>
  if (mdOf row).isSome = true then none
  else if ag then (if off + n ≤ row.length then some (Zfj (((row.drop off).take n).map shr)) else none)
  else ob row[off]? fun c => some (shr c)
 | .cptr cs =>
  if ag then (if n ≤ cs.length then some (.p (.agg (cs.take n))) else none)
  else ob cs[0]? fun c => some (.p c)
 | _ => none
def ldOwn (x:AV) (B:List Row) (k:AV → List Row → Option Res):Option Res :=
 match x with
 | .ptr id off => ob B[id]? fun row => if (mdOf row).isSome = true then none else ob row[off]? fun c => k c (B.set id (row.set off (shr c)))
 | _ => none
def ldFz (x:AV) (B:List Row) (k:AV → List Row → Option Res):Option Res :=
 match x with
 | .ptr id off => ob B[id]? fun row => if (mdOf row).isSome = true then none else ob row[off]? fun c =>
  match c with
  | .p (.ml n xs) => k (.p (.lst .sh xs)) (B.set id (row.set off (.p (.hd xs.length))))
  | _ => none
 | _ => none
def Z5a:AV → Bool
 | .p (.tup _) | .tup _ | .p (.jnk _) | .md _ => true
 | _ => false
def bx (x:AV) (B:List Row) (k:AV → List Row → Option Res):Option Res :=
 if Z5a x = true then none else k (.ptr B.length 0) (B ++ [Z2k x])
def ZaO:List (Nat × Nat) → Row → Row
 | [],r => r
 | (off,n) :: l,r => ZaO l (match r[off]? with
  | some (.p (.lst .nl [])) => r.set off (.p (.ml n []))
  | _ => r)
def bxM (l:List (Nat × Nat)) (x:AV) (B:List Row) (k:AV → List Row → Option Res):Option Res :=
 match l with
 | [] => bx x B k
 | l => if Z5a x = true then none else k (.ptr B.length 0) (B ++ [ZaO l (Z2k x)])
def setAt (row:Row) (off:Nat):List AV → Row
 | [] => row
 | c :: cs => setAt (row.set off c) (off + 1) cs
def stN (n:Nat) (a x:AV) (B:List Row) (k:List Row → Option Res):Option Res :=
 match a with
 | .ptr id off => ob B[id]? fun row =>
  let cs:=Z2k x
  if (mdOf row).isNone = true ∧ Z5a x = false ∧ cs.length = n ∧ off + n ≤ row.length then k (B.set id (setAt row off cs)) else none
 | _ => none
def putE:List (Int × PV) → Int → PV → List (Int × PV)
 | [],n,y => [(n,y)]
 | q :: r,n,y => if q.1 = n then (n,y) :: r else q :: putE r n y
def delE:List (Int × PV) → Int → List (Int × PV)
 | [],_ => []
 | q :: r,n => if q.1 = n then r else q :: delE r n
def getE:List (Int × PV) → Int → Option PV
 | [],_ => none
 | q :: r,n => if q.1 = n then some q.2 else getE r n
def mapE (_:Program) (_:TypeId):Option TypeId:=none
def asK {β:Type} (x:AV) (k:Int → Option β):Option β :=
 match x with
 | .p (.v (.int .i64 n)) => k n
 | _ => none
def ZlR (x:AV) (B:List Row):Option (Nat × List (Int × PV)) :=
 match x with
 | .mp id => ob B[id]? fun row => ob (mdOf row) fun es => some (id,es)
 | _ => none
def ZnL:AV → Option PV
 | .p x => some x
 | _ => none
def Zrp (P:Program) (t:TypeId) (c:Bool) (x i:AV) (B:List Row):Option AV :=
 ob (mapE P t) fun e => ob (ZlR x B) fun q => asK i fun n =>
  match getE q.2 n with
  | some y => some (.p (if c = true then .tup [y,.v (.bool true)] else y))
  | none => ob ((P.info? e).bind (·.zero)) fun z => ob (Z8i z) fun z => ob (ZnL z) fun z => some (.p (if c = true then .tup [z,.v (.bool false)] else z))
def xupd (P:Program) (t:TypeId) (m k x:AV) (B:List Row) (K:List Row → Option Res):Option Res :=
 ob (mapE P t) fun _ => ob (ZlR m B) fun q => asK k fun n => ob (ZnL x) fun y => if Z5a x = true then none else K (B.set q.1 [.md (putE q.2 n (nrm y))])
def xdel (P:Program) (t:TypeId) (m k:AV) (B:List Row) (K:List Row → Option Res):Option Res :=
 ob (mapE P t) fun _ => ob (ZlR m B) fun q => asK k fun n => K (B.set q.1 [.md (delE q.2 n)])
def Zrq (x:AV) (B:List Row):Option AV:=ob (ZlR x B) fun q => some (.p (.v (.int .i64 q.2.length)))
def xmake (P:Program) (t:TypeId) (B:List Row) (k:AV → List Row → Option Res):Option Res:=ob (mapE P t) fun _ => k (.mp B.length) (B ++ [[.md []]])
mutual
def ptrs:AV → List Nat
 | .ptr id _ => [id]
 | .mp id => [id]
 | .clo _ a b => Z1p a ++ Z1p b
 | .agg cs => Z1p cs
 | .tup vs => Z1p vs
 | _ => []
def Z1p:List AV → List Nat
 | [] => []
 | x :: r => ptrs x ++ Z1p r
end
mutual
def Z2o (g:Nat → Nat):AV → AV
 | .ptr id off => .ptr (g id) off
 | .mp id => .mp (g id)
 | .md es => .md es
 | .clo f a b => .clo f (Z1W g a) (Z1W g b)
 | .agg cs => .agg (Z1W g cs)
 | .tup vs => .tup (Z1W g vs)
 | .p x => .p x
 | .cptr cs => .cptr cs
def Z1W (g:Nat → Nat):List AV → List AV
 | [] => []
 | x :: r => Z2o g x :: Z1W g r
end
def Z2b (B:List Row):Nat → List Nat → List Nat → List Nat
 | 0,_,seen => seen
 | _ + 1,[],seen => seen
 | n + 1,i :: todo,seen =>
  if seen.contains i then Z2b B n todo seen
  else Z2b B n (todo ++ (match B[i]? with | some row => Z1p row | none => [])) (seen ++ [i])
def Z2E (B:List Row):List Nat → List Row → List Row
 | i :: is,r :: rs => Z2E (B.set i r) is rs
 | _,_ => B
def below (m:Nat) (l:List Nat):Bool:=l.all (· < m)
def callS (raw:Bool) (G:FuncId → List AV → List Row → Option Res) (g:FuncId) (args:List AV) (B:List Row) (k:AV → List Row → Option Res):Option Res :=
 let rs:=Z2b B 64 (Z1p args) []
 let m:=rs.length
 let into:=fun id => rs.idxOf id
 if !((Z1p args).all rs.contains && rs.all (fun i => decide (i < B.length) && (Z1p (B.getD i [])).all rs.contains)) then none else
 ob (G g (Z1W into (match raw with | true => args | false => args.map nrmA)) (rs.map fun i => Z1W into (B.getD i []))) fun r =>
  let B':=r.2.take m
  if below m (ptrs r.1) && B'.all (fun row => below m (Z1p row)) then
   let back:=fun id => rs.getD id 0
   k (Z2o back r.1) (Z2E B rs (B'.map (Z1W back)))
  else
   let n:=B.length
   let back:=fun id => if id < m then rs.getD id 0 else n + (id - m)
   k (Z2o back r.1) (Z2E B rs (B'.map (Z1W back)) ++ (r.2.drop m).map (Z1W back))
def Zjz (raw:Bool) (G:FuncId → List AV → List Row → Option Res) (g:FuncId) (args:List AV) (B:List Row) (k:AV → List Row → Option Res):Option Res :=
 grd ((Z1p args).all fun i => (Z1p (B.getD i [])).isEmpty) (callS raw G g args B fun v B' => grd (Nat.beq B'.length B.length) (k v B'))
def callQ (near raw:Bool) (G:FuncId → List AV → List Row → Option Res) (g:FuncId) (args:List AV) (B:List Row) (k:AV → List Row → Option Res):Option Res :=
 match near with
 | false => callS raw G g args B k
 | true => Zjz raw G g args B k
def callV (H:Hints) (G:FuncId → List AV → List Row → Option Res) (x:AV) (args:List AV) (B:List Row) (k:AV → List Row → Option Res):Option Res :=
 match x with
 | .clo g first cap => if H.raw g then none else callS false G g (first ++ args ++ cap) B k
 | _ => none
def get:Sl → Nat → AV
 | [],_ => jk
 | (i,x) :: r,t => match Nat.beq i t with
  | true => x
  | false => get r t
def ev (sl:Sl):Operand → AV
 | .tmp t => get sl t
 | .const (.slice none 0 0) => .p (.lst .nl [])
 | .const v => if scal v then .p (.v v) else jk
 | .func f => .clo f [] []
 | .global _ => jk
abbrev weak (sl:Sl):Operand → Sl
 | .tmp t => (t,shr (get sl t)) :: sl
 | _ => sl
def weakL (sl:Sl):List Operand → Sl
 | [] => sl
 | x :: r => weakL (weak sl x) r
abbrev put (sl:Sl) (d:Option Tmp) (v:AV):Sl :=
 match d with
 | some d => (d,v) :: sl
 | none => sl
def shape (P:Program) (t:TypeId):Option (Bool × Nat) :=
 match P.underlying t,P.info? t with
 | some (.struct _),some i => some (true,i.size)
 | some (.array _ _),some i => some (true,i.size)
 | some _,some i => if i.size = 1 then some (false,1) else none
 | _,_ => none
def xat (P:Program) (t:TypeId) (x i:AV):Option AV :=
 match P.underlying t with
 | some (.array n e) => ob (shape P e) fun s => asInt i fun j => if 0 ≤ j ∧ j < n then Zof s.1 (j.toNat * s.2) s.2 x else none
 | some .string => match x with
  | .p (.v (.string b)) => asInt i fun j => if 0 ≤ j then ob b[j.toNat]? fun c => some (.p (.v (.int .u8 c.toNat))) else none
  | _ => none
 | _ => none
def zeroOf (P:Program) (t:TypeId):Option AV :=
 match P.info? t with
 | some i => ob i.zero Z8i
 | none => none
def bz (P:Program) (t:TypeId) (B:List Row) (k:AV → List Row → Option Res):Option Res:=ob (zeroOf P t) fun z => bx z B k
def Zlr (place:Nat → Option (Nat × Nat)) (cells:List AV):List (Nat × AV) → Option (List AV)
 | [] => some cells
 | (i,v) :: rest =>
  match place i with
  | none => none
  | some (off,size) =>
   let cs:=(Z2k v).map shr
   if Z5a v = false ∧ cs.length = size ∧ off + size ≤ cells.length then Zlr place (setAt cells off cs) rest else none
def fieldsOf (P:Program) (t:TypeId):Option (List (Nat × Nat)) :=
 match P.underlying t with
 | some (.struct fields) => fields.toList.mapM fun f => (P.info? f.type).map fun i => (f.offset,i.size)
 | _ => none
def Z1I (P:Program) (t:TypeId) (parts:List (Nat × AV)):Option AV :=
 ob (zeroOf P t) fun z =>
  match P.underlying t with
  | some (.struct _) => ob (fieldsOf P t) fun places => ob (Zlr (places[·]?) (Z2k z) parts) fun cs => some (Zfj cs)
  | some (.array _ e) => ob (P.info? e) fun i => ob (Zlr (fun k => some (k * i.size,i.size)) (Z2k z) parts) fun cs => some (Zfj cs)
  | _ => none
def asP:AV → Option PV
 | .p x => some x
 | _ => none
def Z64 (z:PV) (parts:List (Nat × PV)) (i:Nat):Nat → List PV
 | 0 => []
 | n + 1 => (match parts.find? (fun q => q.1 == i) with | some q => q.2 | none => z) :: Z64 z parts (i + 1) n
def distinct:List Nat → Bool
 | [] => true
 | x :: r => !r.contains x && distinct r
def Znl:List (Nat × AV) → Option (List (Nat × PV))
 | [] => some []
 | (i,x) :: r => match x,Znl r with
  | .p y,some l => if Z5a (.p y) = true then none else some ((i,nrm y) :: l)
  | _,_ => none
def xlit (P:Program) (t:TypeId) (len:Nat) (parts:List (Nat × AV)):Option AV :=
 match P.underlying t with
 | some (.slice e) => ob (P.info? e) fun i => ob (zeroOf P e) fun z => ob (asP z) fun z => ob (Znl parts) fun ps =>
  let xs:=Z64 (nrm z) ps 0 len
  if distinct (ps.map (·.1)) && ps.all (fun q => decide (q.1 < len)) && szOk i.size xs && decide (0 < i.size) && decide (len ≤ 4096) && decide (i.size ≤ 256) then some (.p (.lst .ex xs)) else none
 | _ => none
def sizeOf (P:Program) (t:TypeId):Nat:=match P.info? t with | some i => i.size | none => 0
def zOk (z:Option Value) (n:Nat):Bool :=
 match z with
 | some z => z.cells.size == n
 | none => false
def Z4P (P:Program) (t:TypeId):Nat :=
 match P.underlying t with
 | some (.slice e) => match P.info? e with | some i => if 0 < i.bytes ∧ i.bytes ≤ 104 ∧ zOk i.zero i.size = true then i.size else 0 | none => 0
 | _ => 0
def Zci (P:Program) (s:TypeId) (f:Nat):Option Nat :=
 match P.underlying s with
 | some (.struct fields) => match fields[f]? with
  | some x => if sizeOf P x.type = 0 then none else some x.offset
  | none => none
 | _ => none
def Z8s (H:Hints) (f:FuncId) (d:Option Tmp):Bool :=
 match d with
 | some d => (H.own f).contains d
 | none => false
def ZC8:List (Nat × List (Nat × Nat)) → Nat → List (Nat × Nat)
 | [],_ => []
 | (i,l) :: r,d => match Nat.beq i d with | true => l | false => ZC8 r d
def mzOf (H:Hints) (f:FuncId) (d:Option Tmp):List (Nat × Nat) :=
 match d with
 | some d => ZC8 (H.mz f) d
 | none => []
def ZqF (H:Hints) (f:FuncId) (d:Option Tmp):Bool :=
 match d with
 | some d => (H.fz f).contains d
 | none => false
def ZsW (H:Hints) (f:FuncId) (d:Option Tmp):Bool :=
 match d with
 | some d => (H.al f).contains d
 | none => false
def Zxj (H:Hints) (f:FuncId) (d:Option Tmp):Bool :=
 match d with
 | some d => (H.near f).contains d
 | none => false
def tmpsOf:List Operand → List Nat
 | [] => []
 | .tmp t :: r => t :: tmpsOf r
 | _ :: r => tmpsOf r
def evs (sl:Sl) (xs:Array Operand):List AV:=xs.toList.map (ev sl)
def evo (sl:Sl) (x:Option Operand):Option AV:=x.map (ev sl)
abbrev stepOp (P:Program) (H:Hints) (f:FuncId) (G:FuncId → List AV → List Row → Option Res)
  (o:Oper) (sl:Sl) (B:List Row) (K:AV → Sl → List Row → Option Res):Option Res :=
 match o.op with
 | .move x | .assign x => if Z8s H f o.dst then K (ev sl x) (weak sl x) B else K (shr (ev sl x)) sl B
 | .pick c a b => asB (ev sl c) fun t => br t (K (shr (ev sl a)) sl B) (K (shr (ev sl b)) sl B)
 | .alloc t => bz P t B fun v B => K v sl B
 | .box _ x => bxM (mzOf H f o.dst) (ev sl x) B fun v B => K v (weak sl x) B
 | .build t parts => ob (Z1I P t (parts.toList.map fun q => (q.1,ev sl q.2))) fun v => K v sl B
 | .buildSlice t len parts => ob (xlit P t len (parts.toList.map fun q => (q.1,ev sl q.2))) fun v => K (if Z8s H f o.dst then unOf v else v) sl B
 | .load t a => if Z8s H f o.dst then ob (shape P t) fun s => if s.1 = true then none else ldOwn (ev sl a) B fun v B => K v sl B
  else if ZqF H f o.dst then ob (shape P t) fun s => if s.1 = true then none else ldFz (ev sl a) B fun v B => K v sl B
  else ob (shape P t) fun s => ob (ldN s.1 s.2 (ev sl a) B) fun v => K v sl B
 | .store t a x => ob (shape P t) fun s => stN s.2 (ev sl a) (ev sl x) B fun B => K jk (weak sl x) B
 | .nilCheck x => ob (Z1J (ev sl x)) fun v => K v sl B
 | .binOp op t x y _ =>
  match y with
  | .const c => if ZyX c then ob (xnil P op t c (ev sl x)) fun v => K v sl B else ob (xbin P op t (ev sl x) (ev sl y)) fun v => K v sl B
  | _ => ob (xbin P op t (ev sl x) (ev sl y)) fun v => K v sl B
 | .unOp op _ x => ob (xun P op (ev sl x)) fun v => K v sl B
 | .convert s d x =>
  match Nat.beq s d with
  | true => ob (Zzk P s (ev sl x)) fun v => K v (weak sl x) B
  | false => ob (xcnv P s d (ev sl x)) fun v => K v sl B
 | .makeFunc (.func g) first cap => K (.clo g ((evs sl first).map nrmA) ((evs sl cap).map nrmA)) sl B
 | .slice t x lo hi mx =>
  if Z8s H f o.dst then ob (xslM (Z4P P t) (ev sl x) (evo sl lo) (evo sl hi) (evo sl mx)) fun v => K v (weak sl x) B
  else if Zdf P t then (if mx.isSome then none else ob (xslS (ev sl x) (evo sl lo) (evo sl hi)) fun v => K v sl B)
  else if mx.isSome && !hi.isSome then none else ob (xsl (Z4P P t) (ev sl x) (evo sl lo) (evo sl hi) (evo sl mx)) fun v => K v sl B
 | .fieldAddr s x fd => ob (Zci P s fd) fun off => ob (xfld off (ev sl x)) fun v => K v sl B
 | .field s x fd =>
  match P.underlying s with
  | some (.struct fields) => ob fields[fd]? fun fl => ob (shape P fl.type) fun h => ob (Zof h.1 fl.offset h.2 (ev sl x)) fun v => K v sl B
  | _ => none
 | .indexAddr t x i =>
  match P.underlying t with
  | some (.array n e) => if (P.info? e).isSome = true then ob (Zro n (sizeOf P e) (ev sl x) (ev sl i)) fun v => K v sl B else none
  | _ => ob (xidx (Z4P P t) (ev sl x) (ev sl i)) fun v => K v sl B
 | .index t x i => ob (xat P t (ev sl x) (ev sl i)) fun v => K v sl B
 | .makeMap t none => xmake P t B fun v B => K v sl B
 | .lookup t x i c => ob (Zrp P t c (ev sl x) (ev sl i) B) fun v => K v sl B
 | .mapUpdate t m k x => xupd P t (ev sl m) (ev sl k) (ev sl x) B fun B => K jk (weak sl x) B
 | .insert t m k x => xupd P t (ev sl m) (ev sl k) (ev sl x) B fun B => K jk (weak sl x) B
 | .extract x i => ob (xext i (ev sl x)) fun v => if Z8s H f o.dst then K v (weak sl x) B else K (shr v) sl B
 | .call c =>
  match c.callee with
  | .builtin .len => match c.args.toList,c.argTypes.toList with
   | [x],[t] => match mapE P t with
    | some _ => ob (Zrq (ev sl x) B) fun v => K v sl B
    | none => ob (xlen P t (ev sl x)) fun v => K v sl B
   | _,_ => none
  | .builtin .delete => match c.args.toList,c.argTypes.toList with
   | [m,k],[t,_] => xdel P t (ev sl m) (ev sl k) B fun B => K jk sl B
   | _,_ => none
  | .builtin .append => match c.args.toList,c.argTypes.toList with
   | [x,y],[t,t'] => if Zhi P t' then none else ob (if Z8s H f o.dst then Zoe (Z4P P t) (ev sl x) (ev sl y) else xapp (Z4P P t) (ev sl x) (ev sl y)) fun v => K v (weak sl x) B
   | _,_ => none
  | .builtin .max => ob (Z7J P true (evs sl c.args)) fun v => K v sl B
  | .builtin .min => ob (Z7J P false (evs sl c.args)) fun v => K v sl B
  | .value (.func g) => if (H.raw g && !distinct (tmpsOf c.args.toList)) = true then none else callQ (Zxj H f o.dst) (H.raw g) G g (evs sl c.args) B fun v B => K v (if H.raw g then weakL sl c.args.toList else sl) B
  | .value x => callV H G (ev sl x) (evs sl c.args) B fun v B => K v sl B
  | _ => none
 | _ => none
inductive Cls where
 | free | rd | ol | wr | new | pure | near | loud
 deriving DecidableEq
def Zzo (P:Program) (ts:Array TypeId):Bool :=
 ts.any fun t => match P.underlying t with
  | some (.pointer _) | some (.func ..) | some (.interface _) | some (.map ..) | some (.chan ..) | none => true
  | _ => false
def cls (P:Program) (H:Hints) (f:FuncId) (o:Oper):Cls :=
 match o.op with
 | .load .. => if Z8s H f o.dst then .ol else if ZqF H f o.dst then .loud else .rd
 | .store .. => .wr
 | .alloc _ | .box .. => .new
 | .lookup .. => .rd
 | .makeMap .. | .mapUpdate .. | .insert .. => .loud
 | .call c => match c.callee with
  | .builtin .delete => .loud
  | .builtin .len => if c.argTypes.any (fun t => (mapE P t).isSome) then .loud else .free
  | .builtin _ => .free
  | .value (.func g) => if Zxj H f o.dst then .near else if Zzo P c.argTypes || H.raw g then .loud else .pure
  | _ => .loud
 | _ => .free
inductive Ask where
 | ne (a b:Operand)
 | np (xs:List Operand)
def ZdH (o:Oper):List Ask :=
 match o.op,o.dst with
 | .call c,some d => [.np (.tmp d :: c.args.toList)]
 | .call _,none => [.ne (.const (.bool false)) (.const (.bool false))]
 | _,_ => []
def addrOf (o:Oper):Option Operand :=
 match o.op with
 | .load _ a => some a
 | .store _ a _ => some a
 | .lookup _ m _ _ => some m
 | _ => none
def Zo6 (x y:Oper):Option (List Ask) :=
 match x.dst,addrOf y with
 | some d,some a => some [.ne a (.tmp d)]
 | _,_ => none
def Zez (x y:Oper):Option (List Ask) :=
 match addrOf x,y.op with
 | some a,.call c => some (c.args.toList.map fun b => .ne a b)
 | _,_ => none
def Zca (P:Program) (H:Hints) (f:FuncId) (x y:Oper):Option (List Ask) :=
 match cls P H f x,cls P H f y with
 | .free,_ | _,.free | .rd,.rd => some []
 | .new,.rd | .new,.wr | .new,.ol => Zo6 x y
 | .rd,.new | .wr,.new | .ol,.new => Zo6 y x
 | .rd,.near | .wr,.near | .ol,.near => Zez x y
 | .near,.rd | .near,.wr | .near,.ol => Zez y x
 | .near,_ | _,.near => none
 | .pure,.pure => some (ZdH x ++ ZdH y)
 | .pure,.loud | .loud,.pure | .loud,_ | _,.loud | .new,.new => none
 | .pure,_ => some (ZdH x)
 | _,.pure => some (ZdH y)
 | _,_ => match addrOf x,addrOf y with
  | some a,some b => some [.ne a b]
  | _,_ => none
def Zls:Code → Option Nat
 | .region id _ _ => some id
 | .seq (.label _) b => Zls b
 | .seq a _ => Zls a
 | .block _ c | .loop c | .scope c => Zls c
 | _ => none
def ZbL (sl:Sl):List Nat → Sl
 | [] => []
 | t :: r => (t,get sl t) :: ZbL sl r
def Zjb:Sl → List AV
 | [] => []
 | q :: r => q.2 :: Zjb r
def gcB (m0:Nat) (vs:List AV) (B:List Row):List Row :=
 let n:=(Z1p vs).foldl (fun n i => max n (i + 1)) m0
 if (B.take n).all (fun row => below n (Z1p row)) then B.take n else B
def enter (H:Hints) (f m0:Nat) (c:Code) (k:Sl → List Row → Option Res) (sl:Sl) (B:List Row):Option Res :=
 hi (match (Zls c).bind (H.keep f) with
 | none => k sl B
 | some m => k (ZbL sl m) (gcB m0 (Zjb (ZbL sl m)) B)) callV
def ZxA:List Nat → Nat → Bool
 | [],_ => false
 | x :: r,j => match Nat.beq x j with
  | true => true
  | false => ZxA r j
abbrev udK (x:AV) (k:Option Res):Option Res :=
 match x with
 | .p (.tup []) => k
 | _ => none
abbrev guarded (ops:Array Oper) (sk:List Nat) (g:Option (Nat × Bool)) (sl:Sl) (yes no:Sl → Option Res):Option Res :=
 match g with
 | none => yes sl
 | some (j,want) =>
  match (ops[j]?).bind (·.dst) with
  | none => none
  | some d =>
   match ZxA sk j with
   | true => udK (get sl d) (no sl)
   | false =>
    asB (get sl d) fun b =>
     br b (match want with | true => yes ((d,.p (.v (.bool true))) :: sl) | false => no ((d,.p (.v (.bool true))) :: sl))
        (match want with | true => no ((d,.p (.v (.bool false))) :: sl) | false => yes ((d,.p (.v (.bool false))) :: sl))
noncomputable abbrev runOps (P:Program) (H:Hints) (f:FuncId) (G:FuncId → List AV → List Row → Option Res) (ops:Array Oper)
  (l:List Oper) (K:Sl → List Row → Option Res):Nat → List Nat → Sl → List Row → Option Res :=
 @List.rec Oper (fun _ => Nat → List Nat → Sl → List Row → Option Res) (fun _ _ sl B => K sl B) (fun o _ ih i sk sl B =>
  guarded ops sk o.guard sl
   (fun sl => stepOp P H f G o sl B fun v sl B => ih (i + 1) sk (put sl o.dst v) B)
   (fun sl => ih (i + 1) (i :: sk) (put sl o.dst ud) B)) l
def ZbB:AV → AV → Bool
 | .ptr i _,.ptr j _ => i != j
 | .ptr i _,.mp j => i != j
 | .mp i,.ptr j _ => i != j
 | .mp i,.mp j => i != j
 | .cptr _,.mp _ => true
 | .mp _,.cptr _ => true
 | .cptr _,.ptr _ _ => true
 | .ptr _ _,.cptr _ => true
 | .cptr _,.cptr _ => true
 | .ptr _ _,.p (.lst _ _) => true
 | .p (.tup []),_ => true
 | _,.p (.tup []) => true
 | _,_ => false
def force {α:Type} (n:Nat) (k:Nat → α):α:=match n with
 | 0 => k 0
 | m + 1 => k (m + 1)
def Z9y (ms:List Nat):List Edge → Nat
 | [] => 0
 | e :: es => if Region.binds .any e then 2 ^ e.on ||| (ms.getD e.on 0 ||| Z9y ms es) else Z9y ms es
def Z7V (o:Oper):Bool :=
 match o.op with
 | .alloc _ | .box .. => true
 | _ => false
def isAl (o:Oper):Bool :=
 (match o.op with | .alloc _ => true | _ => false) && o.guard.isNone && o.dst.isSome
def Zge (P:Program) (H:Hints) (f:FuncId) (m:Nat) (o:Oper):List (Nat × Oper) → Option (List Ask)
 | [] => some []
 | (i,x) :: r =>
  if m.testBit i || (Z7V x && Z7V o) then Zge P H f m o r
  else match Zca P H f x o with
   | none => none
   | some ab => match Zge P H f m o r with
    | none => none
    | some l => some (ab ++ l)
def Zgx (P:Program) (H:Hints) (f:FuncId):List Oper → Nat → List Nat → List (Nat × Oper) → List Ask → Option (List Ask)
 | [],_,_,_,asks => some asks
 | o :: os,j,ms,nf,asks => force (Z9y ms o.after.toList) fun m =>
  match cls P H f o with
  | .free => Zgx P H f os (j + 1) (ms ++ [m]) nf asks
  | _ => match Zge P H f m o nf with
   | none => none
   | some l => Zgx P H f os (j + 1) (ms ++ [m]) (nf ++ [(j,o)]) (asks ++ l)
def Z6r (xs:List AV):Bool:=(Z1p xs).isEmpty
def Z4r (sl:Sl):Ask → Bool
 | .ne a b => ZbB (ev sl a) (ev sl b)
 | .np xs => Z6r (xs.map (ev sl))
noncomputable abbrev askAll (sl:Sl) (l:List Ask) (k:Option Res):Option Res :=
 @List.rec Ask (fun _ => Option Res) k (fun q _ ih => grd (Z4r sl q) ih) l
def Za5 (B:List Row) (id off:Nat):Option (Row × Nat × List PV) :=
 ob B[id]? fun row => if (mdOf row).isSome = true then none else ob row[off]? fun c =>
  match c with
  | .p (.ml n xs) => some (row,n,xs)
  | _ => none
def elLd (ag:Bool) (k fo:Nat) (cs:List PV):Option AV :=
 if ag = true then (if fo + k ≤ cs.length then some (.p (.agg ((cs.drop fo).take k))) else none) else ob cs[fo]? fun c => some (.p c)
def setP (cs:List PV) (off:Nat):List PV → List PV
 | [] => cs
 | c :: r => setP (cs.set off c) (off + 1) r
def elSt (k fo:Nat) (x:AV) (e:PV):Option PV :=
 if Z5a x = true then none else ob (allP (Z2k x)) fun ps =>
  if ps.length = k ∧ fo + k ≤ (Z1r e).length then
   match e with
   | .agg cs => some (.agg (setP cs fo (ps.map nrmP)))
   | _ => match ps with
    | [c] => some (nrmP c)
    | _ => none
  else none
def quiet (H:Hints) (f:FuncId) (o:Oper):Bool :=
 match o.op with
 | .load .. => !Z8s H f o.dst && !ZqF H f o.dst
 | .binOp .. | .unOp .. | .field .. | .fieldAddr .. | .indexAddr .. | .nilCheck .. | .index .. | .build .. => true
 | .call c => match c.callee with
  | .builtin .len => true
  | _ => false
 | _ => false
def isEp:AV → Bool
 | .p (.jnk (.ep ..)) => true
 | _ => false
def Z2g:AV → AV
 | .p (.jnk _) => jk
 | x => x
def noAl:Sl → Sl
 | [] => []
 | (t,x) :: r => (t,Z2g x) :: noAl r
def ldA (er ag:Bool) (k:Nat) (x:AV) (B:List Row):Option AV :=
 match x with
 | .p (.jnk (.ep id off _ i fo)) =>
  match er with
  | true => ob (Za5 B id off) fun q => ob q.2.2[i]? fun e => elLd ag k fo (Z1r e)
  | false => none
 | x => ob (ldN ag k x B) fun v => some (Z2g v)
def alA (ag:Bool) (x:AV) (B:List Row):Option AV :=
 match ag,x with
 | false,.ptr id off => ob (Za5 B id off) fun q => some (.p (.jnk (.al id off q.2.1 q.2.2.length)))
 | _,_ => none
def ixA (n:Nat) (x i:AV):Option AV :=
 match x with
 | .p (.jnk (.al id off m len)) => asInt i fun j => if 0 ≤ j ∧ j < len ∧ m = n ∧ 0 < m then some (.p (.jnk (.ep id off m j.toNat 0))) else none
 | x => ob (xidx n x i) fun v => some (Z2g v)
def flA (k:Nat) (x:AV):Option AV :=
 match x with
 | .p (.jnk (.ep id off n i fo)) => some (.p (.jnk (.ep id off n i (fo + k))))
 | x => ob (xfld k x) fun v => some (Z2g v)
def ncA (x:AV):Option AV:=if isEp x = true then some x else ob (Z1J x) fun v => some (Z2g v)
def stEl (n:Nat) (a x:AV) (B:List Row):Option (List Row) :=
 match a with
 | .p (.jnk (.ep id off _ i fo)) => ob (Za5 B id off) fun q => ob q.2.2[i]? fun e => ob (elSt n fo x e) fun e' => some (B.set id (q.1.set off (.p (.ml q.2.1 (q.2.2.set i e')))))
 | _ => none
abbrev stK (P:Program) (H:Hints) (f:FuncId) (G:FuncId → List AV → List Row → Option Res) (er:Bool) (o:Oper) (sl:Sl) (B:List Row) (K:AV → List Row → Option Res):Option Res :=
 match o.op with
 | .move x | .assign x => K (shr (ev sl x)) B
 | .store t a x => ob (shape P t) fun s => ob (stEl s.2 (ev sl a) (ev sl x) B) fun B => K jk B
 | .load t a =>
  match ZsW H f o.dst with
  | true => ob (shape P t) fun s => ob (alA s.1 (ev sl a) B) fun v => K v B
  | false => ob (shape P t) fun s => ob (ldA er s.1 s.2 (ev sl a) B) fun v => K v B
 | .indexAddr t x i =>
  match P.underlying t with
  | some (.array _ _) => stepOp P H f G o sl B fun v _ B => K (Z2g v) B
  | _ => ob (ixA (Z4P P t) (ev sl x) (ev sl i)) fun v => K v B
 | .fieldAddr s x fd => ob (Zci P s fd) fun k => ob (flA k (ev sl x)) fun v => K v B
 | .nilCheck x => ob (ncA (ev sl x)) fun v => K v B
 | _ => stepOp P H f G o sl B fun v _ B => K (Z2g v) B
def isA (H:Hints) (f:FuncId) (draw:Bool) (o:Oper):Bool :=
 match o.op with
 | .move _ | .assign _ => !Z8s H f o.dst
 | .store .. => draw
 | _ => quiet H f o
noncomputable abbrev stepA (P:Program) (H:Hints) (f:FuncId) (G:FuncId → List AV → List Row → Option Res) (draw er:Bool) (o:Oper) (k:Sl → List Row → Option Res) (sl:Sl) (B:List Row):Option Res :=
 match o.guard with
 | some _ => none
 | none =>
  match isA H f draw o with
  | true => stK P H f G er o sl B fun v B => k (put sl o.dst v) B
  | false =>
   match draw with
   | true => none
   | false => stepOp P H f G o sl B fun v sl B => k (put (noAl sl) o.dst (Z2g v)) B
noncomputable abbrev runA (P:Program) (H:Hints) (f:FuncId) (G:FuncId → List AV → List Row → Option Res) (draw er:Bool)
  (l:List Oper) (K:Sl → List Row → Option Res):Sl → List Row → Option Res :=
 @List.rec Oper (fun _ => Sl → List Row → Option Res) (fun sl B => K sl B) (fun o _ ih sl B => stepA P H f G draw er o ih sl B) l
def Zbx (o:Oper):Bool :=
 match o.op with
 | .store .. => true
 | _ => false
def erOf (draw:Bool) (ops:List Oper):Bool :=
 match draw with
 | false => true
 | true => !ops.any Zbx
def ZEs (H:Hints) (f:FuncId) (ops:List Oper):Bool :=
 match H.al f with
 | [] => false
 | _ => ops.any fun o => ZsW H f o.dst
noncomputable abbrev plainRegion (P:Program) (H:Hints) (f:FuncId) (G:FuncId → List AV → List Row → Option Res) (ops:Array Oper) (draw:Bool)
  (K:Sl → List Row → Option Res) (sl:Sl) (B:List Row):Option Res :=
 match draw with
 | false => runOps P H f G ops ops.toList K 0 [] sl B
 | true =>
  match Zgx P H f ops.toList 0 [] [] [] with
  | none => none
  | some l => runOps P H f G ops ops.toList (fun sl B => askAll sl l (K sl B)) 0 [] sl B
noncomputable def runRegion (P:Program) (H:Hints) (f:FuncId) (G:FuncId → List AV → List Row → Option Res) (ops:Array Oper) (draw:Bool)
  (K:Sl → List Row → Option Res) (sl:Sl) (B:List Row):Option Res :=
 match ZEs H f ops.toList with
 | true => runA P H f G draw (erOf draw ops.toList) ops.toList K (noAl sl) B
 | false => plainRegion P H f G ops draw K sl B
def kblk (id:Nat) (K:Kont):Kont:=fun e sl B =>
 hi (match e with
 | .exit i => if i = id then K .normal sl B else K (.exit i) sl B
 | e => K e sl B) callV
def kseq (H:Hints) (f m0:Nat) (b:Code) (run:Sl → List Row → Option Res) (K:Kont):Kont:=fun e sl B =>
 hi (match e with
 | .normal => enter H f m0 b run sl B
 | e => K e sl B) callV
noncomputable def exec (P:Program) (H:Hints) (f m0:Nat) (G:FuncId → List AV → List Row → Option Res)
  (LP:Nat → Nat → Code → Kont → Sl → List Row → Option Res) (c:Code):Kont → Sl → List Row → Option Res :=
 @Code.rec (fun _ => Kont → Sl → List Row → Option Res)
  (fun K => K .normal)
  (fun _ ops draw K sl B => mk (runRegion P H f G ops draw (K .normal) sl B))
  (fun _ b iha ihb K => iha (kseq H f m0 b (ihb K) K))
  (fun c a b iha ihb K sl B => asB (ev sl c) fun t => br t (enter H f m0 a (iha K) sl B) (enter H f m0 b (ihb K) sl B))
  (fun id _ ih K => ih (kblk id K))
  (fun c _ K sl B => lp (LP f m0 c K sl B))
  (fun _ _ _ _ _ _ _ _ _ => none)
  (fun id K => K (.exit id))
  (fun _ ih K => ih K)
  (fun _ K => K .normal)
  (fun _ _ _ _ => none)
  (fun K => K .ret)
  (fun _ _ _ _ => none)
  c
def kloop (H:Hints) (f m0:Nat) (c:Code) (again:Sl → List Row → Option Res) (K:Kont):Kont:=fun e sl B =>
 hi (match e with
 | .normal => enter H f m0 c (fun sl B => lp (again sl B)) sl B
 | e => K e sl B) callV
def Zrf (P:Program) (sl:Sl) (B:List Row):ResultVar → Option AV
 | .tmp t => some (get sl t)
 | .cell a t => ob (shape P t) fun s => ldN s.1 s.2 (get sl a) B
def ZiA (P:Program) (sl:Sl) (B:List Row):List ResultVar → Option (List AV)
 | [] => some []
 | r :: rs => ob (Zrf P sl B r) fun v => ob (ZiA P sl B rs) fun vs => some (v :: vs)
abbrev kret (P:Program) (H:Hints) (f:FuncId) (rs:Array ResultVar):Kont:=fun e sl B =>
 match e with
 | .exit _ => none
 | _ => ob (ZiA P sl B rs.toList) fun vs =>
  let r:=match vs with
   | [v] => v
   | vs => Z98 (vs.map shr)
  some ((if H.raw f then r else nrmA r),B)
def number:Nat → List AV → Sl
 | _,[] => []
 | i,x :: r => (i,x) :: number (i + 1) r
noncomputable def body (P:Program) (X:FuncId → Option (List AV → List Row → Option Res)) (H:Hints) (G:FuncId → List AV → List Row → Option Res)
  (LP:Nat → Nat → Code → Kont → Sl → List Row → Option Res) (f:FuncId) (args:List AV) (B:List Row):Option Res :=
 match X f with
 | some m => m args B
 | none =>
  match P.funcs[f]? with
  | none => none
  | some fn =>
   match fn.body with
   | none => none
   | some c => if args.length ≤ fn.ntmps then
     exec P H f B.length G LP c (kret P H f fn.results) (number 0 args) B else none
noncomputable def evlp (P:Program) (X:FuncId → Option (List AV → List Row → Option Res)) (H:Hints):Nat →
  (FuncId → List AV → List Row → Option Res) × (Nat → Nat → Code → Kont → Sl → List Row → Option Res)
 | 0 => (fun _ _ _ => none,fun _ _ _ _ _ _ => none)
 | n + 1 =>
  let r:=evlp P X H n
  (body P X H r.1 r.2,fun f m0 c K sl B => exec P H f m0 r.1 r.2 c (kloop H f m0 c (r.2 f m0 c K) K) sl B)
end Go.Abs
end
section
namespace Go.Abs
open Go
noncomputable def lim' {α:Type} (g:Nat → Option α):Option α :=
 open Classical in if h:∃ r,∃ n,∀ m,n ≤ m → g m = some r then some h.choose else none
theorem Zgb {α:Type} {g:Nat → Option α} {r:α}:lim' g = some r ↔ ∃ n,∀ m,n ≤ m → g m = some r:=by
 unfold lim'
 constructor
 ·intro h
  split at h
  ·rename_i hh
   have:=hh.choose_spec
   simp only [q1_] at h
   rw [h] at this
   exact this
  ·simp at h
 ·intro h
  have hh:∃ r,∃ n,∀ m,n ≤ m → g m = some r:=⟨r,h⟩
  rw [dif_pos hh]
  obtain ⟨n,hn⟩:=h
  obtain ⟨n',hn'⟩:=hh.choose_spec
  have a:=hn (max n n') (Nat.le_max_left _ _)
  have b:=hn' (max n n') (Nat.le_max_right _ _)
  rw [a] at b
  exact b.symm
def Ap {α:Type} (x:Option α) (xm:Nat → Option α):Prop:=∀ r,x = some r → ∃ n,∀ m,n ≤ m → xm m = some r
theorem Ap.const {α:Type} (x:Option α):Ap x (fun _ => x):=fun _ h => ⟨0,fun _ _ => h⟩
theorem Ap.none {α:Type} (xm:Nat → Option α):Ap Option.none xm:=fun _ h => by cases h
theorem Ap.ob2 {α β:Type} {x:Option α} {xm:Nat → Option α} {k:α → Option β} {km:Nat → α → Option β} (hx:Ap x xm) (hk:∀ a,Ap (k a) (fun m => km m a)) :
  Ap (ob x k) (fun m => ob (xm m) (km m)):=by
 intro r h
 cases hxv:x with
 | none => rw [hxv] at h; simp [ob] at h
 | some a =>
  rw [hxv] at h
  simp only [ob] at h
  obtain ⟨n,hn⟩:=hx a hxv
  obtain ⟨n',hn'⟩:=hk a r h
  refine ⟨max n n',fun m hm => ?_⟩
  show Go.Abs.ob (xm m) (km m) = some r
  rw [hn m (by omega)]
  exact hn' m (by omega)
theorem Ap.ob {α β:Type} (x:Option α) {k:α → Option β} {km:Nat → α → Option β} (hk:∀ a,Ap (k a) (fun m => km m a)) :
  Ap (ob x k) (fun m => ob x (km m)):=Ap.ob2 (Ap.const x) hk
theorem Ap.ite {β:Type} {c:Prop} [Decidable c] {a b:Option β} {am bm:Nat → Option β} (ha:Ap a am) (hb:Ap b bm):Ap (if c then a else b) (fun m => if c then am m else bm m):=by
 by_cases h:c
 ·simp only [if_pos h]; exact ha
 ·simp only [if_neg h]; exact hb
theorem Ap.br {β:Type} (t:Bool) {a b:Option β} {am bm:Nat → Option β} (ha:Ap a am) (hb:Ap b bm):Ap (br t a b) (fun m => br t (am m) (bm m)):=Ap.ite ha hb
theorem Ap.grd {β:Type} (t:Bool) {a:Option β} {am:Nat → Option β} (ha:Ap a am):Ap (grd t a) (fun m => grd t (am m)):=Ap.ite ha (Ap.const _)
theorem Ap.asB {β:Type} (x:AV) {k:Bool → Option β} {km:Nat → Bool → Option β} (hk:∀ b,Ap (k b) (fun m => km m b)):Ap (asB x k) (fun m => asB x (km m)):=by
 unfold Go.Abs.asB hi
 split
 ·exact hk _
 ·exact Ap.none _
abbrev GF:=FuncId → List AV → List Row → Option Res
abbrev LF:=Nat → Nat → Code → Kont → Sl → List Row → Option Res
abbrev KV:=AV → List Row → Option Res
theorem Ap.bx (x:AV) (B:List Row) {k:KV} {km:Nat → KV} (hk:∀ v B,Ap (k v B) (fun m => km m v B)):Ap (bx x B k) (fun m => bx x B (km m)):=Ap.ite (Ap.const _) (hk _ _)
theorem Ap.bxM (l:List (Nat × Nat)) (x:AV) (B:List Row) {k:KV} {km:Nat → KV} (hk:∀ v B,Ap (k v B) (fun m => km m v B)):Ap (bxM l x B k) (fun m => bxM l x B (km m)):=by
 cases l with
 | nil => exact Ap.bx x B hk
 | cons q l => exact Ap.ite (Ap.const _) (hk _ _)
theorem Ap.bz (P:Program) (t:TypeId) (B:List Row) {k:KV} {km:Nat → KV} (hk:∀ v B,Ap (k v B) (fun m => km m v B)):Ap (bz P t B k) (fun m => bz P t B (km m)):=Ap.ob _ fun _ => Ap.bx _ _ hk
theorem Ap.stN (n:Nat) (a x:AV) (B:List Row) {k:List Row → Option Res} {km:Nat → List Row → Option Res} (hk:∀ B,Ap (k B) (fun m => km m B)) :
  Ap (stN n a x B k) (fun m => stN n a x B (km m)):=by
 unfold Go.Abs.stN
 split
 ·exact Ap.ob _ fun row => Ap.ite (hk _) (Ap.const _)
 ·exact Ap.none _
theorem Ap.ldOwn (x:AV) (B:List Row) {k:KV} {km:Nat → KV} (hk:∀ v B,Ap (k v B) (fun m => km m v B)):Ap (ldOwn x B k) (fun m => ldOwn x B (km m)):=by
 unfold Go.Abs.ldOwn
 split
 ·exact Ap.ob _ fun row => Ap.ite (Ap.const _) (Ap.ob _ fun c => hk _ _)
 ·exact Ap.none _
theorem Ap.ldFz (x:AV) (B:List Row) {k:KV} {km:Nat → KV} (hk:∀ v B,Ap (k v B) (fun m => km m v B)):Ap (ldFz x B k) (fun m => ldFz x B (km m)):=by
 unfold Go.Abs.ldFz
 split
 ·refine Ap.ob _ fun row => Ap.ite (Ap.const _) (Ap.ob _ fun c => ?_)
  split
  ·exact hk _ _
  ·exact Ap.none _
 ·exact Ap.none _
theorem Ap.asK (x:AV) {k:Int → Option Res} {km:Nat → Int → Option Res} (hk:∀ n,Ap (k n) (fun m => km m n)):Ap (asK x k) (fun m => asK x (km m)):=by
 unfold Go.Abs.asK
 split
 ·exact hk _
 ·exact Ap.none _
theorem Ap.xupd (P:Program) (t:TypeId) (a b x:AV) (B:List Row) {k:List Row → Option Res} {km:Nat → List Row → Option Res} (hk:∀ B,Ap (k B) (fun m => km m B)):Ap (xupd P t a b x B k) (fun m => xupd P t a b x B (km m)) :=
 Ap.ob _ fun _ => Ap.ob _ fun _ => Ap.asK _ fun _ => Ap.ob _ fun _ => Ap.ite (Ap.const _) (hk _)
theorem Ap.xdel (P:Program) (t:TypeId) (a b:AV) (B:List Row) {k:List Row → Option Res} {km:Nat → List Row → Option Res} (hk:∀ B,Ap (k B) (fun m => km m B)):Ap (xdel P t a b B k) (fun m => xdel P t a b B (km m)) :=
 Ap.ob _ fun _ => Ap.ob _ fun _ => Ap.asK _ fun _ => hk _
theorem Ap.xmake (P:Program) (t:TypeId) (B:List Row) {k:KV} {km:Nat → KV} (hk:∀ v B,Ap (k v B) (fun m => km m v B)):Ap (xmake P t B k) (fun m => xmake P t B (km m)):=Ap.ob _ fun _ => hk _ _
theorem Ap.callS (raw:Bool) {G:GF} {Gm:Nat → GF} (hG:∀ f a B,Ap (G f a B) (fun m => Gm m f a B)) (g:FuncId) (args:List AV) (B:List Row) {k:KV} {km:Nat → KV}
  (hk:∀ v B,Ap (k v B) (fun m => km m v B)):Ap (callS raw G g args B k) (fun m => callS raw (Gm m) g args B (km m)):=by
 unfold Go.Abs.callS
 refine Ap.ite (Ap.const _) (Ap.ob2 (hG _ _ _) fun r => Ap.ite (hk _ _) (hk _ _))
theorem Ap.callQ (near raw:Bool) {G:GF} {Gm:Nat → GF} (hG:∀ f a B,Ap (G f a B) (fun m => Gm m f a B)) (g:FuncId) (args:List AV) (B:List Row) {k:KV} {km:Nat → KV}
  (hk:∀ v B,Ap (k v B) (fun m => km m v B)):Ap (callQ near raw G g args B k) (fun m => callQ near raw (Gm m) g args B (km m)):=by
 cases near with
 | false => exact Ap.callS raw hG g args B hk
 | true => exact Ap.grd _ (Ap.callS raw hG g args B fun _ _ => Ap.grd _ (hk _ _))
theorem Ap.callV (H:Hints) {G:GF} {Gm:Nat → GF} (hG:∀ f a B,Ap (G f a B) (fun m => Gm m f a B)) (x:AV) (args:List AV) (B:List Row) {k:KV} {km:Nat → KV}
  (hk:∀ v B,Ap (k v B) (fun m => km m v B)):Ap (callV H G x args B k) (fun m => callV H (Gm m) x args B (km m)):=by
 unfold Go.Abs.callV
 split
 ·exact Ap.ite (Ap.const _) (Ap.callS false hG _ _ _ hk)
 ·exact Ap.none _
section
variable {P:Program} {H:Hints} {f:FuncId} {G:GF} {Gm:Nat → GF} (hG:∀ f a B,Ap (G f a B) (fun m => Gm m f a B))
include hG
theorem Ap.stepOp (o:Oper) (sl:Sl) (B:List Row) {K:AV → Sl → List Row → Option Res} {Km:Nat → AV → Sl → List Row → Option Res}
  (hK:∀ v sl B,Ap (K v sl B) (fun m => Km m v sl B)):Ap (stepOp P H f G o sl B K) (fun m => stepOp P H f (Gm m) o sl B (Km m)):=by
 unfold Go.Abs.stepOp
 repeat' (first
  | exact hK _ _ _
  | exact Ap.none _
  | exact Ap.const _
  | (refine Ap.callQ _ _ hG _ _ _ fun _ _ => ?_)
  | (refine Ap.callV _ hG _ _ _ fun _ _ => ?_)
  | (refine Ap.bz _ _ _ fun _ _ => ?_)
  | (refine Ap.xupd _ _ _ _ _ _ fun _ => ?_)
  | (refine Ap.xdel _ _ _ _ _ fun _ => ?_)
  | (refine Ap.xmake _ _ _ fun _ _ => ?_)
  | (refine Ap.ob _ fun _ => ?_)
  | (refine Ap.bx _ _ fun _ _ => ?_)
  | (refine Ap.bxM _ _ _ fun _ _ => ?_)
  | (refine Ap.stN _ _ _ _ fun _ => ?_)
  | (refine Ap.ldOwn _ _ fun _ _ => ?_)
  | (refine Ap.ldFz _ _ fun _ _ => ?_)
  | (refine Ap.asB _ fun _ => ?_)
  | (refine Ap.br _ ?_ ?_)
  | (refine Ap.ite ?_ ?_)
  | split)
omit hG in
theorem Ap.guarded (ops:Array Oper) (sk:List Nat) (g:Option (Nat × Bool)) (sl:Sl) {yes no:Sl → Option Res} {ym nm:Nat → Sl → Option Res}
  (hy:∀ sl,Ap (yes sl) (fun m => ym m sl)) (hn:∀ sl,Ap (no sl) (fun m => nm m sl)):Ap (guarded ops sk g sl yes no) (fun m => guarded ops sk g sl (ym m) (nm m)):=by
 unfold Go.Abs.guarded udK
 repeat' (first
  | exact hy _
  | exact hn _
  | exact Ap.none _
  | (refine Ap.asB _ fun _ => ?_)
  | (refine Ap.br _ ?_ ?_)
  | (refine Ap.ite ?_ ?_)
  | split)
theorem Ap.runOps (ops:Array Oper) {K:Sl → List Row → Option Res} {Km:Nat → Sl → List Row → Option Res} (hK:∀ sl B,Ap (K sl B) (fun m => Km m sl B)) (l:List Oper) :
  ∀ (i:Nat) (sk:List Nat) (sl:Sl) (B:List Row),Ap (runOps P H f G ops l K i sk sl B) (fun m => runOps P H f (Gm m) ops l (Km m) i sk sl B):=by
 induction l with
 | nil => exact fun _ _ => hK
 | cons o os ih =>
  intro i sk sl B
  have h:=Ap.guarded ops sk o.guard sl (yes:=fun sl => Go.Abs.stepOp P H f G o sl B fun v sl B => Go.Abs.runOps P H f G ops os K (i + 1) sk (put sl o.dst v) B)
   (no:=fun sl => Go.Abs.runOps P H f G ops os K (i + 1) (i :: sk) (put sl o.dst ud) B) (ym:=fun m sl => Go.Abs.stepOp P H f (Gm m) o sl B fun v sl B => Go.Abs.runOps P H f (Gm m) ops os (Km m) (i + 1) sk (put sl o.dst v) B)
   (nm:=fun m sl => Go.Abs.runOps P H f (Gm m) ops os (Km m) (i + 1) (i :: sk) (put sl o.dst ud) B) (fun sl => Ap.stepOp hG o sl B fun v sl B => ih _ _ _ _) (fun sl => ih _ _ _ _)
  exact h
omit hG in
theorem Ap.askAll (sl:Sl) {k:Option Res} {km:Nat → Option Res} (hk:Ap k km) (l:List Ask):Ap (askAll sl l k) (fun m => askAll sl l (km m)):=by
 induction l with
 | nil => exact hk
 | cons q r ih => exact Ap.grd _ ih
theorem Ap.stK (er:Bool) (o:Oper) (sl:Sl) (B:List Row) {K:AV → List Row → Option Res} {Km:Nat → AV → List Row → Option Res} (hK:∀ v B,Ap (K v B) (fun m => Km m v B)):Ap (stK P H f G er o sl B K) (fun m => stK P H f (Gm m) er o sl B (Km m)):=by
 have hs:Ap (Go.Abs.stepOp P H f G o sl B fun v _ B => K (Z2g v) B) (fun m => Go.Abs.stepOp P H f (Gm m) o sl B fun v _ B => Km m (Z2g v) B):=Ap.stepOp hG o sl B fun _ _ _ => hK _ _
 unfold Go.Abs.stK
 repeat' (first
  | exact hs
  | exact hK _ _
  | exact Ap.const _
  | (refine Ap.ob _ fun _ => ?_)
  | (refine Ap.ite ?_ ?_)
  | split)
theorem Ap.stepA (draw er:Bool) (o:Oper) {k:Sl → List Row → Option Res} {km:Nat → Sl → List Row → Option Res} (hk:∀ sl B,Ap (k sl B) (fun m => km m sl B)) (sl:Sl) (B:List Row) :
  Ap (stepA P H f G draw er o k sl B) (fun m => stepA P H f (Gm m) draw er o (km m) sl B):=by
 unfold Go.Abs.stepA
 split
 ·exact Ap.const _
 ·split
  ·exact Ap.stK hG er o sl B fun v B => hk _ _
  ·cases draw with
   | true => exact Ap.const _
   | false => exact Ap.stepOp hG o sl B fun v sl B => hk _ _
theorem Ap.runA (draw er:Bool) {K:Sl → List Row → Option Res} {Km:Nat → Sl → List Row → Option Res} (hK:∀ sl B,Ap (K sl B) (fun m => Km m sl B)) (l:List Oper) :
  ∀ (sl:Sl) (B:List Row),Ap (runA P H f G draw er l K sl B) (fun m => runA P H f (Gm m) draw er l (Km m) sl B):=by
 induction l with
 | nil => exact hK
 | cons o os ih => exact fun sl B => Ap.stepA hG draw er o ih sl B
theorem Ap.runRegion (ops:Array Oper) (draw:Bool) {K:Sl → List Row → Option Res} {Km:Nat → Sl → List Row → Option Res} (hK:∀ sl B,Ap (K sl B) (fun m => Km m sl B))
  (sl:Sl) (B:List Row):Ap (runRegion P H f G ops draw K sl B) (fun m => runRegion P H f (Gm m) ops draw (Km m) sl B):=by
 unfold Go.Abs.runRegion
 split
 ·exact Ap.runA hG draw _ hK _ _ _
 unfold Go.Abs.plainRegion
 cases draw with
 | false => exact Ap.runOps hG ops hK _ _ _ _ _
 | true =>
  simp only
  split
  ·exact Ap.none _
  ·exact Ap.runOps hG ops (fun sl B => Ap.askAll sl (hK sl B) _) _ _ _ _ _
end
theorem Ap.enter {H:Hints} {f m0:Nat} (c:Code) {k:Sl → List Row → Option Res} {km:Nat → Sl → List Row → Option Res} (hk:∀ sl B,Ap (k sl B) (fun m => km m sl B))
  (sl:Sl) (B:List Row):Ap (enter H f m0 c k sl B) (fun m => enter H f m0 c (km m) sl B):=by
 unfold Go.Abs.enter hi
 split
 ·exact hk _ _
 ·exact hk _ _
def ApK (K:Kont) (Km:Nat → Kont):Prop:=∀ e sl B,Ap (K e sl B) (fun m => Km m e sl B)
def ApL (LP:LF) (LPm:Nat → LF):Prop:=∀ f m0 c K Km,ApK K Km → ∀ sl B,Ap (LP f m0 c K sl B) (fun m => LPm m f m0 c (Km m) sl B)
theorem ApK.kblk {K:Kont} {Km:Nat → Kont} (hK:ApK K Km) (id:Nat):ApK (kblk id K) (fun m => kblk id (Km m)):=by
 intro e sl B
 cases e with
 | exit i => exact Ap.ite (hK _ _ _) (hK _ _ _)
 | normal => exact hK _ _ _
 | ret => exact hK _ _ _
theorem ApK.kloop {H:Hints} {f m0:Nat} {c:Code} {again:Sl → List Row → Option Res} {am:Nat → Sl → List Row → Option Res} (ha:∀ sl B,Ap (again sl B) (fun m => am m sl B))
  {K:Kont} {Km:Nat → Kont} (hK:ApK K Km):ApK (kloop H f m0 c again K) (fun m => kloop H f m0 c (am m) (Km m)):=by
 intro e sl B
 cases e with
 | normal => exact Ap.enter c ha _ _
 | exit i => exact hK _ _ _
 | ret => exact hK _ _ _
theorem Ap.exec {P:Program} {H:Hints} {f m0:Nat} {G:GF} {Gm:Nat → GF} (hG:∀ f a B,Ap (G f a B) (fun m => Gm m f a B)) {LP:LF} {LPm:Nat → LF} (hL:ApL LP LPm) (c:Code) :
  ∀ (K:Kont) (Km:Nat → Kont),ApK K Km → ∀ sl B,Ap (exec P H f m0 G LP c K sl B) (fun m => exec P H f m0 (Gm m) (LPm m) c (Km m) sl B):=by
 induction c with
 | skip => intro K Km hK sl B; exact hK _ _ _
 | region id ops draw => intro K Km hK sl B; exact Ap.runRegion hG ops draw (fun sl B => hK _ sl B) _ _
 | seq a b iha ihb =>
  intro K Km hK sl B
  refine iha _ _ ?_ sl B
  intro e sl B
  cases e with
  | normal => exact Ap.enter b (fun sl B => ihb K Km hK sl B) _ _
  | exit id => exact hK _ _ _
  | ret => exact hK _ _ _
 | cond c a b iha ihb =>
  intro K Km hK sl B
  exact Ap.asB _ fun t => Ap.br t (Ap.enter a (fun sl B => iha K Km hK sl B) _ _) (Ap.enter b (fun sl B => ihb K Km hK sl B) _ _)
 | block id c ih => intro K Km hK sl B; exact ih _ _ (hK.kblk id) sl B
 | loop c _ => intro K Km hK sl B; exact hL f m0 c K Km hK sl B
 | exit id => intro K Km hK sl B; exact hK _ _ _
 | scope c ih => intro K Km hK sl B; exact ih _ _ hK sl B
 | label l => intro K Km hK sl B; exact hK _ _ _
 | ret => intro K Km hK sl B; exact hK _ _ _
 | _ => intro K Km hK sl B; exact Ap.none _
theorem ApK.kret (P:Program) (H:Hints) (f:FuncId) (rs:Array ResultVar):ApK (kret P H f rs) (fun _ => kret P H f rs):=fun _ _ _ => Ap.const _
theorem Ap.body {P:Program} {X:FuncId → Option (List AV → List Row → Option Res)} {H:Hints} {G:GF} {Gm:Nat → GF} (hG:∀ f a B,Ap (G f a B) (fun m => Gm m f a B))
  {LP:LF} {LPm:Nat → LF} (hL:ApL LP LPm) (f:FuncId) (args:List AV) (B:List Row):Ap (body P X H G LP f args B) (fun m => body P X H (Gm m) (LPm m) f args B):=by
 unfold Go.Abs.body
 repeat' (first
  | exact Ap.none _
  | exact Ap.const _
  | exact Ap.exec hG hL _ _ _ (ApK.kret P H f _) _ _
  | (refine Ap.ite ?_ ?_)
  | split)
section
variable (P:Program) (X:FuncId → Option (List AV → List Row → Option Res)) (H:Hints)
theorem ZnO:∀ n,(∀ f a B,Ap ((evlp P X H n).1 f a B) (fun m => (evlp P X H m).1 f a B)) ∧ ApL (evlp P X H n).2 (fun m => (evlp P X H m).2)
 | 0 => ⟨fun _ _ _ => Ap.none _,fun _ _ _ _ _ _ _ _ => Ap.none _⟩
 | n + 1 => by
  obtain ⟨h1,h2⟩:=ZnO n
  refine ⟨fun f a B r h => ?_,fun f m0 c K Km hK sl B r h => ?_⟩
  ·obtain ⟨N,hN⟩:=Ap.body h1 h2 f a B r h
   refine ⟨N + 1,fun m hm => ?_⟩
   obtain ⟨m,rfl⟩:∃ m',m = m' + 1:=⟨m - 1,by omega⟩
   exact hN m (by omega)
  ·have hs:ApK K (fun m => Km (m + 1)):=fun e sl B r h => by
    obtain ⟨N,hN⟩:=hK e sl B r h
    exact ⟨N,fun m hm => hN (m + 1) (by omega)⟩
   obtain ⟨N,hN⟩:=Ap.exec (H:=H) (f:=f) (m0:=m0) h1 h2 c _ _ (ApK.kloop (fun sl B => h2 f m0 c K _ hs sl B) hs) sl B r h
   refine ⟨N + 1,fun m hm => ?_⟩
   obtain ⟨m,rfl⟩:∃ m',m = m' + 1:=⟨m - 1,by omega⟩
   exact hN m (by omega)
theorem ZEt:∀ n,ApL (evlp P X H n).2 (fun _ => (evlp P X H n).2)
 | 0 => fun _ _ _ _ _ _ _ _ => Ap.none _
 | n + 1 => by
  intro f m0 c K Km hK sl B r h
  have ih:=ZEt n
  exact Ap.exec (H:=H) (f:=f) (m0:=m0) (fun f a B => Ap.const _) ih c _ _ (ApK.kloop (fun sl B => ih f m0 c K _ hK sl B) hK) sl B r h
noncomputable def E (f:FuncId) (a:List AV) (B:List Row):Option Res:=lim' fun n => (evlp P X H n).1 f a B
noncomputable def L (f m0:Nat) (c:Code) (K:Kont) (sl:Sl) (B:List Row):Option Res:=lim' fun n => (evlp P X H n).2 f m0 c K sl B
theorem E_of {n f a B r} (h:(evlp P X H n).1 f a B = some r):E P X H f a B = some r:=Zgb.2 ((ZnO P X H n).1 f a B r h)
theorem L_of {n f m0 c K sl B r} (h:(evlp P X H n).2 f m0 c K sl B = some r):L P X H f m0 c K sl B = some r :=
 Zgb.2 ((ZnO P X H n).2 f m0 c K (fun _ => K) (fun _ _ _ => Ap.const _) sl B r h)
theorem E_to {f a B r} (h:E P X H f a B = some r):∃ n,(evlp P X H n).1 f a B = some r:=let ⟨n,hn⟩:=Zgb.1 h; ⟨n,hn n (Z2x _)⟩
theorem L_to {f m0 c K sl B r} (h:L P X H f m0 c K sl B = some r):∃ n,(evlp P X H n).2 f m0 c K sl B = some r:=let ⟨n,hn⟩:=Zgb.1 h; ⟨n,hn n (Z2x _)⟩
theorem G_E (n):∀ f a B,Ap ((evlp P X H n).1 f a B) (fun _ => E P X H f a B):=fun _ _ _ _ h => ⟨0,fun _ _ => E_of P X H h⟩
theorem L_L (n):ApL (evlp P X H n).2 (fun _ => L P X H):=fun f m0 c K Km hK sl B r h => by
 obtain ⟨N,hN⟩:=ZEt P X H n f m0 c K Km hK sl B r h
 exact ⟨N,fun m hm => L_of P X H (hN m hm)⟩
theorem E_G:∀ f a B,Ap (E P X H f a B) (fun m => (evlp P X H m).1 f a B):=fun _ _ _ _ h => Zgb.1 h
theorem LL_:ApL (L P X H) (fun m => (evlp P X H m).2):=fun f m0 c K Km hK sl B r h => by
 obtain ⟨n,hn⟩:=L_to P X H h
 exact (ZnO P X H n).2 f m0 c K Km hK sl B r hn
theorem ZCr {α:Type} {x y:Option α} (h:∀ r,x = some r ↔ y = some r):x = y:=by
 cases x with
 | none => cases y with
  | none => rfl
  | some b => exact ((h b).2 rfl)
 | some a => exact ((h a).1 rfl).symm
theorem E_eq (f:FuncId) (a:List AV) (B:List Row):E P X H f a B = body P X H (E P X H) (L P X H) f a B:=by
 apply ZCr
 intro r
 constructor
 ·intro h
  obtain ⟨n,hn⟩:=Zgb.1 h
  have h1:=hn (n + 1) (by omega)
  obtain ⟨N,hN⟩:=Ap.body (G_E P X H n) (L_L P X H n) f a B r h1
  exact hN N (Z2x _)
 ·intro h
  obtain ⟨N,hN⟩:=Ap.body (E_G P X H) (LL_ P X H) f a B r h
  exact E_of P X H (n:=N + 1) (hN N (Z2x _))
theorem L_eq (f m0:Nat) (c:Code) (K:Kont) (sl:Sl) (B:List Row) :
  L P X H f m0 c K sl B = exec P H f m0 (E P X H) (L P X H) c (kloop H f m0 c (L P X H f m0 c K) K) sl B:=by
 apply ZCr
 intro r
 constructor
 ·intro h
  obtain ⟨n,hn⟩:=Zgb.1 h
  have h1:=hn (n + 1) (by omega)
  obtain ⟨N,hN⟩:=Ap.exec (H:=H) (f:=f) (m0:=m0) (G_E P X H n) (L_L P X H n) c _ (fun _ => kloop H f m0 c (L P X H f m0 c K) K)
   (ApK.kloop (fun sl B => L_L P X H n f m0 c K (fun _ => K) (fun _ _ _ => Ap.const _) sl B) (fun _ _ _ => Ap.const _)) sl B r h1
  exact hN N (Z2x _)
 ·intro h
  obtain ⟨N,hN⟩:=Ap.exec (H:=H) (f:=f) (m0:=m0) (E_G P X H) (LL_ P X H) c _ (fun m => kloop H f m0 c ((evlp P X H m).2 f m0 c K) K)
   (ApK.kloop (fun sl B => LL_ P X H f m0 c K (fun _ => K) (fun _ _ _ => Ap.const _) sl B) (fun _ _ _ => Ap.const _)) sl B r h
  exact L_of P X H (n:=N + 1) (hN N (Z2x _))
end
end Go.Abs
end
section
namespace Go.Abs
open Go
abbrev Stay:=Nat → Nat → Prop
def Z84:PV → Bool
 | .v _ | .lst .. | .ml .. | .hd _ => true
 | _ => false
def Zfm:PV → Bool
 | .lst .un _ | .ml .. => false
 | _ => true
def isUn:AV → Bool
 | .p (.lst .un _) | .p (.ml ..) => true
 | _ => false
theorem ZEV {x:AV} (h:isUn x = true):(∃ xs,x = .p (.lst .un xs)) ∨ ∃ n xs,x = .p (.ml n xs):=by
 unfold isUn at h
 split at h
 ·exact .inl ⟨_,rfl⟩
 ·exact .inr ⟨_,_,rfl⟩
 ·simp at h
theorem ZkY (x:PV):isUn (.p x) = !Zfm x:=by
 cases x with
 | lst o xs => cases o <;> rfl
 | _ => rfl
def Z42 (c:PV):Bool:=Z84 c && Zfm c
inductive PRel (w:World) (S:Stay):PV → Value → Prop
 | v (x:Value):scal x = true → PRel w S (.v x) x
 | lst (o:Own) (xs:List PV) (a:Option Addr) (cap b off sz:Nat) (g:Nat → Nat → Value) :
   xs.length ≤ cap → (o = .nl → a = none ∧ cap = 0) → (o = .ex → cap = xs.length) → (o = .un → xs ≠ []) → (a = none → cap = 0) →
   (xs ≠ [] → a = some ⟨b,off,none⟩ ∧ 0 < sz ∧ ∀ e,e ∈ xs → (Z1r e).length = sz) →
   (∀ (i:Nat) (e:PV) (j:Nat) (c:PV),xs[i]? = some e → (Z1r e)[j]? = some c → w.cell? ⟨b,off + (i * sz + j),none⟩ = some (g i j) ∧ S b (off + (i * sz + j)) ∧ Z42 c = true) →
   (∀ (i:Nat) (e:PV) (j:Nat) (c:PV),xs[i]? = some e → (Z1r e)[j]? = some c → PRel w S c (g i j)) →
   PRel w S (.lst o xs) (.slice a xs.length cap)
 | ml (n:Nat) (xs:List PV) (a:Option Addr) (cap:Nat):xs.length ≤ cap → (a = none → cap = 0) → PRel w S (.ml n xs) (.slice a xs.length cap)
 | hd (k:Nat) (a:Option Addr) (cap:Nat):k ≤ cap → (a = none → cap = 0) → PRel w S (.hd k) (.slice a k cap)
 | agg (cs:List PV) (arr:Array Value):arr.size = cs.length → (∀ c,c ∈ cs → Z42 c = true) → (∀ (i:Nat) (c:PV) (v:Value),cs[i]? = some c → arr[i]? = some v → PRel w S c v) → PRel w S (.agg cs) (.agg arr)
 | tup (vs:List PV) (arr:Array Value):arr.size = vs.length → (∀ c,c ∈ vs → Zfm c = true) → (∀ (i:Nat) (c:PV) (v:Value),vs[i]? = some c → arr[i]? = some v → PRel w S c v) → PRel w S (.tup vs) (.tuple arr)
 | jnk (q:Al) (v:Value):PRel w S (.jnk q) v
structure Keeps (w:World) (S:Stay) (w':World) (S':Stay):Prop where
 more:∀ b o,S b o → S' b o
 cell:∀ b o,S b o → w'.cell? ⟨b,o,none⟩ = w.cell? ⟨b,o,none⟩
theorem Keeps.refl (w:World) (S:Stay):Keeps w S w S:=⟨fun _ _ h => h,fun _ _ _ => rfl⟩
theorem Keeps.trans {w w1 w2:World} {S S1 S2:Stay} (h:Keeps w S w1 S1) (k:Keeps w1 S1 w2 S2):Keeps w S w2 S2 :=
 ⟨fun b o hs => k.more b o (h.more b o hs),fun b o hs => (k.cell b o (h.more b o hs)).trans (h.cell b o hs)⟩
theorem PRel.keeps {w w':World} {S S':Stay} (hk:Keeps w S w' S') {x:PV} {v:Value} (h:PRel w S x v):PRel w' S' x v:=by
 induction h with
 | v _ hx => exact .v _ hx
 | lst o xs a cap b off sz g h1 h2 h3 h4 h5 h6 h7 _ ih =>
  exact .lst o xs a cap b off sz g h1 h2 h3 h4 h5 h6 (fun i e j c he hc => ⟨(hk.cell _ _ (h7 i e j c he hc).2.1).trans (h7 i e j c he hc).1,hk.more _ _ (h7 i e j c he hc).2.1,(h7 i e j c he hc).2.2⟩) ih
 | agg cs arr h1 h2 _ ih => exact .agg cs arr h1 h2 ih
 | tup vs arr h1 h2 _ ih => exact .tup vs arr h1 h2 ih
 | ml n xs a cap h0 h1 => exact .ml n xs a cap h0 h1
 | hd k a cap h1 h2 => exact .hd k a cap h1 h2
 | jnk q v => exact .jnk q v
def cellV:Value → Bool
 | .agg _ | .tuple _ => false
 | _ => true
theorem PRel.cellV {w:World} {S:Stay} {x:PV} {v:Value} (h:PRel w S x v) (hx:Z84 x = true):cellV v = true:=by
 cases h with
 | v x hs => cases v <;> simp_all [Go.Abs.cellV,scal]
 | lst => rfl
 | ml => rfl
 | hd => rfl
 | agg => simp [Z84] at hx
 | tup => simp [Z84] at hx
 | jnk => simp [Z84] at hx
def Z3g:AV → Bool
 | .p x => Z84 x
 | .ptr .. | .mp _ | .cptr _ | .clo .. => true
 | _ => false
inductive ARel (w:World) (S:Stay) (β:Nat → Nat) (n:Nat):AV → Value → Prop
 | p (x:PV) (v:Value):PRel w S x v → ARel w S β n (.p x) v
 | ptr (id off:Nat):id < n → ARel w S β n (.ptr id off) (.pointer (some ⟨β id,off,none⟩))
 | mp (id:Nat):id < n → ARel w S β n (.mp id) (.map (some (β id)))
 | cptr (cs:List PV) (b off:Nat) (g:Nat → Value) :
   (∀ (j:Nat) (c:PV),cs[j]? = some c → w.cell? ⟨b,off + j,none⟩ = some (g j) ∧ S b (off + j) ∧ Z42 c = true ∧ PRel w S c (g j)) →
   ARel w S β n (.cptr cs) (.pointer (some ⟨b,off,none⟩))
 | clo (f:FuncId) (first cap:List AV) (a1 a2:Array Value):a1.size = first.length → a2.size = cap.length →
   (∀ (i:Nat) (c:AV) (v:Value),first[i]? = some c → a1[i]? = some v → ARel w S β n c v) → (∀ (i:Nat) (c:AV) (v:Value),cap[i]? = some c → a2[i]? = some v → ARel w S β n c v) →
   (∀ c,c ∈ first ++ cap → isUn c = false) → ARel w S β n (.clo f first cap) (.func (.func f) a1 a2)
 | agg (cs:List AV) (arr:Array Value):arr.size = cs.length → (∀ c,c ∈ cs → Z3g c = true ∧ isUn c = false) →
   (∀ (i:Nat) (c:AV) (v:Value),cs[i]? = some c → arr[i]? = some v → ARel w S β n c v) → ARel w S β n (.agg cs) (.agg arr)
 | tup (vs:List AV) (arr:Array Value):arr.size = vs.length → (∀ c,c ∈ vs → isUn c = false) →
   (∀ (i:Nat) (c:AV) (v:Value),vs[i]? = some c → arr[i]? = some v → ARel w S β n c v) → ARel w S β n (.tup vs) (.tuple arr)
theorem ARel.keeps {w w':World} {S S':Stay} {β β':Nat → Nat} {n n':Nat} (hk:Keeps w S w' S') (hb:∀ i,i < n → β' i = β i) (hn:n ≤ n') {x:AV} {v:Value}
  (h:ARel w S β n x v):ARel w' S' β' n' x v:=by
 induction h with
 | p x v h => exact .p x v (h.keeps hk)
 | ptr id off h => exact hb id h ▸ .ptr id off (Znp h hn)
 | mp id h => exact hb id h ▸ .mp id (Znp h hn)
 | cptr cs b off g h => exact .cptr cs b off g fun j c hc => ⟨(hk.cell _ _ (h j c hc).2.1).trans (h j c hc).1,hk.more _ _ (h j c hc).2.1,(h j c hc).2.2.1,(h j c hc).2.2.2.keeps hk⟩
 | clo f first cap a1 a2 h1 h2 _ _ h5 ih1 ih2 => exact .clo f first cap a1 a2 h1 h2 ih1 ih2 h5
 | agg cs arr h1 h2 _ ih => exact .agg cs arr h1 h2 ih
 | tup vs arr h1 h2 _ ih => exact .tup vs arr h1 h2 ih
theorem ARel.junk {w:World} {S:Stay} {β:Nat → Nat} {n:Nat} (v:Value):ARel w S β n jk v:=.p _ _ (.jnk _ v)
theorem PRel.shrP {w:World} {S:Stay} {x:PV} {v:Value} (h:PRel w S x v):PRel w S (shrP x) v:=by
 cases h with
 | v _ hx => exact .v _ hx
 | lst o xs a cap b off sz g h1 h2 h3 h4 h5 h6 h7 h8 =>
  cases o with
  | un => exact .lst .sh xs a cap b off sz g h1 (by simp) (by simp) (by simp) h5 h6 h7 h8
  | sh => exact .lst .sh xs a cap b off sz g h1 (by simp) (by simp) (by simp) h5 h6 h7 h8
  | ex => exact .lst .ex xs a cap b off sz g h1 (by simp) h3 (by simp) h5 h6 h7 h8
  | nl => exact .lst .nl xs a cap b off sz g h1 h2 (by simp) (by simp) h5 h6 h7 h8
 | ml n xs a cap h1 h2 => exact .hd _ _ cap h1 h2
 | hd k a cap h1 h2 => exact .hd k a cap h1 h2
 | agg cs arr h1 h2 h3 => exact .agg cs arr h1 h2 h3
 | tup vs arr h1 h2 h3 => exact .tup vs arr h1 h2 h3
 | jnk q v => exact .jnk q v
theorem Zr3 (x:PV):Zfm (shrP x) = true:=by
 cases x with
 | lst o xs => cases o <;> rfl
 | _ => rfl
theorem PRel.nrmP {w:World} {S:Stay} {x:PV} {v:Value} (h:PRel w S x v):PRel w S (nrmP x) v:=by
 cases h with
 | v _ hx => exact .v _ hx
 | lst o xs a cap b off sz g h1 h2 h3 h4 h5 h6 h7 h8 => exact .lst .sh xs a cap b off sz g h1 (by simp) (by simp) (by simp) h5 h6 h7 h8
 | ml n xs a cap h1 h2 => exact .hd _ _ cap h1 h2
 | hd k a cap h1 h2 => exact .hd k a cap h1 h2
 | agg cs arr h1 h2 h3 => exact .agg cs arr h1 h2 h3
 | tup vs arr h1 h2 h3 => exact .tup vs arr h1 h2 h3
 | jnk q v => exact .jnk q v
theorem ZlT (x:PV):Zfm (nrmP x) = true:=by
 cases x <;> rfl
theorem Zfg (x:PV):Z84 (nrmP x) = Z84 x:=by
 cases x <;> rfl
theorem ZwS {x:PV} (h:Z42 x = true):Z42 (nrmP x) = true:=by
 unfold Z42 at *
 rw [Zfg,ZlT]
 simp at h ⊢
 exact h.1
theorem PRel.aggNrm {w:World} {S:Stay} {cs:List PV} {v:Value} (h:PRel w S (.agg cs) v):PRel w S (.agg (cs.map Go.Abs.nrmP)) v:=by
 cases h with
 | agg _ arr h1 h2 h3 =>
  refine .agg _ arr (by simpa using h1) ?_ ?_
  ·intro c hc
   obtain ⟨d,hd,rfl⟩:=Z7a.1 hc
   exact ZwS (h2 d hd)
  ·intro i c u hc hu
   rw [q7_] at hc
   obtain ⟨d,hd,rfl⟩:=q6_.1 hc
   exact (h3 i d u hd hu).nrmP
theorem PRel.nrm {w:World} {S:Stay} {x:PV} {v:Value} (h:PRel w S x v):PRel w S (nrm x) v:=by
 cases x with
 | v x => exact h
 | lst o xs => exact h.nrmP
 | ml n xs => exact h.nrmP
 | hd k => exact h.nrmP
 | agg cs => exact h.aggNrm
 | tup vs =>
  cases h with
  | tup _ arr h1 h2 h3 =>
   refine .tup _ arr (by simpa using h1) ?_ ?_
   ·intro c hc
    obtain ⟨d,hd,rfl⟩:=Z7a.1 hc
    have:=h2 d hd
    cases d <;> first | rfl | exact this
   ·intro i c u hc hu
    rw [q7_] at hc
    obtain ⟨d,hd,rfl⟩:=q6_.1 hc
    have:=h3 i d u hd hu
    cases d with
    | lst o xs => exact this.nrmP
    | ml n xs => exact this.nrmP
    | agg cs => exact this.aggNrm
    | _ => exact this
 | jnk q => exact h
theorem Znj (x:PV):Zfm (nrm x) = true:=by cases x <;> rfl
theorem ZwV {α:Type} (P:Program) (s:Sem α) (a:α) (h:Z51 P s = some a) (w:World):s.run P w = .ok a w:=by
 induction s with
 | pure x => simp [Z51] at h; simp [Sem.run,h]
 | program k ih => simp only [Z51] at h; simp only [Sem.run]; exact ih P h
 | _ => simp [Z51] at h
theorem Zr4 {w:World} {S:Stay} {x:Value} {p:PV} (h:Zhk x = some p):PRel w S p x:=by
 unfold Zhk at h
 split at h
 ·simp only [q1_] at h
  subst h
  exact .lst .nl [] none 0 0 0 0 (fun _ _ => undef) (Z2x _) (fun _ => ⟨rfl,rfl⟩) (by simp) (by simp) (fun _ => rfl) (by simp) (by simp) (by simp)
 ·split at h
  ·simp only [q1_] at h
   subst h
   exact .v _ ‹_›
  ·simp at h
theorem ZCg {x:Value} {p:PV} (h:Zhk x = some p):Z42 p = true:=by
 unfold Zhk at h
 split at h
 ·simp only [q1_] at h; subst h; rfl
 ·split at h
  ·simp only [q1_] at h; subst h; rfl
  ·simp at h
theorem ZoF {w:World} {S:Stay}:∀ {l:List Value} {ps:List PV},Zl5 l = some ps →
  l.length = ps.length ∧ (∀ c,c ∈ ps → Z42 c = true) ∧ ∀ (i:Nat) (c:PV) (v:Value),ps[i]? = some c → l[i]? = some v → PRel w S c v
 | [],ps,h => by simp [Zl5] at h; subst h; simp
 | x :: r,ps,h => by
  simp only [Zl5] at h
  split at h
  ·rename_i a b ha hb
   simp only [q1_] at h
   subst h
   obtain ⟨h1,h2,h3⟩:=ZoF (w:=w) (S:=S) hb
   refine ⟨by simp [h1],?_,?_⟩
   ·intro c hc
    rcases Z5G.1 hc with rfl | hc
    ·exact ZCg ha
    ·exact h2 c hc
   ·intro i c v hc hv
    cases i with
    | zero => simp at hc hv; subst hc; subst hv; exact Zr4 ha
    | succ i => exact h3 i c v (by simpa using hc) (by simpa using hv)
  ·simp at h
theorem Zaq {w:World} {S:Stay} {β:Nat → Nat} {n:Nat} {x:Value} {a:AV} (h:Z8i x = some a):ARel w S β n a x:=by
 unfold Z8i at h
 split at h
 ·rename_i cs
  obtain ⟨l,hl,rfl⟩:=q6_.1 h
  obtain ⟨h1,h2,h3⟩:=ZoF (w:=w) (S:=S) hl
  exact .p _ _ (.agg l cs (by simpa using h1) h2 fun i c v hc hv => h3 i c v hc (by simpa using hv))
 ·obtain ⟨p,hp,rfl⟩:=q6_.1 h
  exact .p _ _ (Zr4 hp)
theorem Zrj {w:World} {S:Stay} {p:PV} {x v:Value} (h:ZdV p = some x) (hr:PRel w S p v):v = x:=by
 cases hr with
 | v y hy => simpa [ZdV] using h
 | lst o xs a cap b off sz g h1 h2 h3 h4 h5 h6 h7 h8 =>
  cases o <;> cases xs <;> simp [ZdV] at h
  obtain ⟨rfl,rfl⟩:=h2 rfl
  exact h
 | ml => simp [ZdV] at h
 | hd => simp [ZdV] at h
 | agg => simp [ZdV] at h
 | tup => simp [ZdV] at h
 | jnk => simp [ZdV] at h
theorem ZoJ {w:World} {S:Stay}:∀ {ps:List PV} {l:List Value},Zle ps = some l → ∀ (us:List Value),us.length = ps.length →
  (∀ (i:Nat) (c:PV) (v:Value),ps[i]? = some c → us[i]? = some v → PRel w S c v) → us = l
 | [],l,h,us,hl,_ => by
  simp [Zle] at h
  subst h
  simpa using hl
 | p :: r,l,h,us,hl,hr => by
  simp only [Zle] at h
  split at h
  ·rename_i a b ha hb
   simp only [q1_] at h
   subst h
   match us,hl with
   | u :: us,hl =>
    have e1:=Zrj ha (hr 0 p u rfl rfl)
    have e2:=ZoJ hb us (by simpa using hl) fun i c v hc hv => hr (i + 1) c v (by simpa using hc) (by simpa using hv)
    rw [e1,e2]
  ·simp at h
theorem ZcP {w:World} {S:Stay} {β:Nat → Nat} {n:Nat} {a:AV} {x v:Value} (h:ZgB a = some x) (hr:ARel w S β n a v):v = x:=by
 cases hr with
 | p p v hp =>
  unfold ZgB at h
  split at h
  ·rename_i cs heq
   cases heq
   obtain ⟨l,hl,rfl⟩:=q6_.1 h
   cases hp with
   | agg _ arr h1 h2 h3 =>
    have:=ZoJ (w:=w) (S:=S) hl arr.toList (by simpa using h1) fun i c v hc hv => h3 i c v hc (by simpa using hv)
    rw [← this]
  ·rename_i q heq
   cases heq
   exact Zrj h hp
  ·simp at h
 | _ => simp [ZgB] at h
theorem ZR {α β:Type} {x:Option α} {k:α → Option β} {r:β} (h:ob x k = some r):∃ a,x = some a ∧ k a = some r:=by
 cases x with
 | none => simp [ob,hi] at h
 | some a => exact ⟨a,rfl,h⟩
theorem ZoN {β:Type} {x:AV} {k:Bool → Option β} {r:β} (h:asB x k = some r):∃ b,x = .p (.v (.bool b)) ∧ k b = some r:=by
 unfold asB hi at h
 split at h
 ·exact ⟨_,rfl,h⟩
 ·simp at h
theorem Zbi {β:Type} {x:AV} {k:Int → Option β} {r:β} (h:asInt x k = some r):∃ i n,x = .p (.v (.int i n)) ∧ k n = some r:=by
 unfold asInt at h
 split at h
 ·exact ⟨_,_,rfl,h⟩
 ·simp at h
theorem Z5b {w:World} {S:Stay} {β:Nat → Nat} {n:Nat} {x v:Value} (hr:ARel w S β n (.p (.v x)) v):v = x:=by
 cases hr with
 | p _ _ h => cases h with
  | v _ _ => rfl
def Z3U:Value → Option Nat
 | .slice (some a) _ _ => some a.block
 | _ => none
def ZcR (u v:Value):Prop:=∃ b,Z3U u = some b ∧ Z3U v = some b
theorem ZcR.symm {u v:Value} (h:ZcR u v):ZcR v u:=by obtain ⟨b,h1,h2⟩:=h; exact ⟨b,h2,h1⟩
def UnOk (w:World) (S:Stay) (x:AV) (v:Value):Prop :=
 (∃ n,x = .p (.ml n []) ∧ v = .slice none 0 0) ∨
 ∃ b off len cap cs ty sz,v = .slice (some ⟨b,off,none⟩) len cap ∧ w.heap[b]? = some (.cells cs ty (0,0)) ∧ 0 < sz ∧ off + cap * sz ≤ cs.size ∧ len ≤ cap ∧
  ((∃ xs,x = .p (.lst .un xs) ∧ 0 < len ∧ (∀ o,off + len * sz ≤ o → ¬ S b o) ∧ ∀ e,e ∈ xs → (Z1r e).length = sz) ∨
   (∃ xs,x = .p (.ml sz xs) ∧ len = xs.length ∧ (∀ o,¬ S b o) ∧ (∀ e,e ∈ xs → (Z1r e).length = sz) ∧
     ∀ (i:Nat) (e:PV) (j:Nat) (c:PV),xs[i]? = some e → (Z1r e)[j]? = some c → Z42 c = true ∧ ∃ u,cs[off + (i * sz + j)]? = some u ∧ PRel w S c u))
theorem UnOk.un {w:World} {S:Stay} {ys:List PV} {v:Value} (h:UnOk w S (.p (.lst .un ys)) v) :
  ∃ xs b off len cap cs ty sz,AV.p (.lst .un ys) = .p (.lst .un xs) ∧ v = .slice (some ⟨b,off,none⟩) len cap ∧ w.heap[b]? = some (.cells cs ty (0,0)) ∧ 0 < sz ∧ off + cap * sz ≤ cs.size ∧ len ≤ cap ∧
  0 < len ∧ (∀ o,off + len * sz ≤ o → ¬ S b o) ∧ ∀ e,e ∈ xs → (Z1r e).length = sz:=by
 rcases h with ⟨n,e,_⟩ | ⟨b,off,len,cap,cs,ty,sz,e2,e3,e4,e5,e6,⟨xs,e1,e7,e8,e9⟩ | ⟨xs,e1,_⟩⟩
 ·cases e
 ·exact ⟨xs,b,off,len,cap,cs,ty,sz,e1,e2,e3,e4,e5,e6,e7,e8,e9⟩
 ·cases e1
theorem UnOk.ofUn {w:World} {S:Stay} {x:AV} {v:Value} (h:∃ xs b off len cap cs ty sz,x = .p (.lst .un xs) ∧ v = .slice (some ⟨b,off,none⟩) len cap ∧ w.heap[b]? = some (.cells cs ty (0,0)) ∧ 0 < sz ∧ off + cap * sz ≤ cs.size ∧ len ≤ cap ∧
  0 < len ∧ (∀ o,off + len * sz ≤ o → ¬ S b o) ∧ ∀ e,e ∈ xs → (Z1r e).length = sz):UnOk w S x v:=by
 obtain ⟨xs,b,off,len,cap,cs,ty,sz,e1,e2,e3,e4,e5,e6,e7,e8,e9⟩:=h
 exact .inr ⟨b,off,len,cap,cs,ty,sz,e2,e3,e4,e5,e6,.inl ⟨xs,e1,e7,e8,e9⟩⟩
theorem UnOk.ml {w:World} {S:Stay} {n:Nat} {xs:List PV} {v:Value} (h:UnOk w S (.p (.ml n xs)) v):(xs = [] ∧ v = .slice none 0 0) ∨
  ∃ b off cap cs ty,v = .slice (some ⟨b,off,none⟩) xs.length cap ∧ w.heap[b]? = some (.cells cs ty (0,0)) ∧ 0 < n ∧ off + cap * n ≤ cs.size ∧ xs.length ≤ cap ∧ (∀ o,¬ S b o) ∧ (∀ e,e ∈ xs → (Z1r e).length = n) ∧
    ∀ (i:Nat) (e:PV) (j:Nat) (c:PV),xs[i]? = some e → (Z1r e)[j]? = some c → Z42 c = true ∧ ∃ u,cs[off + (i * n + j)]? = some u ∧ PRel w S c u:=by
 rcases h with ⟨n,e,e2⟩ | ⟨b,off,len,cap,cs,ty,sz,e2,e3,e4,e5,e6,⟨xs,e1,_⟩ | ⟨ys,e1,rfl,e8,e9,e10⟩⟩
 ·cases e
  exact .inl ⟨rfl,e2⟩
 ·cases e1
 ·cases e1
  exact .inr ⟨b,off,cap,cs,ty,e2,e3,e4,e5,e6,e8,e9,e10⟩
theorem UnOk.ofMl {w:World} {S:Stay} {n:Nat} {xs:List PV} {v:Value} {b off cap:Nat} {cs:Array Value} {ty:TypeId} (e2:v = .slice (some ⟨b,off,none⟩) xs.length cap) (e3:w.heap[b]? = some (.cells cs ty (0,0)))
  (e4:0 < n) (e5:off + cap * n ≤ cs.size) (e6:xs.length ≤ cap) (e8:∀ o,¬ S b o) (e9:∀ e,e ∈ xs → (Z1r e).length = n)
  (e10:∀ (i:Nat) (e:PV) (j:Nat) (c:PV),xs[i]? = some e → (Z1r e)[j]? = some c → Z42 c = true ∧ ∃ u,cs[off + (i * n + j)]? = some u ∧ PRel w S c u):UnOk w S (.p (.ml n xs)) v :=
 .inr ⟨b,off,xs.length,cap,cs,ty,n,e2,e3,e4,e5,e6,.inr ⟨xs,rfl,rfl,e8,e9,e10⟩⟩
inductive Loc where
 | slot (t:Nat)
 | box (id j:Nat)
 deriving DecidableEq
def Here (nt:Nat) (sl:Sl) (tm:Array Value) (B:List Row) (β:Nat → Nat) (w:World):Loc → AV → Value → Prop
 | .slot t,x,v => t < nt ∧ x = get sl t ∧ v = tm.getD t undef
 | .box id j,x,v => ∃ row,B[id]? = some row ∧ row[j]? = some x ∧ w.cell? ⟨β id,j,none⟩ = some v
def ZsT (w:World) (S:Stay) (b:Nat) (es:List (Int × PV)):Prop :=
 ∃ ents clock,w.heap[b]? = some (.map ents clock) ∧ ents.size = es.length ∧ (∀ (i:Nat) (e:MapEntry) (x:Int × PV),ents[i]? = some e → es[i]? = some x → e.key = .int .i64 x.1 ∧ PRel w S x.2 e.val ∧ Zfm x.2 = true) ∧
  (∀ (i:Nat) (e:MapEntry),ents[i]? = some e → e.born < clock) ∧ (∀ (i j:Nat) (e e':MapEntry),ents[i]? = some e → ents[j]? = some e' → e.born = e'.born → i = j) ∧ (es.map (·.1)).Nodup
theorem ZsT.keeps {w w':World} {S S':Stay} {b:Nat} {es:List (Int × PV)} (hk:Keeps w S w' S') (hb:w'.heap[b]? = w.heap[b]?) (h:ZsT w S b es):ZsT w' S' b es:=by
 obtain ⟨ents,clock,h1,h2,h3,h4,h5,h6⟩:=h
 exact ⟨ents,clock,hb.trans h1,h2,fun i e x he hx => ⟨(h3 i e x he hx).1,(h3 i e x he hx).2.1.keeps hk,(h3 i e x he hx).2.2⟩,h4,h5,h6⟩
theorem ZeN {r:Row} {es:List (Int × PV)} (h:mdOf r = some es):r = [.md es]:=by
 unfold mdOf at h
 split at h
 ·simp only [q1_] at h
  rw [h]
 ·simp at h
structure Mem (w:World) (S:Stay) (β:Nat → Nat) (B:List Row):Prop where
 row:∀ id r,B[id]? = some r → mdOf r = none → ∃ cs ty,w.heap[β id]? = some (.cells cs ty (0,0)) ∧ cs.size = r.length
 cell:∀ id r j x,B[id]? = some r → mdOf r = none → r[j]? = some x → ∃ v,w.cell? ⟨β id,j,none⟩ = some v ∧ ARel w S β B.length x v ∧ Z3g x = true
 inj:∀ i j,i < B.length → j < B.length → β i = β j → i = j
 apart:∀ i,i < B.length → ∀ o,¬ S (β i) o
 stay:∀ b o,S b o → b < w.heap.size
 maps:∀ id r es,B[id]? = some r → mdOf r = some es → ZsT w S (β id) es
structure Uns (w:World) (S:Stay) (β:Nat → Nat) (n:Nat) (L:Loc → AV → Value → Prop):Prop where
 ok:∀ l x v,L l x v → isUn x = true → UnOk w S x v ∧ ∀ i,i < n → Z3U v ≠ some (β i)
 inj:∀ l l' x x' v v',L l x v → L l' x' v' → isUn x = true → isUn x' = true → ZcR v v' → l = l'
structure Good (nt:Nat) (w:World) (S:Stay) (β:Nat → Nat) (sl:Sl) (B:List Row) (a:Act):Prop where
 size:a.tmps.size = nt
 defers:a.defers = []
 slots:∀ t,t < nt → ARel w S β B.length (get sl t) (a.tmps.getD t undef)
 high:∀ t,nt ≤ t → get sl t = jk
 mem:Mem w S β B
 uns:Uns w S β B.length (Here nt sl a.tmps B β w)
def UB (L:Loc → AV → Value → Prop) (b:Nat):Prop:=∃ l x v,L l x v ∧ isUn x = true ∧ Z3U v = some b
structure Step (m0:Nat) (w:World) (S:Stay) (β:Nat → Nat) (n:Nat) (U:Nat → Prop) (w':World) (S':Stay) (β':Nat → Nat) (n':Nat) (U':Nat → Prop):Prop where
 keeps:Keeps w S w' S'
 size:w.heap.size ≤ w'.heap.size
 os:w'.os = w.os
 tape:w'.tape = w.tape
 output:w'.output = w.output
 low:m0 ≤ n → m0 ≤ n' ∧ ∀ i,i < m0 → β' i = β i
 boxes:∀ i,i < n' → (∃ j,j < n ∧ β' i = β j ∧ (j < m0 → i < m0)) ∨ w.heap.size ≤ β' i
 uns:∀ b,U' b → U b ∨ w.heap.size ≤ b
 grown:∀ b o,S' b o → S b o ∨ w.heap.size ≤ b ∨ U b
 block:∀ b,b < w.heap.size → (∀ i,i < n → b ≠ β i) → ¬ U b → w'.heap[b]? = w.heap[b]?
theorem Step.refl (m0:Nat) (w:World) (S:Stay) (β:Nat → Nat) (n:Nat) (U:Nat → Prop):Step m0 w S β n U w S β n U :=
 ⟨.refl _ _,Z2x _,rfl,rfl,rfl,fun h => ⟨h,fun _ _ => rfl⟩,fun i h => .inl ⟨i,h,rfl,id⟩,fun _ h => .inl h,fun _ _ h => .inl h,fun _ _ _ _ => rfl⟩
theorem Step.trans {m0:Nat} {w w1 w2:World} {S S1 S2:Stay} {β β1 β2:Nat → Nat} {n n1 n2:Nat} {U U1 U2:Nat → Prop} (h:Step m0 w S β n U w1 S1 β1 n1 U1)
  (k:Step m0 w1 S1 β1 n1 U1 w2 S2 β2 n2 U2):Step m0 w S β n U w2 S2 β2 n2 U2:=by
 refine ⟨h.keeps.trans k.keeps,ZhC h.size k.size,k.os.trans h.os,k.tape.trans h.tape,k.output.trans h.output,?_,?_,?_,?_,?_⟩
 ·intro hm
  obtain ⟨a,ha⟩:=h.low hm
  obtain ⟨b,hb⟩:=k.low a
  exact ⟨b,fun i hi => (hb i hi).trans (ha i hi)⟩
 ·intro i hi
  rcases k.boxes i hi with ⟨j,hj,e,hl⟩ | hn
  ·rcases h.boxes j hj with ⟨p,hp,e',hl'⟩ | hn
   ·exact .inl ⟨p,hp,e.trans e',fun q => hl (hl' q)⟩
   ·exact .inr (e ▸ hn)
  ·exact .inr (ZhC h.size hn)
 ·intro b hb
  rcases k.uns b hb with hb | hb
  ·exact h.uns b hb
  ·exact .inr (ZhC h.size hb)
 ·intro b o hs
  rcases k.grown b o hs with hs | hs | hs
  ·exact h.grown b o hs
  ·exact .inr (.inl (ZhC h.size hs))
  ·rcases h.uns b hs with hs | hs
   ·exact .inr (.inr hs)
   ·exact .inr (.inl hs)
 ·intro b hb1 hb2 hb3
  rw [k.block b (Znp hb1 h.size) ?_ ?_]
  ·exact h.block b hb1 hb2 hb3
  ·intro i hi he
   rcases h.boxes i hi with ⟨j,hj,e,_⟩ | hn
   ·exact hb2 j hj (he.trans e)
   ·exact Zpn _ (Znp hb1 (he ▸ hn))
  ·intro hu1
   rcases h.uns b hu1 with hu1 | hu1
   ·exact hb3 hu1
   ·exact Zpn _ (Znp hb1 hu1)
theorem Z1Z (i:Nat) (x:AV) (sl:Sl) (t:Nat):get ((i,x) :: sl) t = if i = t then x else get sl t:=by
 rw [get]
 by_cases h:i = t
 ·subst h; simp
 ·have:Nat.beq i t = false:=by
   cases hb:Nat.beq i t with
   | false => rfl
   | true => exact absurd (Zt7 hb) h
  simp [this,h]
theorem ZcO {tm:Array Value} {d t:Nat} {v:Value} (hd:d < tm.size):(tm.setIfInBounds d v).getD t undef = if d = t then v else tm.getD t undef:=by
 simp only [Zsc,Zzd]
 by_cases h:d = t
 ·subst h; simp [hd]
 ·simp [h]
theorem Good.reslot {nt:Nat} {w:World} {S:Stay} {β:Nat → Nat} {sl sl':Sl} {B:List Row} {a:Act} (h:Good nt w S β sl B a)
  (hr:∀ t,t < nt → get sl' t = get sl t ∨ (ARel w S β B.length (get sl' t) (a.tmps.getD t undef) ∧ isUn (get sl' t) = false))
  (hh:∀ t,nt ≤ t → get sl' t = jk):Good nt w S β sl' B a:=by
 have back:∀ l x v,Here nt sl' a.tmps B β w l x v → isUn x = true → Here nt sl a.tmps B β w l x v:=by
  intro l x v hl hu
  cases l with
  | slot t =>
   obtain ⟨ht,rfl,rfl⟩:=hl
   rcases hr t ht with e | ⟨_,e⟩
   ·exact ⟨ht,e,rfl⟩
   ·rw [e] at hu; simp at hu
  | box id j => exact hl
 refine ⟨h.size,h.defers,?_,hh,h.mem,?_,?_⟩
 ·intro t ht
  rcases hr t ht with e | ⟨e,_⟩
  ·rw [e]; exact h.slots t ht
  ·exact e
 ·intro l x v hl hu
  exact h.uns.ok l x v (back l x v hl hu) hu
 ·intro l l' x x' v v' hl hl' hu hu' hb
  exact h.uns.inj l l' x x' v v' (back l x v hl hu) (back l' x' v' hl' hu') hu hu' hb
theorem Good.put {nt:Nat} {w:World} {S:Stay} {β:Nat → Nat} {sl:Sl} {B:List Row} {a:Act} (h:Good nt w S β sl B a) {d:Option Tmp} (hd:∀ t,d = some t → t < nt)
  {x:AV} {v:Value} (hx:ARel w S β B.length x v) (hu:isUn x = false):Good nt w S β (Go.Abs.put sl d x) B (a.put d v):=by
 cases d with
 | none => exact h
 | some d =>
  have hdn:=hd d rfl
  have hds:d < a.tmps.size:=by rw [h.size]; exact hdn
  have back:∀ l y u,Here nt ((d,x) :: sl) (a.tmps.setIfInBounds d v) B β w l y u → isUn y = true → Here nt sl a.tmps B β w l y u:=by
   intro l y u hl hy
   cases l with
   | slot t =>
    obtain ⟨ht,rfl,rfl⟩:=hl
    rw [Z1Z] at hy ⊢
    rw [ZcO hds]
    by_cases e:d = t
    ·rw [if_pos e] at hy; rw [hu] at hy; simp at hy
    ·rw [if_neg e,if_neg e]; exact ⟨ht,rfl,rfl⟩
   | box id j => exact hl
  have hh:∀ t,nt ≤ t → get ((d,x) :: sl) t = jk:=by
   intro t ht
   have e:d ≠ t:=by rintro rfl; exact absurd hdn (Nat.not_lt.2 ht)
   rw [Z1Z,if_neg e]
   exact h.high t ht
  refine ⟨by simp [Act.put,h.size],h.defers,?_,hh,h.mem,?_,?_⟩
  ·intro t ht
   show ARel w S β B.length (get ((d,x) :: sl) t) ((a.tmps.setIfInBounds d v).getD t undef)
   rw [Z1Z,ZcO hds]
   by_cases e:d = t
   ·rw [if_pos e,if_pos e]; exact hx
   ·rw [if_neg e,if_neg e]; exact h.slots t ht
  ·intro l y u hl hy
   exact h.uns.ok l y u (back l y u hl hy) hy
  ·intro l l' y y' u u' hl hl' hy hy' hb
   exact h.uns.inj l l' y y' u u' (back l y u hl hy) (back l' y' u' hl' hy') hy hy' hb
theorem Z4p (x:AV):isUn (shr x) = false:=by
 cases x with
 | p x => cases x with
  | lst o xs => cases o <;> rfl
  | _ => rfl
 | _ => rfl
theorem ARel.shr {w:World} {S:Stay} {β:Nat → Nat} {n:Nat} {x:AV} {v:Value} (h:ARel w S β n x v):ARel w S β n (shr x) v:=by
 unfold Go.Abs.shr
 split
 ·cases h with
  | p _ _ hp => exact .p _ _ hp.shrP
 ·cases h with
  | p _ _ hp => exact .p _ _ hp.shrP
 ·rename_i vs
  cases h with
  | p _ _ hp =>
   cases hp with
   | tup _ arr h1 h2 h3 =>
    refine .p _ _ (.tup _ arr (by simpa using h1) ?_ ?_)
    ·intro c hc
     obtain ⟨d,hd,rfl⟩:=Z7a.1 hc
     exact Zr3 d
    ·intro i c u hc hu
     rw [q7_] at hc
     obtain ⟨d,hd,rfl⟩:=q6_.1 hc
     exact (h3 i d u hd hu).shrP
 ·rename_i vs
  cases h with
  | tup _ arr h1 h2 h3 =>
   refine .tup _ arr (by simpa using h1) ?_ ?_
   ·intro c hc
    obtain ⟨d,hd,rfl⟩:=Z7a.1 hc
    cases d with
    | p x =>
     show isUn (.p (Go.Abs.shrP x)) = false
     rw [ZkY,Zr3]
     rfl
    | _ => rfl
   ·intro i c u hc hu
    rw [q7_] at hc
    obtain ⟨d,hd,rfl⟩:=q6_.1 hc
    have:=h3 i d u hd hu
    cases d with
    | p x => cases this with
     | p _ _ hp => exact .p _ _ hp.shrP
    | _ => exact this
 ·exact h
theorem Good.weak {nt:Nat} {w:World} {S:Stay} {β:Nat → Nat} {sl:Sl} {B:List Row} {a:Act} (h:Good nt w S β sl B a) (x:Operand):Good nt w S β (weak sl x) B a:=by
 cases x with
 | tmp t =>
  have hh:∀ u,nt ≤ u → get ((t,shr (get sl t)) :: sl) u = jk:=by
   intro u hu
   rw [Z1Z]
   by_cases e:t = u
   ·subst e; rw [if_pos rfl,h.high t hu]; rfl
   ·rw [if_neg e]; exact h.high u hu
  refine h.reslot (fun u hu => ?_) hh
  show get ((t,shr (get sl t)) :: sl) u = get sl u ∨ _
  by_cases e:t = u
  ·subst e
   right
   show ARel w S β B.length (get ((t,shr (get sl t)) :: sl) t) _ ∧ isUn (get ((t,shr (get sl t)) :: sl) t) = false
   rw [Z1Z,if_pos rfl]
   exact ⟨(h.slots t hu).shr,Z4p _⟩
  ·left; rw [Z1Z,if_neg e]
 | _ => exact h
theorem Good.weakL {nt:Nat} {w:World} {S:Stay} {β:Nat → Nat} {B:List Row} {a:Act}:∀ (l:List Operand) {sl:Sl},Good nt w S β sl B a → Good nt w S β (weakL sl l) B a
 | [],_,h => h
 | x :: r,_,h => Good.weakL r (h.weak x)
theorem Good.ev {nt:Nat} {w:World} {S:Stay} {β:Nat → Nat} {sl:Sl} {B:List Row} {a:Act} (h:Good nt w S β sl B a) (x:Operand):ARel w S β B.length (ev sl x) (a.eval x):=by
 unfold Go.Abs.ev
 split
 ·rename_i t
  show ARel w S β B.length (get sl t) (a.tmps.getD t undef)
  by_cases ht:t < nt
  ·exact h.slots t ht
  ·rw [h.high t (Nat.not_lt.1 ht)]; exact ARel.junk _
 ·exact .p _ _ (.lst .nl [] none 0 0 0 0 (fun _ _ => undef) (Z2x _) (fun _ => ⟨rfl,rfl⟩) (by simp) (by simp) (fun _ => rfl) (by simp) (by simp) (by simp))
 ·split
  ·exact .p _ _ (.v _ ‹_›)
  ·exact ARel.junk _
 ·exact .clo _ [] [] #[] #[] rfl rfl (by simp) (by simp) (by simp)
 ·exact ARel.junk _
def Leaves (nt m0:Nat) (o:Oper) (w:World) (S:Stay) (β:Nat → Nat) (sl:Sl) (B:List Row) (a:Act) (K:AV → Sl → List Row → Option Res) (r:Res) (a':Act) (w':World):Prop :=
 ∃ x sl' B' S' β',K x sl' B' = some r ∧ Good nt w' S' β' (put sl' o.dst x) B' a' ∧
  Step m0 w S β B.length (UB (Here nt sl a.tmps B β w)) w' S' β' B'.length (UB (Here nt (put sl' o.dst x) a'.tmps B' β' w'))
theorem UB.reslot {nt:Nat} {w:World} {β:Nat → Nat} {sl sl':Sl} {B:List Row} {tm:Array Value}
  (hr:∀ t,t < nt → get sl' t = get sl t ∨ isUn (get sl' t) = false) (b:Nat) (h:UB (Here nt sl' tm B β w) b):UB (Here nt sl tm B β w) b:=by
 obtain ⟨l,x,v,hl,hu,hb⟩:=h
 refine ⟨l,x,v,?_,hu,hb⟩
 cases l with
 | slot t =>
  obtain ⟨ht,rfl,rfl⟩:=hl
  rcases hr t ht with e | e
  ·exact ⟨ht,e,rfl⟩
  ·rw [e] at hu; simp at hu
 | box id j => exact hl
theorem UB.put {nt:Nat} {w:World} {β:Nat → Nat} {sl:Sl} {B:List Row} {a:Act} (hs:a.tmps.size = nt) {d:Option Tmp} (hd:∀ t,d = some t → t < nt) {x:AV} {v:Value} (hu:isUn x = false)
  (b:Nat) (h:UB (Here nt (Go.Abs.put sl d x) (a.put d v).tmps B β w) b):UB (Here nt sl a.tmps B β w) b:=by
 cases d with
 | none => exact h
 | some d =>
  obtain ⟨l,y,u,hl,hy,hb⟩:=h
  refine ⟨l,y,u,?_,hy,hb⟩
  have hds:d < a.tmps.size:=by rw [hs]; exact hd d rfl
  cases l with
  | slot t =>
   obtain ⟨ht,rfl,rfl⟩:=hl
   change isUn (get ((d,x) :: sl) t) = true at hy
   change Here nt sl a.tmps B β w (.slot t) (get ((d,x) :: sl) t) ((a.tmps.setIfInBounds d v).getD t undef)
   rw [Z1Z] at hy ⊢
   rw [ZcO hds]
   by_cases e:d = t
   ·rw [if_pos e] at hy; rw [hu] at hy; simp at hy
   ·rw [if_neg e,if_neg e]; exact ⟨ht,rfl,rfl⟩
  | box id j => exact hl
theorem ZdU {nt m0:Nat} {o:Oper} {w:World} {S:Stay} {β:Nat → Nat} {sl:Sl} {B:List Row} {a:Act} {K:AV → Sl → List Row → Option Res} {r:Res}
  (h:Good nt w S β sl B a) (hd:∀ t,o.dst = some t → t < nt) {x:AV} {v:Value} (hx:ARel w S β B.length x v) (hu:isUn x = false) (hk:K x sl B = some r) :
  Leaves nt m0 o w S β sl B a K r (a.put o.dst v) w :=
 ⟨x,sl,B,S,β,hk,h.put hd hx hu,{ Step.refl m0 w S β B.length (UB (Here nt sl a.tmps B β w)) with uns:=fun b hb => .inl (UB.put h.size hd hu b hb) }⟩
def Z4d (o:Oper) (w:World) (S:Stay) (β:Nat → Nat) (sl:Sl) (B:List Row) (a:Act) (K:AV → Sl → List Row → Option Res) (r:Res) (a':Act) (w':World):Prop :=
 w' = w ∧ ∃ x v,a' = a.put o.dst v ∧ ARel w S β B.length x v ∧ isUn x = false ∧ K x sl B = some r
theorem Z63 {nt:Nat} {o:Oper} {w:World} {S:Stay} {β:Nat → Nat} {sl:Sl} {B:List Row} {a:Act} {K:AV → Sl → List Row → Option Res} {r:Res}
  (_h:Good nt w S β sl B a) (_hd:∀ t,o.dst = some t → t < nt) {x:AV} {v:Value} (hx:ARel w S β B.length x v) (hu:isUn x = false) (hk:K x sl B = some r) :
  Z4d o w S β sl B a K r (a.put o.dst v) w:=⟨rfl,x,v,rfl,hx,hu,hk⟩
theorem Z4d.leaves {nt m0:Nat} {o:Oper} {w w':World} {S:Stay} {β:Nat → Nat} {sl:Sl} {B:List Row} {a a':Act} {K:AV → Sl → List Row → Option Res} {r:Res}
  (h:Good nt w S β sl B a) (hd:∀ t,o.dst = some t → t < nt) (hq:Z4d o w S β sl B a K r a' w'):Leaves nt m0 o w S β sl B a K r a' w':=by
 obtain ⟨rfl,x,v,rfl,hx,hu,hk⟩:=hq
 exact ZdU h hd hx hu hk
theorem wp_q {P:Program} {nt m0:Nat} {o:Oper} {w:World} {S:Stay} {β:Nat → Nat} {sl:Sl} {B:List Row} {a:Act} {K:AV → Sl → List Row → Option Res} {r:Res} {Q:Exit → Act → World → Prop}
  (h:Good nt w S β sl B a) (hd:∀ t,o.dst = some t → t < nt) (hw:o.wp P a w (Z4d o w S β sl B a K r) Q):o.wp P a w (Leaves nt m0 o w S β sl B a K r) Q :=
 Oper.wp_mono (fun _ _ hq => hq.leaves h hd) hw
theorem Good.putUn {nt:Nat} {w:World} {S:Stay} {β:Nat → Nat} {sl:Sl} {B:List Row} {a:Act} (h:Good nt w S β sl B a) {d:Tmp} (hd:d < nt)
  {x:AV} {v:Value} (hx:ARel w S β B.length x v) (hok:isUn x = true → UnOk w S x v ∧ ∀ i,i < B.length → Z3U v ≠ some (β i))
  (hal:∀ l y u,Here nt sl a.tmps B β w l y u → isUn y = true → isUn x = true → ¬ ZcR u v) :
  Good nt w S β ((d,x) :: sl) B (a.put (some d) v):=by
 have hds:d < a.tmps.size:=by rw [h.size]; exact hd
 have back:∀ l y u,Here nt ((d,x) :: sl) (a.tmps.setIfInBounds d v) B β w l y u → isUn y = true → (l = .slot d ∧ y = x ∧ u = v) ∨ Here nt sl a.tmps B β w l y u:=by
  intro l y u hl hy
  cases l with
  | slot t =>
   obtain ⟨ht,rfl,rfl⟩:=hl
   rw [Z1Z] at hy ⊢
   rw [ZcO hds]
   by_cases e:d = t
   ·subst e; left; simp
   ·right; rw [if_neg e,if_neg e]; exact ⟨ht,rfl,rfl⟩
  | box id j => exact .inr hl
 have hh:∀ t,nt ≤ t → get ((d,x) :: sl) t = jk:=by
  intro t ht
  have e:d ≠ t:=by rintro rfl; exact absurd hd (Nat.not_lt.2 ht)
  rw [Z1Z,if_neg e]
  exact h.high t ht
 refine ⟨by simp [Act.put,h.size],h.defers,?_,hh,h.mem,?_,?_⟩
 ·intro t ht
  show ARel w S β B.length (get ((d,x) :: sl) t) ((a.tmps.setIfInBounds d v).getD t undef)
  rw [Z1Z,ZcO hds]
  by_cases e:d = t
  ·rw [if_pos e,if_pos e]; exact hx
  ·rw [if_neg e,if_neg e]; exact h.slots t ht
 ·intro l y u hl hy
  rcases back l y u hl hy with ⟨_,rfl,rfl⟩ | hb
  ·exact hok hy
  ·exact h.uns.ok l y u hb hy
 ·intro l l' y y' u u' hl hl' hy hy' hb
  rcases back l y u hl hy with ⟨rfl,rfl,rfl⟩ | h1 <;> rcases back l' y' u' hl' hy' with ⟨rfl,rfl,rfl⟩ | h2
  ·rfl
  ·exact absurd hb.symm (hal l' y' u' h2 hy' hy)
  ·exact absurd hb (hal l y u h1 hy hy')
  ·exact h.uns.inj l l' y y' u u' h1 h2 hy hy' hb
theorem UB.putUn {nt:Nat} {w:World} {β:Nat → Nat} {sl:Sl} {B:List Row} {a:Act} (hs:a.tmps.size = nt) {d:Tmp} (hd:d < nt) {x:AV} {v:Value}
  (b:Nat) (h:UB (Here nt ((d,x) :: sl) (a.put (some d) v).tmps B β w) b):UB (Here nt sl a.tmps B β w) b ∨ (isUn x = true ∧ Z3U v = some b):=by
 obtain ⟨l,y,u,hl,hy,hb⟩:=h
 have hds:d < a.tmps.size:=by rw [hs]; exact hd
 cases l with
 | slot t =>
  obtain ⟨ht,rfl,rfl⟩:=hl
  change Z3U ((a.tmps.setIfInBounds d v).getD t undef) = some b at hb
  rw [Z1Z] at hy
  rw [ZcO hds] at hb
  by_cases e:d = t
  ·rw [if_pos e] at hy hb; exact .inr ⟨hy,hb⟩
  ·rw [if_neg e] at hy hb; exact .inl ⟨.slot t,_,_,⟨ht,rfl,rfl⟩,hy,hb⟩
 | box id j => exact .inl ⟨.box id j,y,u,hl,hy,hb⟩
theorem ZqS (sl:Sl) (v:Value):isUn (ev sl (.const v)) = false:=by
 unfold ev
 split
 ·rename_i h; cases h
 ·rfl
 ·split <;> rfl
 ·rfl
 ·rfl
theorem Zif {nt m0:Nat} {o:Oper} {w:World} {S:Stay} {β:Nat → Nat} {sl:Sl} {B:List Row} {a:Act} {K:AV → Sl → List Row → Option Res} {r:Res}
  (h:Good nt w S β sl B a) (hd:∀ t,o.dst = some t → t < nt) (x:Operand) (hk:K (ev sl x) (weak sl x) B = some r) :
  Leaves nt m0 o w S β sl B a K r (a.put o.dst (a.eval x)) w:=by
 have hw:=h.weak x
 have hev:=h.ev x
 by_cases hu:isUn (ev sl x) = false
 ·refine ⟨ev sl x,weak sl x,B,S,β,hk,hw.put hd hev hu,{ Step.refl m0 w S β B.length (UB (Here nt sl a.tmps B β w)) with uns:=fun b hb => .inl ?_ }⟩
  refine UB.reslot (sl:=sl) (sl':=weak sl x) ?_ b (UB.put h.size hd hu b hb)
  intro t _
  cases x with
  | tmp u =>
   show get ((u,shr (get sl u)) :: sl) t = _ ∨ isUn (get ((u,shr (get sl u)) :: sl) t) = false
   rw [Z1Z]
   by_cases e:u = t
   ·rw [if_pos e]; exact .inr (Z4p _)
   ·rw [if_neg e]; exact .inl rfl
  | _ => exact .inl rfl
 ·have hu:isUn (ev sl x) = true:=by simpa using hu
  obtain ⟨t,rfl⟩:∃ t,x = .tmp t:=by
   cases x with
   | tmp t => exact ⟨t,rfl⟩
   | const v => rw [ZqS] at hu; simp at hu
   | global g => simp [ev,isUn,jk] at hu
   | func f => simp [ev,isUn] at hu
  have htn:t < nt:=by
   rcases Z9X t nt with h1 | h1
   ·exact h1
   ·have:=h.high t h1
    change isUn (get sl t) = true at hu
    rw [this] at hu; simp [isUn,jk] at hu
  have here:Here nt sl a.tmps B β w (.slot t) (get sl t) (a.tmps.getD t undef):=⟨htn,rfl,rfl⟩
  have hal:∀ l y u,Here nt (weak sl (.tmp t)) a.tmps B β w l y u → isUn y = true → isUn (ev sl (.tmp t)) = true → ¬ ZcR u (a.eval (.tmp t)):=by
   intro l y u hl hy _ hb
   have hold:Here nt sl a.tmps B β w l y u ∧ l ≠ .slot t:=by
    cases l with
    | slot q =>
     obtain ⟨hq,rfl,rfl⟩:=hl
     change isUn (get ((t,shr (get sl t)) :: sl) q) = true at hy
     change Here nt sl a.tmps B β w (.slot q) (get ((t,shr (get sl t)) :: sl) q) _ ∧ _
     rw [Z1Z] at hy ⊢
     by_cases e:t = q
     ·rw [if_pos e,Z4p] at hy; simp at hy
     ·rw [if_neg e]; exact ⟨⟨hq,rfl,rfl⟩,fun h => e (by cases h; rfl)⟩
    | box id j => exact ⟨hl,by simp⟩
   exact hold.2 (h.uns.inj l (.slot t) y (get sl t) u _ hold.1 here hy hu hb)
  cases hdd:o.dst with
  | none =>
   refine ⟨ev sl (.tmp t),weak sl (.tmp t),B,S,β,hk,?_,?_⟩
   ·rw [hdd]; exact hw
   ·rw [hdd]
    refine { Step.refl m0 w S β B.length (UB (Here nt sl a.tmps B β w)) with uns:=fun b hb => .inl ?_ }
    refine UB.reslot (sl:=sl) (sl':=weak sl (.tmp t)) ?_ b hb
    intro q _
    show get ((t,shr (get sl t)) :: sl) q = _ ∨ isUn (get ((t,shr (get sl t)) :: sl) q) = false
    rw [Z1Z]
    by_cases e:t = q
    ·rw [if_pos e]; exact .inr (Z4p _)
    ·rw [if_neg e]; exact .inl rfl
  | some d =>
   refine ⟨ev sl (.tmp t),weak sl (.tmp t),B,S,β,hk,?_,?_⟩
   ·rw [hdd]; exact hw.putUn (hd d hdd) hev (fun _ => h.uns.ok (.slot t) _ _ here hu) hal
   ·rw [hdd]
    refine { Step.refl m0 w S β B.length (UB (Here nt sl a.tmps B β w)) with uns:=fun b hb => .inl ?_ }
    rcases UB.putUn h.size (hd d hdd) b hb with hb | ⟨_,hb⟩
    ·refine UB.reslot (sl:=sl) (sl':=weak sl (.tmp t)) ?_ b hb
     intro q _
     show get ((t,shr (get sl t)) :: sl) q = _ ∨ isUn (get ((t,shr (get sl t)) :: sl) q) = false
     rw [Z1Z]
     by_cases e:t = q
     ·rw [if_pos e]; exact .inr (Z4p _)
     ·rw [if_neg e]; exact .inl rfl
    ·exact ⟨.slot t,_,_,here,hu,hb⟩
end Go.Abs
end
section
namespace Go.Abs
open Go
theorem Zra {α β:Type} (P:Program) (s:Sem α) (f:α → Sem β) {a:α} {b:β} (h:Z51 P s = some a) (h':Z51 P (f a) = some b):Z51 P (s.bind f) = some b:=by
 induction s with
 | pure x => simp only [Z51,q1_] at h; subst h; exact h'
 | program k ih => exact ih P h
 | _ => simp [Z51] at h
theorem ZCI (P:Program) (s:Sem Value) {v:Value} (h:Z51 P s = some v) (w:World) :
  (s.bind fun x => (Sem.pure (Next.value x))).run P w = .ok (.value v) w :=
 ZwV P _ _ (Zra P s _ h rfl) w
section
variable {P:Program} {H:Hints} {f:FuncId} {G:GF} {nt m0:Nat} {o:Oper} {w:World} {S:Stay} {β:Nat → Nat} {sl:Sl} {B:List Row} {a:Act}
 {K:AV → Sl → List Row → Option Res} {r:Res} {next:Act → World → Prop} {Q:Exit → Act → World → Prop}
theorem Z2p {v:Value} {w':World} (hr:(execOp a.eval o).run P w = .ok (.value v) w') (h:next (a.put o.dst v) w'):o.wp P a w next Q:=by
 unfold Oper.wp
 rw [hr]
 exact h
theorem Zww {w':World} (hr:(execOp a.eval o).run P w = .ok .skip w') (h:next (a.put o.dst undef) w'):o.wp P a w next Q:=by
 unfold Oper.wp
 rw [hr]
 exact h
variable (h:Good nt w S β sl B a) (hd:∀ t,o.dst = some t → t < nt)
include h hd
theorem Zxp {x:Operand} (ho:o.op = .move x ∨ o.op = .assign x) (hk:(if Z8s H f o.dst then K (ev sl x) (weak sl x) B else K (shr (ev sl x)) sl B) = some r) :
  o.wp P a w (Leaves nt m0 o w S β sl B a K r) Q:=by
 have hr:(execOp a.eval o).run P w = .ok (.value (a.eval x)) w:=by
  rcases ho with ho | ho <;> (unfold execOp; simp only [ho]; rfl)
 refine Z2p hr ?_
 split at hk
 ·exact Zif h hd x hk
 ·exact ZdU h hd (h.ev x).shr (Z4p _) hk
theorem Zl6 (s:Sem Value) (hs:execOp a.eval o = s.bind fun x => Sem.pure (Next.value x)) {v:Value} {x:AV} (hv:Z51 P s = some v) (hx:ARel w S β B.length x v) (hu:isUn x = false)
  (hk:K x sl B = some r):o.wp P a w (Z4d o w S β sl B a K r) Q:=by
 refine Z2p (v:=v) (w':=w) ?_ (Z63 h hd hx hu hk)
 rw [hs]
 exact ZCI P s hv w
omit h hd in
theorem Zan {x:Value} {y:AV} (hy:Z8i x = some y):isUn y = false:=by
 unfold Z8i at hy
 split at hy
 ·obtain ⟨l,_,rfl⟩:=q6_.1 hy; rfl
 ·obtain ⟨p,hp,rfl⟩:=q6_.1 hy
  unfold Zhk at hp
  split at hp
  ·simp only [q1_] at hp; subst hp; rfl
  ·split at hp
   ·simp only [q1_] at hp; subst hp; rfl
   ·simp at hp
omit h hd in
theorem ZwN {op:BinOp} {t:TypeId} {x y:Operand} {u v:Value} (hu:Zgz u = true):eqGuard op t x y u v = eqGuard op t (.tmp 0) (.tmp 0) u v:=by
 unfold eqGuard
 cases u <;> cases v <;> first | rfl | (simp [Zgz] at hu)
theorem Zr5 {op:BinOp} {t yt:TypeId} {x y:Operand} (ho:o.op = .binOp op t x y yt) {v:AV} (hv:xbin P op t (ev sl x) (ev sl y) = some v) (hk:K v sl B = some r) :
  o.wp P a w (Z4d o w S β sl B a K r) Q:=by
 unfold xbin at hv
 split at hv
 ·rename_i u u' hu hu'
  split at hv
  ·rename_i hn
   simp only [Z4R] at hn
   obtain ⟨c,hc,hcv⟩:=ZR hv
   have e1:=ZcP hu (h.ev x)
   have e2:=ZcP hu' (h.ev y)
   refine Zl6 h hd (do eqGuard op t x y (a.eval x) (a.eval y); binOp op t (a.eval x) (a.eval y)) (by unfold execOp; simp only [ho]; rfl) (v:=c) ?_ (Zaq hcv) (Zan hcv) hk
   rw [e1,e2,ZwN hn.1]
   exact hc
  ·simp at hv
 ·simp at hv
theorem ZEx {op:UnOp} {t:TypeId} {x:Operand} (ho:o.op = .unOp op t x) {v:AV} (hv:xun P op (ev sl x) = some v) (hk:K v sl B = some r) :
  o.wp P a w (Z4d o w S β sl B a K r) Q:=by
 unfold xun at hv
 obtain ⟨u,hu,hv⟩:=ZR hv
 obtain ⟨c,hc,hcv⟩:=ZR hv
 have e1:=ZcP hu (h.ev x)
 refine Zl6 h hd (Op.unary op (a.eval x)) (by unfold execOp; simp only [ho]; rfl) (v:=c) ?_ (Zaq hcv) (Zan hcv) hk
 rw [e1]
 exact hc
theorem Zsz {x:Operand} (ho:o.op = .nilCheck x) {v:AV} (hv:Z1J (ev sl x) = some v) (hk:K v sl B = some r):o.wp P a w (Z4d o w S β sl B a K r) Q:=by
 have he:=h.ev x
 have hr:∀ u,(a.eval x = u ∧ (match u with | .pointer (some _) | .func (.func _) .. => True | _ => False)) → (execOp a.eval o).run P w = .ok (.value u) w:=by
  rintro u ⟨e,hu⟩
  unfold execOp
  simp only [ho,e]
  split at hu
  ·rfl
  ·rfl
  ·exact hu.elim
 obtain ⟨u,hu⟩:∃ u,a.eval x = u:=⟨_,rfl⟩
 rw [hu] at he
 unfold Z1J at hv
 split at hv
 ·rename_i id off heq
  simp only [q1_] at hv
  rw [heq] at he
  rw [← hv,heq] at hk
  have he':=he
  cases he' with
  | ptr _ _ hi => exact Z2p (hr _ ⟨hu,trivial⟩) (Z63 h hd he rfl hk)
 ·rename_i cs heq
  simp only [q1_] at hv
  rw [heq] at he
  rw [← hv,heq] at hk
  have he':=he
  cases he' with
  | cptr _ b off g hg => exact Z2p (hr _ ⟨hu,trivial⟩) (Z63 h hd he rfl hk)
 ·rename_i g fi ca heq
  simp only [q1_] at hv
  rw [heq] at he
  rw [← hv,heq] at hk
  have he':=he
  cases he' with
  | clo _ _ _ a1 a2 h1 h2 h3 h4 h5 => exact Z2p (hr _ ⟨hu,trivial⟩) (Z63 h hd he rfl hk)
 ·simp at hv
theorem ZF7 {c x y:Operand} (ho:o.op = .pick c x y) (hk:(asB (ev sl c) fun t => br t (K (shr (ev sl x)) sl B) (K (shr (ev sl y)) sl B)) = some r):o.wp P a w (Leaves nt m0 o w S β sl B a K r) Q:=by
 obtain ⟨b,hb,hk⟩:=ZoN hk
 have hc:=h.ev c
 rw [hb] at hc
 have e:=Z5b hc
 have hr:(execOp a.eval o).run P w = .ok (.value (if b then a.eval x else a.eval y)) w:=by
  unfold execOp
  simp only [ho,e]
  cases b <;> rfl
 refine Z2p hr ?_
 cases b with
 | true => exact ZdU h hd (h.ev x).shr (Z4p _) hk
 | false => exact ZdU h hd (h.ev y).shr (Z4p _) hk
omit h hd in
theorem ZEM {i:Nat} {x v:AV} {u:Value} (he:ARel w S β B.length x u) (hv:xext i x = some v) :
  ∃ arr c,u = .tuple arr ∧ arr[i]? = some c ∧ ARel w S β B.length v c ∧ isUn v = false:=by
 unfold xext at hv
 split at hv
 ·rename_i vs
  obtain ⟨c,hc,hv⟩:=ZR hv
  simp only [q1_] at hv
  subst hv
  cases he with
  | p _ _ hp =>
   cases hp with
   | tup _ arr h1 h2 h3 =>
    have hi:i < arr.size:=by
     rw [h1]
     exact (q2_.1 hc).1
    refine ⟨arr,arr[i],rfl,by simp [hi],.p _ _ (h3 i c _ hc (by simp [hi])),?_⟩
    have:=h2 c (q9_ hc)
    rw [ZkY,this]
    rfl
 ·rename_i vs
  cases he with
  | tup _ arr h1 h2 h3 =>
   have hi:i < arr.size:=by
    rw [h1]
    exact (q2_.1 hv).1
   refine ⟨arr,arr[i],rfl,by simp [hi],h3 i v _ hv (by simp [hi]),?_⟩
   exact h2 v (q9_ hv)
 ·simp at hv
omit hd in
theorem ZwO {x:Operand} {i:Nat} (ho:o.op = .extract x i) {v:AV} (hv:xext i (ev sl x) = some v) :
  ∃ c,(execOp a.eval o).run P w = .ok (.value c) w ∧ ARel w S β B.length v c ∧ isUn v = false:=by
 obtain ⟨arr,c,hu,hc,hr,hn⟩:=ZEM (h.ev x) hv
 refine ⟨c,?_,hr,hn⟩
 unfold execOp
 simp only [ho,hu]
 show ((Instr.extract (.tuple arr) i).bind fun x => Sem.pure (Next.value x)).run P w = _
 unfold Instr.extract
 simp only [hc]
 rfl
theorem Zz9 {x:Operand} {i:Nat} (ho:o.op = .extract x i) {v:AV} (hv:xext i (ev sl x) = some v)
  (hk:(if Z8s H f o.dst then K v (weak sl x) B else K (shr v) sl B) = some r):o.wp P a w (Leaves nt m0 o w S β sl B a K r) Q:=by
 obtain ⟨c,hrun,hr,hn⟩:=ZwO (P:=P) (w:=w) h ho hv
 refine Z2p hrun ?_
 split at hk
 ·have hw:=h.weak x
  refine ⟨v,weak sl x,B,S,β,hk,hw.put hd hr hn,{ Step.refl m0 w S β B.length (UB (Here nt sl a.tmps B β w)) with uns:=fun b hb => .inl ?_ }⟩
  refine UB.reslot (sl:=sl) (sl':=weak sl x) ?_ b (UB.put h.size hd hn b hb)
  intro t _
  cases x with
  | tmp u =>
   show get ((u,shr (get sl u)) :: sl) t = _ ∨ isUn (get ((u,shr (get sl u)) :: sl) t) = false
   rw [Z1Z]
   by_cases e:u = t
   ·rw [if_pos e]; exact .inr (Z4p _)
   ·rw [if_neg e]; exact .inl rfl
  | _ => exact .inl rfl
 ·exact ZdU h hd hr.shr (Z4p _) hk
omit h hd in
theorem Ziq {α:Type} {x:Array α} {a:α} (h:x.toList = [a]):x = #[a]:=by
 apply Ztb.1; simpa using h
omit h hd in
theorem Zau {α:Type} {x:Array α} {a b:α} (h:x.toList = [a,b]):x = #[a,b]:=by
 apply Ztb.1; simpa using h
theorem ZCm {c:Call} {x:Operand} {t:TypeId} (ho:o.op = .call c) (hc:c.callee = .builtin .len) (ha:c.args.toList = [x]) (ht:c.argTypes.toList = [t])
  {v:AV} (hv:xlen P t (ev sl x) = some v) (hk:K v sl B = some r):o.wp P a w (Z4d o w S β sl B a K r) Q:=by
 have he:=h.ev x
 have hr:∀ n:Int,(Builtin.len_ #[t] o.type #[a.eval x]).run P w = .ok (.int .i64 n) w → (execOp a.eval o).run P w = .ok (.value (.int .i64 n)) w:=by
  intro n hn
  unfold execOp
  simp only [ho]
  show ((resolve a.eval c o.type).bind fun d => invoke d.target d.args).run P w = _
  unfold resolve
  simp only [hc,Ziq ha,Ziq ht]
  show ((Builtin.len_ #[t] o.type (Array.map a.eval #[x])).bind fun x => Sem.pure (Next.value x)).run P w = _
  have e:Array.map a.eval #[x] = #[a.eval x]:=by simp
  rw [e]
  rw [Sem.run_bind' P (Builtin.len_ #[t] o.type #[a.eval x]) (fun x => Sem.pure (Next.value x)) w,hn]
  rfl
 unfold xlen at hv
 split at hv
 ·rename_i e o' xs hu heq
  simp only [q1_] at hv
  subst hv
  rw [heq] at he
  obtain ⟨u,hu'⟩:∃ u,a.eval x = u:=⟨_,rfl⟩
  rw [hu'] at he
  cases he with
  | p _ _ hp =>
   cases hp with
   | lst _ _ ad cap b off sz g =>
    refine Z2p (hr xs.length ?_) (Z63 h hd (.p _ _ (.v _ rfl)) rfl hk)
    rw [hu']
    unfold Builtin.len_
    simp [underlying,program,hu,Sem.run,bind,Sem.bind,pure,goInt]
 ·rename_i e k hu heq
  simp only [q1_] at hv
  subst hv
  rw [heq] at he
  obtain ⟨u,hu'⟩:∃ u,a.eval x = u:=⟨_,rfl⟩
  rw [hu'] at he
  cases he with
  | p _ _ hp =>
   cases hp with
   | hd _ ad cap =>
    refine Z2p (hr k ?_) (Z63 h hd (.p _ _ (.v _ rfl)) rfl hk)
    rw [hu']
    unfold Builtin.len_
    simp [underlying,program,hu,Sem.run,bind,Sem.bind,pure,goInt]
 ·rename_i s hu heq
  simp only [q1_] at hv
  subst hv
  rw [heq] at he
  have e:=Z5b he
  refine Z2p (hr s.size ?_) (Z63 h hd (.p _ _ (.v _ rfl)) rfl hk)
  rw [e]
  unfold Builtin.len_
  simp [underlying,program,hu,Sem.run,bind,Sem.bind,pure,goInt]
 ·simp at hv
omit h hd in
theorem Zaf {t:TypeId} {n:Nat} (hn:Z4P P t = n) (h0:0 < n):∃ e i,P.underlying t = some (.slice e) ∧ P.info? e = some i ∧ i.size = n ∧ 0 < i.bytes ∧ i.bytes ≤ 104 ∧ ∃ z,i.zero = some z ∧ z.cells.size = n:=by
 unfold Z4P at hn
 split at hn
 ·rename_i e hu
  split at hn
  ·rename_i i hi
   split at hn
   ·rename_i hb
    refine ⟨e,i,hu,hi,hn,hb.1,hb.2.1,?_⟩
    have hz:=hb.2.2
    unfold zOk at hz
    split at hz
    ·rename_i z hz'
     exact ⟨z,hz',by rw [← hn]; simpa using hz⟩
    ·simp at hz
   ·omega
  ·omega
 ·omega
omit h hd in
theorem Z8M (b off k:Nat):(⟨b,off,none⟩:Addr).add k = ⟨b,off + k,none⟩:=by
 unfold Addr.add
 split
 ·subst_vars; rfl
 ·rfl
omit h hd in
theorem ZET {n:Nat} {x i v:AV} {u q:Value} (hx:ARel w S β B.length x u) (hi:ARel w S β B.length i q) (hv:xidx n x i = some v) :
  ∃ b off len cap kd j,u = .slice (some ⟨b,off,none⟩) len cap ∧ q = .int kd j ∧ 0 ≤ j ∧ j < len ∧ 0 < n ∧
   ARel w S β B.length v (.pointer (some ⟨b,off + j.toNat * n,none⟩)) ∧ isUn v = false:=by
 unfold xidx at hv
 split at hv
 ·rename_i o xs
  obtain ⟨kd,j,rfl,hv'⟩:=Zbi hv
  clear hv
  have hv:=hv'
  clear hv'
  have eq:=Z5b hi
  split at hv
  ·rename_i h0
   split at hv
   ·rename_i e he
    split at hv
    ·rename_i hn
     simp only [Z4R,beq_iff_eq,decide_eq_true_eq] at hn
     simp only [q1_] at hv
     subst hv
     obtain ⟨hlt,hget⟩:=q2_.1 he
     cases hx with
     | p _ _ hp =>
      cases hp with
      | lst _ _ ad cap b off sz g h1 h2 h3 h4 h5 h6 h7 h8 =>
       have hne:xs ≠ []:=by rintro rfl; simp at hlt
       obtain ⟨rfl,hs0,hsz⟩:=h6 hne
       have hsn:sz = n:=by rw [← hsz e (q9_ he)]; exact hn.1
       subst hsn
       refine ⟨b,off,xs.length,cap,kd,j,rfl,eq,h0,by omega,hs0,.cptr (Z1r e) b _ (g j.toNat) ?_,rfl⟩
       intro k c hc
       obtain ⟨a1,a2,a3⟩:=h7 _ e k c he hc
       rw [Znt]
       exact ⟨a1,a2,a3,h8 _ e k c he hc⟩
    ·simp at hv
   ·simp at hv
  ·simp at hv
 ·simp at hv
theorem ZvU {x i:Operand} {t:TypeId} (ho:o.op = .indexAddr t x i) {v:AV} (hv:xidx (Z4P P t) (ev sl x) (ev sl i) = some v) (hk:K v sl B = some r) :
  o.wp P a w (Z4d o w S β sl B a K r) Q:=by
 obtain ⟨b,off,len,cap,kd,j,hu,hq,h0,h1,hn,hr,hun⟩:=ZET (h.ev x) (h.ev i) hv
 obtain ⟨e,ti,hue,hie,hsz,_⟩:=Zaf (P:=P) rfl hn
 refine Z2p (w':=w) ?_ (Z63 h hd hr hun hk)
 unfold execOp
 simp only [ho,hu,hq]
 simp [Instr.indexAt,asIntOf,underlying,program,typeInfo,Go.sizeOf,hue,hie,hsz,h0,h1,Sem.run,Z8M,pure,bind,Sem.bind]
theorem Zxn {x i:Operand} {t e:TypeId} {n:Nat} (ho:o.op = .indexAddr t x i) (hu:P.underlying t = some (.array n e)) {v:AV} (hv:Zro n (sizeOf P e) (ev sl x) (ev sl i) = some v)
  (hi:(P.info? e).isSome = true) (hk:K v sl B = some r):o.wp P a w (Z4d o w S β sl B a K r) Q:=by
 have hx:=h.ev x
 have hq:=h.ev i
 obtain ⟨u,hue⟩:∃ u,a.eval x = u:=⟨_,rfl⟩
 rw [hue] at hx
 unfold Zro at hv
 split at hv
 ·rename_i id off heq
  obtain ⟨kd,j,hie,hv'⟩:=Zbi hv
  clear hv
  have hv:=hv'
  clear hv'
  rw [heq] at hx
  rw [hie] at hq
  have eq:=Z5b hq
  split at hv
  ·rename_i hj
   simp only [q1_] at hv
   subst hv
   cases hx with
   | ptr _ _ hid =>
    refine Z2p (v:=.pointer (some ⟨β id,off + j.toNat * sizeOf P e,none⟩)) (w':=w) ?_ (Z63 h hd (.ptr _ _ hid) rfl hk)
    obtain ⟨ti,hti⟩:=Option.isSome_iff_exists.1 hi
    have es:sizeOf P e = ti.size:=by simp [sizeOf,hti]
    unfold execOp
    simp only [ho,hue,eq]
    simp [Instr.indexAt,asIntOf,Instr.sureAddr,underlying,program,typeInfo,Go.sizeOf,hu,hti,hj.1,hj.2,Sem.run,Z8M,pure,bind,Sem.bind,es]
  ·simp at hv
 ·rename_i cs heq
  obtain ⟨kd,j,hie,hv'⟩:=Zbi hv
  clear hv
  have hv:=hv'
  clear hv'
  rw [heq] at hx
  rw [hie] at hq
  have eq:=Z5b hq
  split at hv
  ·rename_i hj
   simp only [q1_] at hv
   subst hv
   cases hx with
   | cptr _ b o' g hg =>
    refine Z2p (v:=.pointer (some ⟨b,o' + j.toNat * sizeOf P e,none⟩)) (w':=w) ?_ (Z63 h hd (.cptr _ b (o' + j.toNat * sizeOf P e) (fun q => g (j.toNat * sizeOf P e + q)) ?_) rfl hk)
    ·obtain ⟨ti,hti⟩:=Option.isSome_iff_exists.1 hi
     have es:sizeOf P e = ti.size:=by simp [sizeOf,hti]
     unfold execOp
     simp only [ho,hue,eq]
     simp [Instr.indexAt,asIntOf,Instr.sureAddr,underlying,program,typeInfo,Go.sizeOf,hu,hti,hj.1,hj.2,Sem.run,Z8M,pure,bind,Sem.bind,es]
    ·intro q c hc
     rw [Zka] at hc
     have:=hg (j.toNat * sizeOf P e + q) c hc
     rwa [← Znt] at this
  ·simp at hv
 ·simp at hv
end
end Go.Abs
end
section
namespace Go.Abs
open Go
section
variable {P:Program} {H:Hints} {f:FuncId} {G:GF} {nt m0:Nat} {o:Oper} {w:World} {S:Stay} {β:Nat → Nat} {sl:Sl} {B:List Row} {a:Act}
 {K:AV → Sl → List Row → Option Res} {r:Res} {next:Act → World → Prop} {Q:Exit → Act → World → Prop}
def aggT:TypeDesc → Bool
 | .struct _ => true
 | .array _ _ => true
 | _ => false
theorem ZnA {t:TypeId} {d:TypeDesc} (h:P.underlying t = some d) (w:World):(isAgg t).run P w = .ok (aggT d) w:=by
 unfold isAgg
 simp only [underlying,Sem.run_bind,run_program,Result.andThen_ok,h]
 cases d <;> rfl
theorem run_sizeOf {t:TypeId} {i:TypeInfo} (h:P.info? t = some i) (w:World):(Go.sizeOf t).run P w = .ok i.size w:=by
 unfold Go.sizeOf typeInfo
 simp only [Sem.run_bind,run_program,Result.andThen_ok,h]
 rfl
theorem run_underlying {t:TypeId} {d:TypeDesc} (h:P.underlying t = some d) (w:World):(underlying t).run P w = .ok d w:=by
 unfold underlying
 simp only [Sem.run_bind,run_program,Result.andThen_ok,h]
 rfl
variable (h:Good nt w S β sl B a) (hd:∀ t,o.dst = some t → t < nt)
include h hd
theorem Z3E {s:Sem Value} (hs:execOp a.eval o = s.bind fun x => Sem.pure (Next.value x)) {v:Value} {x:AV} (hv:s.run P w = .ok v w) (hx:ARel w S β B.length x v) (hu:isUn x = false)
  (hk:K x sl B = some r):o.wp P a w (Z4d o w S β sl B a K r) Q:=by
 refine Z2p (v:=v) (w':=w) ?_ (Z63 h hd hx hu hk)
 rw [hs,Sem.run_bind',hv]
 rfl
theorem ZvT {x:Operand} {s:TypeId} {fd off:Nat} (ho:o.op = .fieldAddr s x fd) (hf:Zci P s fd = some off) {v:AV} (hv:xfld off (ev sl x) = some v) (hk:K v sl B = some r) :
  o.wp P a w (Z4d o w S β sl B a K r) Q:=by
 have he:=h.ev x
 obtain ⟨u,hue⟩:∃ u,a.eval x = u:=⟨_,rfl⟩
 rw [hue] at he
 unfold Zci at hf
 split at hf
 ·rename_i fields hus
  split at hf
  ·rename_i fl hfl
   split at hf
   ·simp at hf
   ·rename_i hz
    simp only [q1_] at hf
    obtain ⟨i,hi⟩:∃ i,P.info? fl.type = some i:=by
     cases hh:P.info? fl.type with
     | none => simp [sizeOf,hh] at hz
     | some i => exact ⟨i,rfl⟩
    have hsz:¬ i.size = 0:=by simpa [sizeOf,hi] using hz
    have hrun:∀ b o',u = .pointer (some ⟨b,o',none⟩) → (Instr.fieldAt s u fd).run P w = .ok (.pointer (some ⟨b,o' + off,none⟩)) w:=by
     intro b o' e
     subst e
     unfold Instr.fieldAt
     simp [run_underlying hus,hfl,Instr.sureAddr,fieldPlace,run_sizeOf hi,hsz,Z8M,hf]
    have hs:execOp a.eval o = (Instr.fieldAt s u fd).bind fun x => Sem.pure (Next.value x):=by
     unfold execOp
     simp only [ho,hue]
     rfl
    unfold xfld at hv
    split at hv
    ·rename_i id o' heq
     simp only [q1_] at hv
     subst hv
     rw [heq] at he
     cases he with
     | ptr _ _ hid => exact Z3E h hd hs (hrun _ _ rfl) (.ptr _ _ hid) rfl hk
    ·rename_i cs heq
     simp only [q1_] at hv
     subst hv
     rw [heq] at he
     cases he with
     | cptr _ b o' g hg =>
      refine Z3E h hd hs (hrun _ _ rfl) (.cptr _ b (o' + off) (fun j => g (off + j)) ?_) rfl hk
      intro j c hc
      rw [Zka] at hc
      have:=hg (off + j) c hc
      rwa [← Znt] at this
    ·simp at hv
  ·simp at hf
 ·simp at hf
omit h hd in
theorem Z9a {t:TypeId} {b:Bool} {n:Nat} (hs:shape P t = some (b,n)) :
  ∃ d i,P.underlying t = some d ∧ P.info? t = some i ∧ i.size = n ∧ b = aggT d ∧ (b = false → n = 1):=by
 unfold shape at hs
 split at hs <;> try simp at hs
 ·rename_i hu hi
  obtain ⟨rfl,rfl⟩:=hs
  exact ⟨_,_,hu,hi,rfl,rfl,by simp⟩
 ·rename_i hu hi
  obtain ⟨rfl,rfl⟩:=hs
  exact ⟨_,_,hu,hi,rfl,rfl,by simp⟩
 ·rename_i d i _ h1 h2 hu hi
  obtain ⟨h0,rfl,rfl⟩:=hs
  refine ⟨_,_,hu,hi,h0,?_,by simp⟩
  unfold aggT
  split
  ·exact absurd rfl (h1 _)
  ·exact absurd rfl (h2 _ _)
  ·rfl
omit h hd in
theorem Zwl {t:TypeId} {b:Bool} {n off:Nat} (hs:shape P t = some (b,n)) (arr:Array Value) (w:World) :
  (part t arr off).run P w = if b then .ok (.agg (arr.extract off (off + n))) w else match arr[off]? with | some v => .ok v w | none => .halt (.stuck "part: no such cell") w := by
 obtain ⟨d,i,hu,hi,hsz,hb,_⟩:=Z9a hs
 unfold part
 rw [Sem.run_bind,ZnA hu,← hb]
 cases b with
 | true => simp [run_sizeOf hi,hsz]
 | false =>
  simp only [Result.andThen_ok,Zj4,if_false]
  cases arr[off]? <;> rfl
omit h hd in
theorem ZoM {n:Nat}:∀ {cs:List AV} {ps:List PV},allP cs = some ps → cs = ps.map .p
 | [],ps,h => by simp [allP] at h; subst h; rfl
 | .p x :: r,ps,h => by
  simp only [allP] at h
  obtain ⟨q,hq,rfl⟩:=q6_.1 h
  simp [ZoM (n:=n) hq]
 | .ptr .. :: _,_,h => by simp [allP] at h
 | .cptr _ :: _,_,h => by simp [allP] at h
 | .clo .. :: _,_,h => by simp [allP] at h
 | .agg _ :: _,_,h => by simp [allP] at h
 | .tup _ :: _,_,h => by simp [allP] at h
omit h hd in
theorem Znf {n:Nat} {cs:List AV} {arr:Array Value} (h1:arr.size = cs.length) (h2:∀ c,c ∈ cs → Z3g c = true ∧ isUn c = false)
  (h3:∀ (i:Nat) (c:AV) (v:Value),cs[i]? = some c → arr[i]? = some v → ARel w S β n c v):ARel w S β n (Zfj cs) (.agg arr):=by
 unfold Zfj
 split
 ·rename_i ps hps
  have e:=ZoM (n:=n) hps
  subst e
  refine .p _ _ (.agg ps arr (by simpa using h1) ?_ ?_)
  ·intro c hc
   obtain ⟨a1,a2⟩:=h2 (.p c) (Z7a.2 ⟨c,hc,rfl⟩)
   unfold Z42
   simp only [Z3g] at a1
   rw [ZkY] at a2
   rw [a1]
   simpa using a2
  ·intro i c v hc hv
   have:=h3 i (.p c) v (by rw [q7_,hc]; rfl) hv
   cases this with
   | p _ _ hp => exact hp
 ·refine .agg cs arr h1 ?_ h3
  intro c hc
  exact h2 c hc
omit h hd in
theorem ZlI (cs:List AV):isUn (Zfj cs) = false:=by
 unfold Zfj
 split <;> rfl
omit h hd in
theorem ZjJ {c:PV} (hc:Z42 c = true):Z3g (.p c) = true ∧ isUn (.p c) = false:=by
 unfold Z42 at hc
 simp only [Z4R] at hc
 refine ⟨hc.1,?_⟩
 rw [ZkY,hc.2]
 rfl
omit h hd in
theorem ZvX {n off k:Nat} {ag:Bool} {x v:AV} {u:Value} (hx:ARel w S β n x u) (hv:Zof ag off k x = some v) :
  ∃ arr,u = .agg arr ∧ isUn v = false ∧
   (ag = true → ARel w S β n v (.agg (arr.extract off (off + k)))) ∧ (ag = false → ∃ c,arr[off]? = some c ∧ ARel w S β n v c):=by
 unfold Zof at hv
 split at hv
 ·rename_i cs
  cases hx with
  | p _ _ hp =>
   cases hp with
   | agg _ arr h1 h2 h3 =>
    refine ⟨arr,rfl,?_⟩
    cases ag with
    | true =>
     simp only [if_true] at hv
     split at hv
     ·rename_i hle
      simp only [q1_] at hv
      subst hv
      refine ⟨rfl,fun _ => .p _ _ (.agg _ _ ?_ ?_ ?_),by simp⟩
      ·simp; omega
      ·intro c hc
       exact h2 c (Ztc (Zpi hc))
      ·intro i c v hc hv
       rw [Zet] at hc
       split at hc
       ·rw [Zka] at hc
        refine h3 (off + i) c v hc ?_
        rw [Array.getElem?_extract] at hv
        split at hv
        ·exact hv
        ·simp at hv
       ·simp at hc
     ·simp at hv
    | false =>
     obtain ⟨c,hc,hv'⟩:=ZR hv
     simp only [q1_] at hv'
     subst hv'
     have hlt:off < arr.size:=by rw [h1]; exact (q2_.1 hc).1
     refine ⟨(ZjJ (h2 c (q9_ hc))).2,by simp,fun _ => ⟨arr[off],by simp [hlt],.p _ _ (h3 off c _ hc (by simp [hlt]))⟩⟩
 ·rename_i cs
  cases hx with
  | agg _ arr h1 h2 h3 =>
   refine ⟨arr,rfl,?_⟩
   have h2':∀ c,c ∈ cs → Z3g c = true ∧ isUn c = false:=h2
   cases ag with
   | true =>
    simp only [if_true] at hv
    split at hv
    ·rename_i hle
     simp only [q1_] at hv
     subst hv
     refine ⟨ZlI _,fun _ => Znf ?_ ?_ ?_,by simp⟩
     ·simp; omega
     ·intro c hc
      exact h2' c (Ztc (Zpi hc))
     ·intro i c v hc hv
      rw [Zet] at hc
      split at hc
      ·rw [Zka] at hc
       refine h3 (off + i) c v hc ?_
       rw [Array.getElem?_extract] at hv
       split at hv
       ·exact hv
       ·simp at hv
      ·simp at hc
    ·simp at hv
   | false =>
    have hlt:off < arr.size:=by rw [h1]; exact (q2_.1 hv).1
    refine ⟨(h2' v (q9_ hv)).2,by simp,fun _ => ⟨arr[off],by simp [hlt],h3 off v _ hv (by simp [hlt])⟩⟩
 ·simp at hv
theorem Zxs {x:Operand} {s:TypeId} {fd n:Nat} {fields:Array Field} {fl:Field} {ag:Bool} (ho:o.op = .field s x fd) (hu:P.underlying s = some (.struct fields)) (hf:fields[fd]? = some fl)
  (hs:shape P fl.type = some (ag,n)) {v:AV} (hv:Zof ag fl.offset n (ev sl x) = some v) (hk:K v sl B = some r):o.wp P a w (Z4d o w S β sl B a K r) Q:=by
 obtain ⟨arr,hue,hun,hr1,hr2⟩:=ZvX (h.ev x) hv
 have hs':execOp a.eval o = (Instr.field s (.agg arr) fd).bind fun x => Sem.pure (Next.value x):=by
  unfold execOp
  simp only [ho,hue]
  rfl
 have hrun:(Instr.field s (.agg arr) fd).run P w = (part fl.type arr fl.offset).run P w:=by
  unfold Instr.field
  simp [run_underlying hu,hf,asAgg]
 rw [Zwl hs] at hrun
 cases ag with
 | true => exact Z3E h hd hs' (by rw [hrun]; rfl) (hr1 rfl) hun hk
 | false =>
  obtain ⟨c,hc,hr⟩:=hr2 rfl
  exact Z3E h hd hs' (by rw [hrun,hc]; rfl) hr hun hk
end
end Go.Abs
end
section
namespace Go.Abs
open Go
theorem Ztp {op:BinOp} {t:TypeId} {x y:Operand} {u c:Value} (h1:u ≠ .nilIface) (h2:∀ a,u ≠ .agg a):eqGuard op t x y u c = pure ():=by
 unfold eqGuard
 cases op <;> first
  | rfl
  | (cases u <;> first | exact absurd rfl h1 | exact absurd rfl (h2 _) | (cases c <;> rfl))
theorem ZjF (x:AV):isUn (nrmA x) = false:=by
 cases x with
 | p x => cases x <;> rfl
 | _ => rfl
theorem ZvH (x:PV):Z3g (.p (nrmP x)) = Z3g (.p x):=Zfg x
theorem ARel.nrmA {w:World} {S:Stay} {β:Nat → Nat} {n:Nat} {x:AV} {v:Value} (h:ARel w S β n x v):ARel w S β n (nrmA x) v:=by
 cases x with
 | p x =>
  cases h with
  | p _ _ hp => exact .p _ _ hp.nrm
 | agg cs =>
  cases h with
  | agg _ arr h1 h2 h3 =>
   refine .agg _ arr (by simpa using h1) ?_ ?_
   ·intro c hc
    obtain ⟨d,hd,rfl⟩:=Z7a.1 hc
    have:=h2 d hd
    cases d with
    | p x =>
     refine ⟨(ZvH x).trans this.1,?_⟩
     show isUn (.p (Go.Abs.nrmP x)) = false
     rw [ZkY,ZlT]
     rfl
    | _ => exact this
   ·intro i c u hc hu
    rw [q7_] at hc
    obtain ⟨d,hd,rfl⟩:=q6_.1 hc
    have:=h3 i d u hd hu
    cases d with
    | p x => cases this with
     | p _ _ hp => exact .p _ _ hp.nrmP
    | _ => exact this
 | tup vs =>
  cases h with
  | tup _ arr h1 h2 h3 =>
   refine .tup _ arr (by simpa using h1) ?_ ?_
   ·intro c hc
    obtain ⟨d,hd,rfl⟩:=Z7a.1 hc
    cases d with
    | p x => exact ZjF (.p x)
    | _ => exact h2 _ hd
   ·intro i c u hc hu
    rw [q7_] at hc
    obtain ⟨d,hd,rfl⟩:=q6_.1 hc
    have:=h3 i d u hd hu
    cases d with
    | p x => cases this with
     | p _ _ hp => exact .p _ _ hp.nrm
    | _ => exact this
 | _ => exact h
section
variable {P:Program} {H:Hints} {f:FuncId} {G:GF} {nt m0:Nat} {o:Oper} {w:World} {S:Stay} {β:Nat → Nat} {sl:Sl} {B:List Row} {a:Act}
 {K:AV → Sl → List Row → Option Res} {r:Res} {next:Act → World → Prop} {Q:Exit → Act → World → Prop}
theorem Good.evs {nt:Nat} {w:World} {S:Stay} {β:Nat → Nat} {sl:Sl} {B:List Row} {a:Act} (h:Good nt w S β sl B a) (xs:Array Operand) :
  (xs.map a.eval).size = (evs sl xs).length ∧ ∀ (i:Nat) (c:AV) (v:Value),(evs sl xs)[i]? = some c → (xs.map a.eval)[i]? = some v → ARel w S β B.length c v:=by
 unfold Go.Abs.evs
 refine ⟨by simp,?_⟩
 intro i c v hc hv
 rw [q7_] at hc
 rw [Zwa] at hv
 obtain ⟨x,hx,rfl⟩:=q6_.1 hc
 obtain ⟨y,hy,rfl⟩:=q6_.1 hv
 rw [Zsd] at hx
 rw [hx] at hy
 cases hy
 exact h.ev x
variable (h:Good nt w S β sl B a) (hd:∀ t,o.dst = some t → t < nt)
include h hd
theorem ZF6 {g:FuncId} {first cap:Array Operand} (ho:o.op = .makeFunc (.func g) first cap) (hk:K (.clo g ((evs sl first).map nrmA) ((evs sl cap).map nrmA)) sl B = some r) :
  o.wp P a w (Z4d o w S β sl B a K r) Q:=by
 obtain ⟨f1,f2⟩:=h.evs first
 obtain ⟨c1,c2⟩:=h.evs cap
 refine Z3E h hd (s:=Instr.makeFunc (.func g) (first.map a.eval) (cap.map a.eval)) (by unfold execOp; simp only [ho]; rfl) (v:=.func (.func g) (first.map a.eval) (cap.map a.eval)) (by unfold Instr.makeFunc; rfl) ?_ rfl hk
 refine .clo g _ _ _ _ (by simpa using f1) (by simpa using c1) ?_ ?_ ?_
 ·intro i c v hc hv
  rw [q7_] at hc
  obtain ⟨d,hd',rfl⟩:=q6_.1 hc
  exact (f2 i d v hd' hv).nrmA
 ·intro i c v hc hv
  rw [q7_] at hc
  obtain ⟨d,hd',rfl⟩:=q6_.1 hc
  exact (c2 i d v hd' hv).nrmA
 ·intro c hc
  rcases Zb8.1 hc with hc | hc <;> (obtain ⟨d,_,rfl⟩:=Z7a.1 hc; exact ZjF d)
omit h hd in
theorem ZC9 {t:TypeId} {c u:Value} {x:AV} {b:Bool} (hn:Zl2 P t c x = true) (hx:ARel w S β B.length x u) (hb:ZdT x = some b) :
  (Op.equal t u c).run P w = .ok b w ∧ (∀ k n,u ≠ .int k n) ∧ (∀ k n,u ≠ .float k n) ∧ (∀ s,u ≠ .string s) ∧ (∀ k a b,u ≠ .complex k a b) ∧ (∀ a,u ≠ .agg a) ∧ u ≠ .nilIface:=by
 unfold Zl2 at hn
 unfold Op.equal Op.maxDepth
 split at hn <;> try simp at hn
 ·rename_i e o' xs hu
  cases hx with
  | p _ _ hp =>
   cases hp with
   | lst _ _ ad cap bl off sz g h1 h2 h3 h4 h5 h6 h7 h8 =>
    refine ⟨?_,by simp,by simp,by simp,by simp,by simp,by simp⟩
    unfold Op.equalIn
    have hb':b = ad.isNone:=by
     unfold ZdT at hb
     cases o' with
     | nl => simp only [q1_] at hb; rw [(h2 rfl).1,← hb]; rfl
     | ex =>
      cases xs with
      | nil => simp at hb
      | cons y ys =>
       simp only [q1_] at hb
       have:=(h6 (by simp)).1
       rw [this,← hb]; rfl
     | un =>
      simp only [q1_] at hb
      have:=(h6 (h4 rfl)).1
      rw [this,← hb]; rfl
     | sh =>
      cases xs with
      | nil => simp at hb
      | cons y ys =>
       simp only [q1_] at hb
       have:=(h6 (by simp)).1
       rw [this,← hb]; rfl
    subst hb'
    cases ad <;> simp [run_underlying hu]
 ·rename_i e id off hu
  cases hx with
  | ptr _ _ hid =>
   refine ⟨?_,by simp,by simp,by simp,by simp,by simp,by simp⟩
   unfold Op.equalIn
   simp only [ZdT,q1_] at hb
   subst hb
   simp [run_underlying hu]
 ·rename_i e cs hu
  cases hx with
  | cptr _ bl off g hg =>
   refine ⟨?_,by simp,by simp,by simp,by simp,by simp,by simp⟩
   unfold Op.equalIn
   simp only [ZdT,q1_] at hb
   subst hb
   simp [run_underlying hu]
 ·rename_i e hu
  have e:=Z5b hx
  subst e
  refine ⟨?_,by simp,by simp,by simp,by simp,by simp,by simp⟩
  unfold Op.equalIn
  simp only [ZdT,q1_] at hb
  subst hb
  simp [run_underlying hu]
 ·rename_i p1 p2 p3 g fi ca hu
  cases hx with
  | clo _ _ _ a1 a2 h1 h2 h3 h4 h5 =>
   refine ⟨?_,by simp,by simp,by simp,by simp,by simp,by simp⟩
   unfold Op.equalIn
   simp only [ZdT,q1_] at hb
   subst hb
   simp [run_underlying hu]
 ·rename_i p1 p2 p3 hu
  have e:=Z5b hx
  subst e
  refine ⟨?_,by simp,by simp,by simp,by simp,by simp,by simp⟩
  unfold Op.equalIn
  simp only [ZdT,q1_] at hb
  subst hb
  simp [run_underlying hu]
theorem ZCp {op:BinOp} {t yt:TypeId} {x:Operand} {c:Value} (ho:o.op = .binOp op t x (.const c) yt) {v:AV} (hv:xnil P op t c (ev sl x) = some v) (hk:K v sl B = some r) :
  o.wp P a w (Z4d o w S β sl B a K r) Q:=by
 unfold xnil at hv
 split at hv
 ·rename_i hn
  obtain ⟨b,hb,hv'⟩:=ZR hv
  obtain ⟨he,n1,n2,n3,n4,n5,n6⟩:=ZC9 (w:=w) hn (h.ev x) hb
  have hc:(∀ k n,c ≠ .int k n) ∧ c ≠ .nilIface:=by
   unfold Zl2 at hn
   split at hn <;> simp at hn <;> simp
  obtain ⟨u,hue⟩:∃ u,a.eval x = u:=⟨_,rfl⟩
  rw [hue] at he n1 n2 n3 n4 n5 n6
  have hs:execOp a.eval o = (do eqGuard op t x (.const c) u c; binOp op t u c:Sem Value).bind fun x => Sem.pure (Next.value x):=by
   unfold execOp
   simp only [ho,hue]
   rfl
  have hg:eqGuard op t x (.const c) u c = pure ():=Ztp n6 n5
  have hb2:∀ q:Bool,op = (if q then .eql else .neq) → (binOp op t u c).run P w = .ok (.bool (if q then b else !b)) w:=by
   intro q hq
   have:binOp op t u c = if q then (do pure (.bool (← Op.equal t u c))) else (do pure (.bool (!(← Op.equal t u c)))):=by
    subst hq
    unfold binOp
    cases q <;> cases u <;> first | rfl | (exact absurd rfl (n1 _ _)) | (exact absurd rfl (n2 _ _)) | (exact absurd rfl (n3 _)) | (exact absurd rfl (n4 _ _ _))
   rw [this]
   cases q <;> simp [he]
  split at hv' <;> simp only [q1_,reduceCtorEq] at hv'
  ·subst hv'
   refine Z3E h hd hs (v:=.bool b) ?_ (.p _ _ (.v _ rfl)) rfl hk
   rw [hg]
   simpa using hb2 true rfl
  ·subst hv'
   refine Z3E h hd hs (v:=.bool !b) ?_ (.p _ _ (.v _ rfl)) rfl hk
   rw [hg]
   simpa using hb2 false rfl
 ·simp at hv
end
end Go.Abs
end
section
namespace Go.Abs
open Go
section
variable {P:Program} {H:Hints} {f:FuncId} {G:GF} {nt m0:Nat} {o:Oper} {w:World} {S:Stay} {β:Nat → Nat} {sl:Sl} {B:List Row} {a:Act}
 {K:AV → Sl → List Row → Option Res} {r:Res} {next:Act → World → Prop} {Q:Exit → Act → World → Prop}
theorem Zgm {k:IntKind} {i:Int} {y:Nat} {code:BoundsCode} (h0:0 ≤ i) (h1:i ≤ y) (w:World):(Instr.sliceBound (.int k i) y code).run P w = .ok i.toNat w:=by
 unfold Instr.sliceBound
 simp [asIntOf,h0,h1]
def Bnd (d:Int) (x:Option Value) (n:Int):Prop:=(x = none ∧ n = d) ∨ ∃ k,x = some (.int k n)
theorem Zc8 {isSlice:Bool} {len cap:Nat} {lo hi mx:Option Value} {l h m:Int} (hl:Bnd 0 lo l) (hh:Bnd len hi h) (hm:Bnd cap mx m)
  (h0:0 ≤ l) (h1:l ≤ h) (h2:h ≤ len) (h3:h ≤ m) (h4:m ≤ cap) (hx:mx.isSome = true → hi.isSome = true) (w:World) :
  (Instr.sliceBounds isSlice len cap lo hi mx).run P w = .ok (l.toNat,h.toNat,m.toNat) w:=by
 unfold Instr.sliceBounds
 rcases hl with ⟨rfl,rfl⟩ | ⟨kl,rfl⟩ <;> rcases hh with ⟨rfl,rfl⟩ | ⟨kh,rfl⟩ <;> rcases hm with ⟨rfl,rfl⟩ | ⟨km,rfl⟩ <;>
  first
  | (simp at hx; done)
  | (simp [Zgm,h0,h1,h3,h4,Znu h0 h1,Znu (Znu h0 h1) h3,Int.toNat_of_nonneg (Znu h0 h1),Int.toNat_of_nonneg (Znu (Znu h0 h1) h3)]; done)
  | skip
 all_goals (first | (rw [Zgm] <;> first | omega | simp [Zgm,h0,h1,h2,h3,h4]) | skip)
def slo:Own → Own
 | .nl => .nl
 | _ => .sh
theorem ZlU (h:Good nt w S β sl B a) {d l:Int} {x:Option Operand} (hx:optI d (evo sl x) = some l):Bnd d (x.map a.eval) l:=by
 cases x with
 | none => simp only [evo,Zo9,optI,q1_] at hx; exact .inl ⟨rfl,hx.symm⟩
 | some y =>
  have he:=h.ev y
  simp only [evo,Z8O] at hx
  unfold optI at hx
  split at hx
  ·rename_i heq; simp at heq
  ·rename_i k n heq
   simp only [q1_] at heq hx
   subst hx
   rw [heq] at he
   exact .inr ⟨k,by rw [Z8O,Z5b he]⟩
  ·simp at hx
variable (h:Good nt w S β sl B a) (hd:∀ t,o.dst = some t → t < nt)
include h hd
theorem ZCq {t:TypeId} {x:Operand} {lo hi mx:Option Operand} (ho:o.op = .slice t x lo hi mx) (hu:Zdf P t = true) (hm:mx.isSome = false)
  {v:AV} (hv:xslS (ev sl x) (evo sl lo) (evo sl hi) = some v) (hk:K v sl B = some r):o.wp P a w (Z4d o w S β sl B a K r) Q:=by
 have he:=h.ev x
 cases mx with
 | some y => simp at hm
 | none =>
 have hu':P.underlying t = some .string:=by
  unfold Zdf at hu
  split at hu
  ·assumption
  ·simp at hu
 have hs:execOp a.eval o = (Instr.sliceAt t (a.eval x) (lo.map a.eval) (hi.map a.eval) none).bind fun x => Sem.pure (Next.value x):=by
  unfold execOp
  simp only [ho]
  rfl
 unfold xslS at hv
 split at hv
 ·rename_i s heq
  rw [heq] at he
  have e:=Z5b he
  obtain ⟨l,hl,hv1⟩:=ZR hv
  obtain ⟨hh,hhe,hv2⟩:=ZR hv1
  split at hv2
  ·rename_i hb
   simp only [q1_] at hv2
   subst hv2
   refine Z3E h hd hs (v:=.string (s.extract l.toNat hh.toNat)) ?_ (.p _ _ (.v _ rfl)) rfl hk
   have:=Zc8 (P:=P) (isSlice:=false) (len:=s.size) (cap:=s.size) (mx:=none) (m:=s.size) (ZlU h hl) (ZlU h hhe) (.inl ⟨rfl,rfl⟩) hb.1 hb.2.1 hb.2.2 hb.2.2 (Zew _) (by simp) w
   unfold Instr.sliceAt Instr.slice
   simp [run_underlying hu',e,this]
  ·simp at hv2
 ·simp at hv
theorem ZDF {t:TypeId} {x:Operand} {lo hi mx:Option Operand} (ho:o.op = .slice t x lo hi mx)
  {v:AV} (hv:xsl (Z4P P t) (ev sl x) (evo sl lo) (evo sl hi) (evo sl mx) = some v) (hmh:mx.isSome = true → hi.isSome = true) (hk:K v sl B = some r):o.wp P a w (Z4d o w S β sl B a K r) Q:=by
 have he:=h.ev x
 have hs:execOp a.eval o = (Instr.sliceAt t (a.eval x) (lo.map a.eval) (hi.map a.eval) (mx.map a.eval)).bind fun x => Sem.pure (Next.value x):=by
  unfold execOp
  simp only [ho]
  rfl
 obtain ⟨u,hue⟩:∃ u,a.eval x = u:=⟨_,rfl⟩
 rw [hue] at he hs
 unfold xsl at hv
 split at hv
 ·rename_i o' xs heq
  rw [heq] at he
  obtain ⟨l,hl,hv1⟩:=ZR hv
  obtain ⟨hh,hhe,hv2⟩:=ZR hv1
  split at hv2
  ·rename_i hb
   obtain ⟨hb1,hb2,hb3,hb4,hb5⟩:=hb
   obtain ⟨e,ti,hu,hi',hsz,_⟩:=Zaf (P:=P) rfl hb5
   cases he with
   | p _ _ hp =>
    cases hp with
    | lst _ _ ad cap b off sz g h1 h2 h3 h4 h5 h6 h7 h8 =>
     have hm:∃ m:Int,Bnd cap (mx.map a.eval) m ∧ hh ≤ m ∧ m ≤ cap ∧ (mx.isSome = true → m = hh) ∧
       ∃ ow,(ow = .nl → o' = .nl) ∧ (ow = .ex → m = hh) ∧ ow ≠ .un ∧ v = .p (.lst ow ((xs.take hh.toNat).drop l.toNat)):=by
      cases mx with
      | none =>
       simp only [evo,Zo9,q1_] at hv2
       exact ⟨cap,.inl ⟨rfl,rfl⟩,by omega,Zew _,by simp,slo o',by cases o' <;> simp [slo],by cases o' <;> simp [slo],by cases o' <;> simp [slo],hv2.symm⟩
      | some y =>
       have hy:=h.ev y
       simp only [evo,Z8O] at hv2
       obtain ⟨k,n,hn,hv3⟩:=Zbi hv2
       rw [hn] at hy
       split at hv3
       ·rename_i hc
        simp only [q1_] at hv3
        subst hc
        exact ⟨n,.inr ⟨k,by rw [Z8O,Z5b hy]⟩,Zew _,by omega,fun _ => rfl,.ex,by simp,fun _ => rfl,by simp,hv3.symm⟩
       ·simp at hv3
     obtain ⟨m,hm1,hm2,hm3,hm4,ow,ho1,ho2,ho3,rfl⟩:=hm
     have hmh':(mx.map a.eval).isSome = true → (hi.map a.eval).isSome = true:=by simpa using hmh
     have hrun:=Zc8 (P:=P) (isSlice:=true) (ZlU h hl) (ZlU h hhe) hm1 hb1 hb2 hb3 hm2 hm3 hmh' w
     have hlen:((xs.take hh.toNat).drop l.toNat).length = hh.toNat - l.toNat:=by simp; omega
     refine Z3E h hd hs (v:=.slice (if m.toNat = l.toNat then ad else ad.map (·.add (l.toNat * ti.size))) (hh.toNat - l.toNat) (m.toNat - l.toNat)) ?_ (.p _ _ ?_) (by cases ow <;> first | rfl | exact absurd rfl ho3) hk
     ·unfold Instr.sliceAt Instr.slice
      simp [run_underlying hu,run_sizeOf hi',hrun]
     ·rw [← hlen]
      have hne:(xs.take hh.toNat).drop l.toNat ≠ [] → xs ≠ [] ∧ ¬ m.toNat = l.toNat:=by
       intro hne
       have:0 < ((xs.take hh.toNat).drop l.toNat).length:=List.length_pos_iff.2 hne
       rw [hlen] at this
       refine ⟨?_,by omega⟩
       rintro rfl
       simp at hb3
       omega
      have hel:∀ (i:Nat) (e:PV),((xs.take hh.toNat).drop l.toNat)[i]? = some e → xs[l.toNat + i]? = some e:=by
       intro i e hi
       rw [Zka,Zet] at hi
       split at hi
       ·exact hi
       ·simp at hi
      refine .lst _ _ _ _ b (off + l.toNat * ti.size) sz (fun i j => g (l.toNat + i) j) (by omega) ?_ ?_ ?_ ?_ ?_ ?_ ?_
      ·intro ho'
       have:o' = .nl:=ho1 ho'
       obtain ⟨rfl,rfl⟩:=h2 this
       have:m.toNat = l.toNat:=by omega
       rw [if_pos this]
       exact ⟨rfl,by omega⟩
      ·intro ho'; rw [ho2 ho']; omega
      ·intro ho'; exact absurd ho' ho3
      ·intro hn
       by_cases hml:m.toNat = l.toNat
       ·omega
       ·rw [if_neg hml] at hn
        have:=h5 (by simpa using hn)
        omega
      ·intro hy
       obtain ⟨hx,hml⟩:=hne hy
       obtain ⟨rfl,hs0,hall⟩:=h6 hx
       rw [if_neg hml]
       refine ⟨by simp [Z8M],hs0,fun e he => hall e (Zpi (Ztc he))⟩
      ·intro i e j c hie hjc
       have hie':=hel i e hie
       have hx:xs ≠ []:=by rintro rfl; simp at hie'
       have hszz:sz = ti.size:=by
        have hh4:(Z1r e).length = Z4P P t:=by
         have:=Z8v.1 hb4 e (q9_ hie')
         simpa using this
        rw [← (h6 hx).2.2 e (q9_ hie'),hh4,hsz]
       obtain ⟨q1,q2,q3⟩:=h7 _ e j c hie' hjc
       rw [hszz] at q1 q2 ⊢
       have earith:off + l.toNat * ti.size + (i * ti.size + j) = off + ((l.toNat + i) * ti.size + j):=by
        rw [Z9Y]; omega
       rw [earith]
       exact ⟨q1,q2,q3⟩
      ·intro i e j c hie hjc
       exact h8 _ e j c (hel i e hie) hjc
  ·simp at hv2
 ·simp at hv
end
end Go.Abs
end
section
namespace Go.Abs
open Go
section
variable {P:Program} {H:Hints} {f:FuncId} {G:GF} {nt m0:Nat} {o:Oper} {w:World} {S:Stay} {β:Nat → Nat} {sl:Sl} {B:List Row} {a:Act}
 {K:AV → Sl → List Row → Option Res} {r:Res} {next:Act → World → Prop} {Q:Exit → Act → World → Prop}
variable (h:Good nt w S β sl B a) (hd:∀ t,o.dst = some t → t < nt)
include h hd
theorem ZEw {t:TypeId} {x i:Operand} (ho:o.op = .index t x i) {v:AV} (hv:xat P t (ev sl x) (ev sl i) = some v) (hk:K v sl B = some r):o.wp P a w (Z4d o w S β sl B a K r) Q:=by
 have intOf:∀ {β':Type} {k:Int → Option β'} {r':β'},asInt (ev sl i) k = some r' → ∃ q j,a.eval i = .int q j ∧ k j = some r':=by
  intro β' k r' hh
  unfold asInt at hh
  split at hh
  ·rename_i q j heq
   have he:=h.ev i
   rw [heq] at he
   exact ⟨q,j,Z5b he,hh⟩
  ·simp at hh
 unfold xat at hv
 split at hv
 ·rename_i n e hu
  obtain ⟨s,hs,hv⟩:=ZR hv
  obtain ⟨q,j,hj,hv⟩:=intOf hv
  split at hv
  ·rename_i hb
   obtain ⟨arr,hue,hun,hr1,hr2⟩:=ZvX (h.ev x) hv
   obtain ⟨d,inf,hd1,hi,hsz,_⟩:=Z9a (b:=s.1) (n:=s.2) hs
   have hs':execOp a.eval o = (Instr.index t (.agg arr) (.int q j)).bind fun x => Sem.pure (Next.value x):=by
    unfold execOp
    simp only [ho,hue,hj]
    rfl
   have hrun:(Instr.index t (.agg arr) (.int q j)).run P w = (part e arr (j.toNat * s.2)).run P w:=by
    unfold Instr.index
    simp [run_underlying hu,asIntOf,hb.1,hb.2,run_sizeOf hi,hsz]
   rw [Zwl (n:=s.2) (b:=s.1) hs] at hrun
   cases hag:s.1 with
   | true =>
    rw [hag] at hrun hr1
    exact Z3E h hd hs' (by rw [hrun]; rfl) (hr1 rfl) hun hk
   | false =>
    rw [hag] at hrun hr2
    obtain ⟨c,hc,hr⟩:=hr2 rfl
    exact Z3E h hd hs' (by rw [hrun,hc]; rfl) hr hun hk
  ·simp at hv
 ·rename_i hu
  split at hv
  ·rename_i b heq
   obtain ⟨q,j,hj,hv⟩:=intOf hv
   split at hv
   ·rename_i h0
    obtain ⟨c,hc,hv⟩:=ZR hv
    simp only [q1_] at hv
    subst hv
    have he:=h.ev x
    rw [heq] at he
    have hxv:=Z5b he
    have hs':execOp a.eval o = (Instr.index t (.string b) (.int q j)).bind fun x => Sem.pure (Next.value x):=by
     unfold execOp
     simp only [ho,hxv,hj]
     rfl
    have hrun:(Instr.index t (.string b) (.int q j)).run P w = .ok (.int .u8 c.toNat) w:=by
     unfold Instr.index
     simp [run_underlying hu,asIntOf,h0,hc]
    exact Z3E h hd hs' (by rw [hrun]) (.p _ _ (.v _ rfl)) rfl hk
   ·simp at hv
  ·simp at hv
 ·simp at hv
end
end Go.Abs
end
section
namespace Go.Abs
open Go
section
variable {P:Program} {H:Hints} {f:FuncId} {G:GF} {nt m0:Nat} {o:Oper} {w:World} {S:Stay} {β:Nat → Nat} {sl:Sl} {B:List Row} {a:Act}
 {K:AV → Sl → List Row → Option Res} {r:Res} {next:Act → World → Prop} {Q:Exit → Act → World → Prop}
def ZhM (w:World) (b o:Nat):Value:=(w.cell? ⟨b,o,none⟩).getD undef
theorem Zaw {b o:Nat} {v:Value} (h:w.cell? ⟨b,o,none⟩ = some v):ZhM w b o = v:=by simp [ZhM,h]
theorem Znz {b off n:Nat} (h:∀ j,j < n → ∃ v,w.cell? ⟨b,off + j,none⟩ = some v) :
  (loadCells ⟨b,off,none⟩ n).run P w = .ok ((List.range n).map fun j => ZhM w b (off + j)).toArray w:=by
 refine run_loadCells (P:=P) w ⟨b,off,none⟩ n _ fun j hj => ?_
 obtain ⟨v,hv⟩:=h j hj
 rw [Z8M,hv,Zaw hv]
theorem Zgj {t:TypeId} {d:TypeDesc} {i:TypeInfo} {b off:Nat} (hu:P.underlying t = some d) (hi:P.info? t = some i) (ha:aggT d = true)
  (h:∀ j,j < i.size → ∃ v,w.cell? ⟨b,off + j,none⟩ = some v) :
  (loadVar t ⟨b,off,none⟩).run P w = .ok (.agg ((List.range i.size).map fun j => ZhM w b (off + j)).toArray) w:=by
 unfold loadVar
 simp [ZnA hu,ha,run_sizeOf hi,Znz h]
theorem Z9i {t:TypeId} {d:TypeDesc} {b off:Nat} {v:Value} (hu:P.underlying t = some d) (ha:aggT d = false) (h:w.cell? ⟨b,off,none⟩ = some v) :
  (loadVar t ⟨b,off,none⟩).run P w = .ok v w:=by
 unfold loadVar
 simp [ZnA hu,ha,h]
theorem Zk8 {x:AV} (h:Z3g x = true):Z3g (shr x) = true:=by
 cases x with
 | p x =>
  cases x with
  | lst o xs => cases o <;> rfl
  | tup vs => simp [Z3g,Z84] at h
  | _ => exact h
 | tup vs => simp [Z3g] at h
 | _ => exact h
theorem range_map_get {α:Type} {f:Nat → α} {n j:Nat} {v:α} (h:(((List.range n).map f).toArray)[j]? = some v):j < n ∧ v = f j:=by
 simp only [Zt8,q7_] at h
 obtain ⟨k,hk,rfl⟩:=q6_.1 h
 have:=q2_.1 hk
 obtain ⟨h1,h2⟩:=this
 simp at h1 h2
 exact ⟨h1,by rw [h2]⟩
theorem ZvI {t:TypeId} {ag:Bool} {k:Nat} {x v:AV} {u:Value} (hm:Mem w S β B) (hx:ARel w S β B.length x u) (hs:shape P t = some (ag,k)) (hv:ldN ag k x B = some v) :
  ∃ b off c,u = .pointer (some ⟨b,off,none⟩) ∧ (loadVar t ⟨b,off,none⟩).run P w = .ok c w ∧ ARel w S β B.length v c ∧ isUn v = false:=by
 obtain ⟨d,i,hu,hi,hsz,hag,h1⟩:=Z9a hs
 unfold ldN at hv
 split at hv
 ·rename_i id off
  obtain ⟨row,hrow,hv'⟩:=ZR hv
  have hmd:mdOf row = none:=by
   cases hd:mdOf row with
   | none => rfl
   | some es => simp [hd] at hv'
  rw [if_neg (by simp [hmd])] at hv'
  cases hx with
  | ptr _ _ hid =>
   cases ag with
   | true =>
    simp only [if_true] at hv'
    split at hv'
    ·rename_i hle
     simp only [q1_] at hv'
     subst hv'
     have hc:∀ j,j < k → ∃ x v,row[off + j]? = some x ∧ w.cell? ⟨β id,off + j,none⟩ = some v ∧ ARel w S β B.length x v ∧ Z3g x = true:=by
      intro j hj
      have hlt:off + j < row.length:=by omega
      obtain ⟨v,a1,a2,a3⟩:=hm.cell id row (off + j) row[off + j] hrow hmd (by simp [hlt])
      exact ⟨_,v,by simp [hlt],a1,a2,a3⟩
     refine ⟨β id,off,_,rfl,Zgj hu hi hag.symm (fun j hj => ?_),?_,ZlI _⟩
     ·obtain ⟨_,v,_,hv,_⟩:=hc j (by omega)
      exact ⟨v,hv⟩
     ·refine Znf ?_ ?_ ?_
      ·simp; omega
      ·intro c hc'
       obtain ⟨y,hy,rfl⟩:=Z7a.1 hc'
       obtain ⟨j,hj⟩:=ZcK.1 hy
       rw [Zet] at hj
       split at hj
       ·rename_i hjk
        rw [Zka] at hj
        obtain ⟨x',_,e1,_,_,e4⟩:=hc j hjk
        rw [hj] at e1
        cases e1
        exact ⟨Zk8 e4,Z4p _⟩
       ·simp at hj
      ·intro j c v' hc' hv'
       rw [q7_] at hc'
       obtain ⟨y,hy,rfl⟩:=q6_.1 hc'
       rw [Zet] at hy
       split at hy
       ·rename_i hjk
        rw [Zka] at hy
        obtain ⟨x',v2,e1,e2,e3,e4⟩:=hc j hjk
        rw [hy] at e1
        cases e1
        obtain ⟨_,rfl⟩:=range_map_get hv'
        rw [Zaw e2]
        exact e3.shr
       ·simp at hy
    ·simp at hv'
   | false =>
    obtain ⟨c,hc,hv2⟩:=ZR hv'
    simp only [q1_] at hv2
    subst hv2
    obtain ⟨v,a1,a2,a3⟩:=hm.cell id row off c hrow hmd hc
    exact ⟨β id,off,v,rfl,Z9i hu hag.symm a1,a2.shr,Z4p _⟩
 ·rename_i cs
  cases hx with
  | cptr _ b off g hg =>
   cases ag with
   | true =>
    simp only [if_true] at hv
    split at hv
    ·rename_i hle
     simp only [q1_] at hv
     subst hv
     have hc:∀ j,j < k → ∃ c,cs[j]? = some c:=fun j hj => ⟨cs[j],by simp⟩
     refine ⟨b,off,_,rfl,Zgj hu hi hag.symm (fun j hj => ?_),?_,rfl⟩
     ·obtain ⟨c,hc⟩:=hc j (by omega)
      exact ⟨_,(hg j c hc).1⟩
     ·refine .p _ _ (.agg _ _ ?_ ?_ ?_)
      ·simp; omega
      ·intro c hc'
       obtain ⟨j,hj⟩:=ZcK.1 (Zpi hc')
       exact (hg j c hj).2.2.1
      ·intro j c v' hc' hv'
       rw [Zet] at hc'
       split at hc'
       ·obtain ⟨_,rfl⟩:=range_map_get hv'
        rw [Zaw (hg j c hc').1]
        exact (hg j c hc').2.2.2
       ·simp at hc'
    ·simp at hv
   | false =>
    obtain ⟨c,hc,hv2⟩:=ZR hv
    simp only [q1_] at hv2
    subst hv2
    obtain ⟨a1,_,a3,a4⟩:=hg 0 c hc
    exact ⟨b,off,_,rfl,Z9i hu hag.symm a1,.p _ _ a4,(ZjJ a3).2⟩
 ·simp at hv
variable (h:Good nt w S β sl B a) (hd:∀ t,o.dst = some t → t < nt)
include h hd
theorem Zxq {t:TypeId} {x:Operand} {ag:Bool} {k:Nat} (ho:o.op = .load t x) (hs:shape P t = some (ag,k)) {v:AV} (hv:ldN ag k (ev sl x) B = some v) (hk:K v sl B = some r) :
  o.wp P a w (Z4d o w S β sl B a K r) Q:=by
 obtain ⟨b,off,c,hu,hrun,hr,hun⟩:=ZvI h.mem (h.ev x) hs hv
 refine Z3E h hd (s:=Instr.loadAt t (a.eval x)) (by unfold execOp; simp only [ho]; rfl) (v:=c) ?_ hr hun hk
 unfold Instr.loadAt
 simp [hu,Instr.sureAddr,hrun]
omit h hd in
theorem Zmu:∀ {xs:List PV} {l:List UInt8},bytesOf xs = some l → l.length = xs.length ∧ ∀ (i:Nat) (x:PV),xs[i]? = some x → ∃ n:Int,x = .v (.int .u8 n) ∧ l[i]? = some (UInt8.ofNat n.toNat)
 | [],l,h => by simp [bytesOf] at h; subst h; simp
 | x :: r,l,h => by
  simp only [bytesOf] at h
  split at h
  ·rename_i b bs hb hbs
   simp only [q1_] at h
   subst h
   obtain ⟨h1,h2⟩:=Zmu hbs
   refine ⟨by simp [h1],?_⟩
   intro i y hy
   cases i with
   | zero =>
    simp at hy
    subst hy
    unfold byteOf at hb
    split at hb
    ·simp only [q1_] at hb
     exact ⟨_,rfl,by simp [hb]⟩
    ·simp at hb
   | succ i => exact h2 i y (by simpa using hy)
  ·simp at h
omit h hd in
theorem Zoy:∀ (ns:List Int) (b:ByteArray),ns.foldl (fun r n => r.push (UInt8.ofNat n.toNat)) b = ⟨b.data ++ (ns.map fun n => UInt8.ofNat n.toNat).toArray⟩
 | [],b => by simp
 | n :: ns,b => by
  rw [ZdD,Zoy ns]
  congr 1
  apply Array.ext'
  simp [ByteArray.push]
theorem ZHP {s d:TypeId} {x:Operand} (ho:o.op = .convert s d x) (hd':Zdf P d = true) (hs:Z8q P s .u8 = true) {v:AV} (hv:xstr (ev sl x) = some v) (hk:K v sl B = some r) :
  o.wp P a w (Z4d o w S β sl B a K r) Q:=by
 have he:=h.ev x
 have hud:P.underlying d = some .string:=by
  unfold Zdf at hd'
  split at hd'
  ·assumption
  ·simp at hd'
 obtain ⟨e,hus,hue⟩:∃ e,P.underlying s = some (.slice e) ∧ P.underlying e = some (.int .u8):=by
  unfold Z8q at hs
  split at hs
  ·rename_i e hh
   refine ⟨e,hh,?_⟩
   split at hs
   ·rename_i k hk'
    have:k = .u8:=by cases k <;> simp_all (config:={ decide:=true })
    rw [hk',this]
   ·simp at hs
  ·simp at hs
 obtain ⟨u,hue'⟩:∃ u,a.eval x = u:=⟨_,rfl⟩
 rw [hue'] at he
 unfold xstr at hv
 split at hv
 ·rename_i o' xs heq
  obtain ⟨l,hl,rfl⟩:=q6_.1 hv
  obtain ⟨l1,l2⟩:=Zmu hl
  rw [heq] at he
  cases he with
  | p _ _ hp =>
   cases hp with
   | lst _ _ ad cap b off sz g h1 h2 h3 h4 h5 h6 h7 h8 =>
    refine Z3E h hd (s:=convert s d (a.eval x)) (by unfold execOp; simp only [ho]; rfl) (v:=.string ⟨l.toArray⟩) ?_ (.p _ _ (.v _ rfl)) rfl hk
    have hcv:(convert s d (.slice ad xs.length cap)).run P w = (Conv.bytesToString (.slice ad xs.length cap)).run P w:=by
     unfold convert
     simp [run_underlying hus,run_underlying hud,run_underlying hue]
    rw [hue',hcv]
    cases hxs:xs with
    | nil =>
     rw [hxs] at l1
     have:l = []:=Zpg.1 (by simpa using l1)
     subst this
     cases ad with
     | none => rfl
     | some ad =>
      have:=run_bytesToString (P:=P) w ad 0 cap [] (by simp [loadCells,loadCellsFrom])
      simp only [List.foldl_nil] at this
      exact this
    | cons y ys =>
     have hne:xs ≠ []:=by rw [hxs]; simp
     rw [← hxs]
     obtain ⟨rfl,hs0,hall⟩:=h6 hne
     have hsz:sz = 1:=by
      obtain ⟨n,hn,_⟩:=l2 0 y (by rw [hxs]; rfl)
      rw [← hall y (by rw [hxs]; simp),hn]
      rfl
     subst hsz
     have hcell:∀ (i:Nat) (z:PV),xs[i]? = some z → ∃ n:Int,w.cell? ⟨b,off + i,none⟩ = some (.int .u8 n) ∧ l[i]? = some (UInt8.ofNat n.toNat):=by
      intro i z hz
      obtain ⟨n,rfl,hln⟩:=l2 i z hz
      obtain ⟨a1,_,_⟩:=h7 i _ 0 _ hz rfl
      have:=h8 i _ 0 _ hz rfl
      have hg:g i 0 = .int .u8 n:=by
       generalize g i 0 = q at this
       cases this with | v _ _ => rfl
      refine ⟨n,?_,hln⟩
      rw [← hg,← a1]
      simp
     have key:∃ ns:List Int,ns.length = xs.length ∧ (∀ (i:Nat) (n:Int),ns[i]? = some n → w.cell? ⟨b,off + i,none⟩ = some (.int .u8 n)) ∧ ns.map (fun n => UInt8.ofNat n.toNat) = l:=by
      refine ⟨(List.range xs.length).map fun i => match ZhM w b (off + i) with | .int _ n => n | _ => 0,by simp,?_,?_⟩
      ·intro i n hn
       rw [q7_] at hn
       obtain ⟨k,hk,rfl⟩:=q6_.1 hn
       have hk2:=q2_.1 hk
       obtain ⟨q1,q2⟩:=hk2
       simp at q1 q2
       subst q2
       obtain ⟨n,c1,_⟩:=hcell i xs[i] (by simp [q1])
       rw [c1,Zaw c1]
      ·apply Zm0
       intro i
       by_cases hi:i < xs.length
       ·obtain ⟨n,c1,c2⟩:=hcell i xs[i] (by simp [hi])
        rw [c2]
        simp [hi,Zaw c1]
       ·rw [ZcL (by simp; omega),ZcL (by omega)]
     obtain ⟨ns,n1,n2,n3⟩:=key
     have hload:(loadCells ⟨b,off,none⟩ xs.length).run P w = .ok (ns.map (Value.int .u8)).toArray w:=by
      have:=run_loadCells_list (P:=P) w ⟨b,off,none⟩ (ns.map (Value.int .u8)) (by
       intro j v hj
       rw [q7_] at hj
       obtain ⟨n,hn,rfl⟩:=q6_.1 hj
       rw [Z8M]
       exact n2 j n hn)
      simpa [n1] using this
     rw [run_bytesToString w _ xs.length cap ns hload,Zoy,n3]
     simp
 ·simp at hv
end
end Go.Abs
end
section
namespace Go.Abs
open Go
theorem cell_of_heap {w w':World} {b o:Nat} (h:w'.heap[b]? = w.heap[b]?):w'.cell? ⟨b,o,none⟩ = w.cell? ⟨b,o,none⟩:=by
 unfold World.cell?
 rw [h]
theorem Z6s {w:World} {b o:Nat} {cs:Array Value} {ty:TypeId} {fr:Nat × Nat} (h:w.heap[b]? = some (.cells cs ty fr)):w.cell? ⟨b,o,none⟩ = cs[o]?:=by
 unfold World.cell?
 rw [h]
 simp
theorem lt_of_heap {w:World} {b:Nat} {x:Obj} (h:w.heap[b]? = some x):b < w.heap.size:=(Z8t.1 h).1
theorem UnOk.world {w w':World} {S S':Stay} {x:AV} {v:Value} (h:UnOk w S x v) (hk:Keeps w S w' S') (hh:∀ b,Z3U v = some b → w'.heap[b]? = w.heap[b]? ∧ ∀ o,S' b o → S b o):UnOk w' S' x v:=by
 rcases h with h | ⟨b,off,len,cap,cs,ty,sz,e2,e3,e4,e5,e6,hc⟩
 ·exact .inl h
 obtain ⟨q1,q2⟩:=hh b (by rw [e2]; rfl)
 refine .inr ⟨b,off,len,cap,cs,ty,sz,e2,q1.trans e3,e4,e5,e6,?_⟩
 rcases hc with ⟨xs,e1,e7,e8,e9⟩ | ⟨xs,e1,e7,e8,e9,e10⟩
 ·exact .inl ⟨xs,e1,e7,fun o ho hs => e8 o ho (q2 o hs),e9⟩
 ·refine .inr ⟨xs,e1,e7,fun o hs => e8 o (q2 o hs),e9,fun i e j c he hc => ?_⟩
  obtain ⟨k1,u,k2,k3⟩:=e10 i e j c he hc
  exact ⟨k1,u,k2,k3.keeps hk⟩
theorem UnOk.blk {w:World} {S:Stay} {x:AV} {v:Value} (h:UnOk w S x v) {b:Nat} (hb:Z3U v = some b):b < w.heap.size:=by
 rcases h with ⟨n,_,rfl⟩ | ⟨b',off,len,cap,cs,ty,sz,e2,e3,_⟩
 ·simp [Z3U] at hb
 ·rw [e2] at hb
  simp only [Z3U,q1_] at hb
  subst hb
  exact lt_of_heap e3
theorem Good.world {nt:Nat} {w w':World} {S S':Stay} {β:Nat → Nat} {sl:Sl} {B:List Row} {a:Act} (h:Good nt w S β sl B a) (hk:Keeps w S w' S')
  (hb:∀ i,i < B.length → w'.heap[β i]? = w.heap[β i]? ∧ ∀ o,¬ S' (β i) o) (hst:∀ b o,S' b o → b < w'.heap.size)
  (hun:∀ l x v,Here nt sl a.tmps B β w l x v → isUn x = true → UnOk w' S' x v):Good nt w' S' β sl B a:=by
 have cell:∀ id r,B[id]? = some r → ∀ j,w'.cell? ⟨β id,j,none⟩ = w.cell? ⟨β id,j,none⟩:=by
  intro id r hr j
  exact cell_of_heap (hb id (q2_.1 hr).1).1
 have back:∀ l x v,Here nt sl a.tmps B β w' l x v → Here nt sl a.tmps B β w l x v:=by
  intro l x v hl
  cases l with
  | slot t => exact hl
  | box id j =>
   obtain ⟨row,h1,h2,h3⟩:=hl
   exact ⟨row,h1,h2,(cell id row h1 j) ▸ h3⟩
 refine ⟨h.size,h.defers,?_,h.high,?_,?_⟩
 ·intro t ht
  exact (h.slots t ht).keeps hk (fun _ _ => rfl) (Z2x _)
 ·refine ⟨?_,?_,h.mem.inj,fun i hi => (hb i hi).2,hst,fun id r es hr hm => (h.mem.maps id r es hr hm).keeps hk (hb id (q2_.1 hr).1).1⟩
  ·intro id r hr hm
   obtain ⟨cs,ty,q1,q2⟩:=h.mem.row id r hr hm
   exact ⟨cs,ty,(hb id (q2_.1 hr).1).1.trans q1,q2⟩
  ·intro id r j x hr hm hx
   obtain ⟨v,q1,q2,q3⟩:=h.mem.cell id r j x hr hm hx
   exact ⟨v,(cell id r hr j).trans q1,q2.keeps hk (fun _ _ => rfl) (Z2x _),q3⟩
 ·refine ⟨?_,?_⟩
  ·intro l x v hl hu
   exact ⟨hun l x v (back l x v hl) hu,(h.uns.ok l x v (back l x v hl) hu).2⟩
  ·intro l l' x x' v v' hl hl' hu hu' e
   exact h.uns.inj l l' x x' v v' (back l x v hl) (back l' x' v' hl') hu hu' e
structure Fresh (w w':World) (arr:Array Value) (ty:TypeId) (fr:Nat × Nat:=(0,0)):Prop where
 heap:w'.heap = w.heap.push (.cells arr ty fr)
 os:w'.os = w.os
 tape:w'.tape = w.tape
 output:w'.output = w.output
theorem Fresh.old {w w':World} {arr:Array Value} {ty:TypeId} {fr:Nat × Nat} (h:Fresh w w' arr ty fr) {b:Nat} (hb:b < w.heap.size):w'.heap[b]? = w.heap[b]?:=by
 rw [h.heap,Array.getElem?_push]
 simp [Nat.ne_of_lt hb]
theorem Fresh.new {w w':World} {arr:Array Value} {ty:TypeId} {fr:Nat × Nat} (h:Fresh w w' arr ty fr):w'.heap[w.heap.size]? = some (.cells arr ty fr):=by
 rw [h.heap]
 simp
theorem Fresh.size {w w':World} {arr:Array Value} {ty:TypeId} {fr:Nat × Nat} (h:Fresh w w' arr ty fr):w'.heap.size = w.heap.size + 1:=by
 rw [h.heap]
 simp
def Stay.more (S:Stay) (c k:Nat):Stay:=fun b o => S b o ∨ (b = c ∧ o < k)
theorem Mem.lt {w:World} {S:Stay} {β:Nat → Nat} {B:List Row} (h:Mem w S β B) {i:Nat} (hi:i < B.length):β i < w.heap.size:=by
 cases hm:mdOf B[i] with
 | none =>
  obtain ⟨cs,ty,q,_⟩:=h.row i B[i] (by simp [hi]) hm
  exact lt_of_heap q
 | some es =>
  obtain ⟨ents,clock,q,_⟩:=h.maps i B[i] es (by simp [hi]) hm
  exact (Z8t.1 q).1
theorem Fresh.keeps {w w':World} {arr:Array Value} {ty:TypeId} {fr:Nat × Nat} {S:Stay} (h:Fresh w w' arr ty fr) (hs:∀ b o,S b o → b < w.heap.size) (k:Nat):Keeps w S w' (S.more w.heap.size k) :=
 ⟨fun _ _ hs => .inl hs,fun b o hb => cell_of_heap (h.old (hs b o hb))⟩
theorem Good.fresh {nt:Nat} {w w':World} {S:Stay} {β:Nat → Nat} {sl:Sl} {B:List Row} {a:Act} {arr:Array Value} {ty:TypeId} {fr:Nat × Nat} (h:Good nt w S β sl B a) (hf:Fresh w w' arr ty fr) (k:Nat) :
  Good nt w' (S.more w.heap.size k) β sl B a:=by
 refine h.world (hf.keeps h.mem.stay k) ?_ ?_ ?_
 ·intro i hi
  have:=h.mem.lt hi
  refine ⟨hf.old this,fun o ho => ?_⟩
  rcases ho with ho | ⟨e,_⟩
  ·exact h.mem.apart i hi o ho
  ·omega
 ·intro b o hb
  rw [hf.size]
  rcases hb with hb | ⟨e,_⟩
  ·have:=h.mem.stay b o hb; omega
  ·omega
 ·intro l x v hl hu
  have hok:=(h.uns.ok l x v hl hu).1
  refine hok.world (hf.keeps h.mem.stay k) fun b hb => ?_
  have hlt:=hok.blk hb
  refine ⟨hf.old hlt,fun o ho => ?_⟩
  rcases ho with ho | ⟨e,_⟩
  ·exact ho
  ·omega
theorem UB.world {nt:Nat} {w w':World} {S:Stay} {β:Nat → Nat} {sl:Sl} {B:List Row} {a:Act} (_h:Mem w S β B) (hb:∀ i,i < B.length → w'.heap[β i]? = w.heap[β i]?) {b:Nat}
  (hu:UB (Here nt sl a.tmps B β w') b):UB (Here nt sl a.tmps B β w) b:=by
 obtain ⟨l,x,v,hl,h1,h2⟩:=hu
 refine ⟨l,x,v,?_,h1,h2⟩
 cases l with
 | slot t => exact hl
 | box id j =>
  obtain ⟨row,q1,q2,q3⟩:=hl
  exact ⟨row,q1,q2,(cell_of_heap (hb id (q2_.1 q1).1)) ▸ q3⟩
theorem UB.lt {nt:Nat} {w:World} {S:Stay} {β:Nat → Nat} {sl:Sl} {B:List Row} {a:Act} (h:Good nt w S β sl B a) {b:Nat} (hu:UB (Here nt sl a.tmps B β w) b):b < w.heap.size:=by
 obtain ⟨l,x,v,hl,h1,h2⟩:=hu
 exact (h.uns.ok l x v hl h1).1.blk h2
theorem ZcD {nt m0:Nat} {o:Oper} {w w':World} {S:Stay} {β:Nat → Nat} {sl sl':Sl} {B:List Row} {a:Act} {K:AV → Sl → List Row → Option Res} {r:Res} {arr:Array Value} {ty:TypeId} {fr:Nat × Nat}
  (h:Good nt w S β sl B a) (hd:∀ t,o.dst = some t → t < nt) (h':Good nt w S β sl' B a) (hsl:∀ t,t < nt → get sl' t = get sl t ∨ isUn (get sl' t) = false)
  (hf:Fresh w w' arr ty fr) (k:Nat) {x:AV} {v:Value} (hx:ARel w' (S.more w.heap.size k) β B.length x v)
  (hu:isUn x = true → UnOk w' (S.more w.heap.size k) x v ∧ Z3U v = some w.heap.size) (hk:K x sl' B = some r) :
  Leaves nt m0 o w S β sl B a K r (a.put o.dst v) w':=by
 have hg:=h'.fresh hf k
 have hbx:∀ i,i < B.length → w'.heap[β i]? = w.heap[β i]?:=fun i hi => hf.old (h.mem.lt hi)
 have step:∀ (U':Nat → Prop),(∀ b,U' b → UB (Here nt sl a.tmps B β w) b ∨ w.heap.size ≤ b) → Step m0 w S β B.length (UB (Here nt sl a.tmps B β w)) w' (S.more w.heap.size k) β B.length U':=by
  intro U' hU
  refine ⟨hf.keeps h.mem.stay k,by rw [hf.size]; omega,hf.os,hf.tape,hf.output,fun hm => ⟨hm,fun _ _ => rfl⟩,fun i hi => .inl ⟨i,hi,rfl,id⟩,hU,?_,?_⟩
  ·intro b o' hs
   rcases hs with hs | ⟨e,_⟩
   ·exact .inl hs
   ·exact .inr (.inl (by omega))
  ·intro b hb _ _
   exact hf.old hb
 have hUB:∀ b,UB (Here nt sl' a.tmps B β w') b → UB (Here nt sl a.tmps B β w) b:=fun b hb => UB.reslot hsl b (UB.world h.mem hbx hb)
 refine ⟨x,sl',B,S.more w.heap.size k,β,hk,?_,?_⟩
 ·cases hdd:o.dst with
  | none => exact hg
  | some d =>
   refine hg.putUn (hd d hdd) hx ?_ ?_
   ·intro hx'
    obtain ⟨q1,q2⟩:=hu hx'
    refine ⟨q1,fun i hi e => ?_⟩
    rw [q2] at e
    have:=h.mem.lt hi
    simp only [q1_] at e
    omega
   ·intro l y u hl hy hx' e
    obtain ⟨b,e1,e2⟩:=e
    rw [(hu hx').2] at e2
    cases e2
    have:UB (Here nt sl a.tmps B β w) w.heap.size:=hUB _ ⟨l,y,u,hl,hy,e1⟩
    have:=UB.lt h this
    omega
 ·refine step _ fun b hb => ?_
  cases hdd:o.dst with
  | none => rw [hdd] at hb; exact .inl (hUB b hb)
  | some d =>
   rw [hdd] at hb
   rcases UB.putUn h.size (hd d hdd) b hb with hb | ⟨q1,q2⟩
   ·exact .inl (hUB b hb)
   ·rw [(hu q1).2] at q2
    simp only [q1_] at q2
    exact .inr (by omega)
def newβ (β:Nat → Nat) (n c:Nat):Nat → Nat:=fun i => if i = n then c else β i
theorem ZcG {β:Nat → Nat} {n c i:Nat} (h:i < n):newβ β n c i = β i:=by simp [newβ,Nat.ne_of_lt h]
theorem Z4O {β:Nat → Nat} {n c:Nat}:newβ β n c n = c:=by simp [newβ]
theorem Good.box {nt:Nat} {w w':World} {S:Stay} {β:Nat → Nat} {sl:Sl} {B:List Row} {a:Act} {arr:Array Value} {ty:TypeId} {row:Row} (h:Good nt w S β sl B a) (hf:Fresh w w' arr ty)
  (hs:arr.size = row.length) (hr:∀ (j:Nat) (x:AV) (v:Value),row[j]? = some x → arr[j]? = some v → ARel w S β B.length x v ∧ Z3g x = true ∧
   (isUn x = true → row.length = 1 ∧ UnOk w S x v ∧ (∀ i,i < B.length → Z3U v ≠ some (β i)) ∧ ∀ l y u,Here nt sl a.tmps B β w l y u → isUn y = true → ¬ ZcR u v)) :
  Good nt w' S (newβ β B.length w.heap.size) sl (B ++ [row]) a:=by
 have hk:Keeps w S w' S:=⟨fun _ _ h => h,fun b o hb => cell_of_heap (hf.old (h.mem.stay b o hb))⟩
 have hn:B.length ≤ (B ++ [row]).length:=by simp
 have hβ:∀ i,i < B.length → newβ β B.length w.heap.size i = β i:=fun i hi => ZcG hi
 have hcell:∀ j,w'.cell? ⟨w.heap.size,j,none⟩ = arr[j]?:=fun j => Z6s hf.new
 have hget:∀ {id:Nat} {r:Row},(B ++ [row])[id]? = some r → (B[id]? = some r ∧ id < B.length) ∨ (id = B.length ∧ r = row):=by
  intro id r hr
  rw [Zgi] at hr
  split at hr
  ·exact .inl ⟨hr,‹_›⟩
  ·rename_i hlt
   right
   have:id - B.length = 0:=by
    rcases Zw2 (id - B.length) with e | e
    ·exact e
    ·rw [ZcL (by simp; omega)] at hr; simp at hr
   rw [this] at hr
   simp at hr
   exact ⟨by omega,hr.symm⟩
 have back:∀ l x v,Here nt sl a.tmps (B ++ [row]) (newβ β B.length w.heap.size) w' l x v → isUn x = true →
   Here nt sl a.tmps B β w l x v ∨ (l = .box B.length 0 ∧ row[0]? = some x ∧ arr[0]? = some v ∧ row.length = 1):=by
  intro l x v hl hu
  cases l with
  | slot t => exact .inl hl
  | box id j =>
   obtain ⟨r,q1,q2,q3⟩:=hl
   rcases hget q1 with ⟨q,hlt⟩ | ⟨rfl,rfl⟩
   ·left
    rw [hβ id hlt,cell_of_heap (hf.old (h.mem.lt hlt))] at q3
    exact ⟨r,q,q2,q3⟩
   ·right
    rw [Z4O,hcell] at q3
    obtain ⟨_,_,q5⟩:=hr j x v q2 q3
    obtain ⟨q6,_⟩:=q5 hu
    have:j < r.length:=(q2_.1 q2).1
    have:j = 0:=by omega
    subst this
    exact ⟨rfl,q2,q3,q6⟩
 have ok':∀ x v,UnOk w S x v → UnOk w' S x v:=by
  intro x v hok
  refine hok.world hk fun b hb => ?_
  have hlt:=hok.blk hb
  exact ⟨hf.old hlt,fun _ h => h⟩
 have nb:∀ x v,UnOk w S x v → (∀ i,i < B.length → Z3U v ≠ some (β i)) → ∀ i,i < (B ++ [row]).length → Z3U v ≠ some (newβ β B.length w.heap.size i):=by
  intro x v hok hb i hi e
  rcases Z9X i B.length with hlt | hge
  ·rw [hβ i hlt] at e; exact hb i hlt e
  ·have:i = B.length:=by simp at hi; omega
   subst this
   rw [Z4O] at e
   have hlt:=hok.blk e
   omega
 refine ⟨h.size,h.defers,?_,h.high,?_,?_⟩
 ·intro t ht
  exact (h.slots t ht).keeps hk hβ hn
 ·refine ⟨?_,?_,?_,?_,?_,?_⟩
  ·intro id r hr' hm
   rcases hget hr' with ⟨q,hlt⟩ | ⟨rfl,rfl⟩
   ·obtain ⟨cs,ty,q1,q2⟩:=h.mem.row id r q hm
    exact ⟨cs,ty,by rw [hβ id hlt,hf.old (h.mem.lt hlt)]; exact q1,q2⟩
   ·exact ⟨arr,ty,by rw [Z4O]; exact hf.new,hs⟩
  ·intro id r j x hr' hm hx
   rcases hget hr' with ⟨q,hlt⟩ | ⟨rfl,rfl⟩
   ·obtain ⟨v,q1,q2,q3⟩:=h.mem.cell id r j x q hm hx
    exact ⟨v,by rw [hβ id hlt,cell_of_heap (hf.old (h.mem.lt hlt))]; exact q1,q2.keeps hk hβ hn,q3⟩
   ·have hj:j < arr.size:=by rw [hs]; exact (q2_.1 hx).1
    obtain ⟨q1,q2,_⟩:=hr j x arr[j] hx (by simp [hj])
    exact ⟨arr[j],by rw [Z4O,hcell]; simp [hj],q1.keeps hk hβ hn,q2⟩
  ·intro i j hi hj e
   simp only [q3_,q5_,q8_] at hi hj
   rcases Z9X i B.length with hi' | hi' <;> rcases Z9X j B.length with hj' | hj'
   ·rw [hβ i hi',hβ j hj'] at e; exact h.mem.inj i j hi' hj' e
   ·have:j = B.length:=by omega
    subst this
    rw [hβ i hi',Z4O] at e
    have:=h.mem.lt hi'
    omega
   ·have:i = B.length:=by omega
    subst this
    rw [hβ j hj',Z4O] at e
    have:=h.mem.lt hj'
    omega
   ·omega
  ·intro i hi o ho
   simp only [q3_,q5_,q8_] at hi
   rcases Z9X i B.length with hi' | hi'
   ·rw [hβ i hi'] at ho; exact h.mem.apart i hi' o ho
   ·have:i = B.length:=by omega
    subst this
    rw [Z4O] at ho
    have:=h.mem.stay _ _ ho
    omega
  ·intro b o hb
   rw [hf.size]
   have:=h.mem.stay b o hb
   omega
  ·intro id r es hr' hm
   rcases hget hr' with ⟨q,hlt⟩ | ⟨rfl,rfl⟩
   ·have:=(h.mem.maps id r es q hm).keeps hk (hf.old (h.mem.lt hlt))
    rw [hβ id hlt]
    exact this
   ·have e:=ZeN hm
    have h0:0 < arr.size:=by rw [hs,e]; simp
    obtain ⟨_,q2,_⟩:=hr 0 (.md es) arr[0] (by rw [e]; rfl) (by simp [h0])
    simp [Z3g] at q2
 ·refine ⟨?_,?_⟩
  ·intro l x v hl hu
   rcases back l x v hl hu with hb | ⟨rfl,q1,q2,q3⟩
   ·obtain ⟨q1,q2⟩:=h.uns.ok l x v hb hu
    exact ⟨ok' x v q1,nb x v q1 q2⟩
   ·obtain ⟨_,_,q4⟩:=hr 0 x v q1 q2
    obtain ⟨_,q5,q6,_⟩:=q4 hu
    exact ⟨ok' x v q5,nb x v q5 q6⟩
  ·intro l l' x x' v v' hl hl' hu hu' e
   rcases back l x v hl hu with hb | ⟨rfl,q1,q2,q3⟩ <;> rcases back l' x' v' hl' hu' with hb' | ⟨rfl,q1',q2',q3'⟩
   ·exact h.uns.inj l l' x x' v v' hb hb' hu hu' e
   ·obtain ⟨_,_,q4⟩:=hr 0 x' v' q1' q2'
    exact absurd e ((q4 hu').2.2.2 l x v hb hu)
   ·obtain ⟨_,_,q4⟩:=hr 0 x v q1 q2
    exact absurd e.symm ((q4 hu).2.2.2 l' x' v' hb' hu')
   ·rfl
theorem ZqZ {nt m0:Nat} {o:Oper} {w w':World} {S:Stay} {β:Nat → Nat} {sl sl':Sl} {B:List Row} {a:Act} {K:AV → Sl → List Row → Option Res} {r:Res} {arr:Array Value} {ty:TypeId} {row:Row}
  (h:Good nt w S β sl B a) (hd:∀ t,o.dst = some t → t < nt) (h':Good nt w S β sl' B a) (hsl:∀ t,t < nt → get sl' t = get sl t ∨ isUn (get sl' t) = false)
  (hf:Fresh w w' arr ty) (hs:arr.size = row.length) (hr:∀ (j:Nat) (x:AV) (v:Value),row[j]? = some x → arr[j]? = some v → ARel w S β B.length x v ∧ Z3g x = true ∧
   (isUn x = true → row.length = 1 ∧ UnOk w S x v ∧ (∀ i,i < B.length → Z3U v ≠ some (β i)) ∧ (∀ l y u,Here nt sl' a.tmps B β w l y u → isUn y = true → ¬ ZcR u v) ∧ ∀ b,Z3U v = some b → UB (Here nt sl a.tmps B β w) b))
  (hk:K (.ptr B.length 0) sl' (B ++ [row]) = some r) :
  Leaves nt m0 o w S β sl B a K r (a.put o.dst (.pointer (some ⟨w.heap.size,0,none⟩))) w':=by
 have hg:=h'.box hf hs fun j x v hx hv => ⟨(hr j x v hx hv).1,(hr j x v hx hv).2.1,fun hu => ⟨((hr j x v hx hv).2.2 hu).1,((hr j x v hx hv).2.2 hu).2.1,((hr j x v hx hv).2.2 hu).2.2.1,((hr j x v hx hv).2.2 hu).2.2.2.1⟩⟩
 have hv:ARel w' S (newβ β B.length w.heap.size) (B ++ [row]).length (.ptr B.length 0) (.pointer (some ⟨w.heap.size,0,none⟩)):=by
  have:=ARel.ptr (w:=w') (S:=S) (β:=newβ β B.length w.heap.size) (n:=(B ++ [row]).length) B.length 0 (by simp)
  rwa [Z4O] at this
 have hUB:∀ b,UB (Here nt sl' a.tmps (B ++ [row]) (newβ β B.length w.heap.size) w') b → UB (Here nt sl a.tmps B β w) b:=by
  intro b hb
  obtain ⟨l,x,v,hl,hu,hbb⟩:=hb
  cases l with
  | slot t => exact UB.reslot hsl b ⟨.slot t,x,v,hl,hu,hbb⟩
  | box id j =>
   obtain ⟨r',q1,q2,q3⟩:=hl
   rw [Zgi] at q1
   split at q1
   ·rename_i hlt
    rw [ZcG hlt,cell_of_heap (hf.old (h.mem.lt hlt))] at q3
    exact ⟨.box id j,x,v,⟨r',q1,q2,q3⟩,hu,hbb⟩
   ·rename_i hlt
    have e0:id - B.length = 0:=by
     rcases Zw2 (id - B.length) with e | e
     ·exact e
     ·rw [ZcL (by simp; omega)] at q1; simp at q1
    rw [e0] at q1
    simp at q1
    subst q1
    have:id = B.length:=by omega
    subst this
    rw [Z4O,Z6s hf.new] at q3
    exact ((hr j x v q2 q3).2.2 hu).2.2.2.2 _ hbb
 refine ⟨.ptr B.length 0,sl',B ++ [row],S,newβ β B.length w.heap.size,hk,hg.put hd hv rfl,?_⟩
 refine ⟨⟨fun _ _ h => h,fun b o hb => cell_of_heap (hf.old (h.mem.stay b o hb))⟩,by rw [hf.size]; omega,hf.os,hf.tape,hf.output,?_,?_,?_,fun b o' hs => .inl hs,fun b hb _ _ => hf.old hb⟩
 ·intro hm
  refine ⟨by simp; omega,fun i hi => ZcG (by omega)⟩
 ·intro i hi
  simp only [q3_,q5_,q8_] at hi
  rcases Z9X i B.length with hi' | hi'
  ·exact .inl ⟨i,hi',ZcG hi',id⟩
  ·have:i = B.length:=by omega
   subst this
   exact .inr (by rw [Z4O]; exact Z2x _)
 ·intro b hb
  exact .inl (hUB b (UB.put h.size hd rfl b hb))
end Go.Abs
end
section
namespace Go.Abs
open Go
theorem cells_one {v:Value} (h:cellV v = true):v.cells = #[v]:=by
 cases v <;> first | rfl | (simp [cellV] at h)
theorem ARel.cellV {w:World} {S:Stay} {β:Nat → Nat} {n:Nat} {x:AV} {v:Value} (h:ARel w S β n x v) (hx:Z3g x = true):cellV v = true:=by
 cases h with
 | p _ _ hp => exact hp.cellV hx
 | ptr => rfl
 | mp => rfl
 | cptr => rfl
 | clo => rfl
 | agg => simp [Z3g] at hx
 | tup => simp [Z3g] at hx
theorem Za3 {w:World} {S:Stay} {β:Nat → Nat} {n:Nat} {x:AV} {v:Value} (hr:ARel w S β n x v) (hx:Z3g x = true) (he:Z2k x = [x]) :
  v.cells.size = (Z2k x).length ∧ ∀ (j:Nat) (c:AV) (u:Value),(Z2k x)[j]? = some c → v.cells[j]? = some u → ARel w S β n c u ∧ Z3g c = true ∧ (isUn c = true → Z2k x = [x] ∧ c = x ∧ u = v):=by
 rw [he,cells_one (hr.cellV hx)]
 refine ⟨rfl,?_⟩
 intro j c u hc hu
 cases j with
 | zero => simp at hc hu; subst hc; subst hu; exact ⟨hr,hx,fun _ => ⟨rfl,rfl,rfl⟩⟩
 | succ j => simp at hc
theorem Za4 {w:World} {S:Stay} {β:Nat → Nat} {n:Nat} {x:AV} {v:Value} (hr:ARel w S β n x v) (ht:Z5a x = false) :
  v.cells.size = (Z2k x).length ∧ ∀ (j:Nat) (c:AV) (u:Value),(Z2k x)[j]? = some c → v.cells[j]? = some u → ARel w S β n c u ∧ Z3g c = true ∧ (isUn c = true → Z2k x = [x] ∧ c = x ∧ u = v):=by
 cases x with
 | p x =>
  cases x with
  | v y => exact Za3 hr rfl rfl
  | lst o xs => exact Za3 hr rfl rfl
  | ml n xs => exact Za3 hr rfl rfl
  | hd k => exact Za3 hr rfl rfl
  | agg cs =>
   cases hr with
   | p _ _ hp =>
    cases hp with
    | agg _ arr h1 h2 h3 =>
     refine ⟨by simpa [Z2k,Value.cells] using h1,?_⟩
     intro j c u hc hu
     simp only [Z2k,q7_] at hc
     obtain ⟨d,hd,rfl⟩:=q6_.1 hc
     have hok:=ZjJ (h2 d (q9_ hd))
     exact ⟨.p _ _ (h3 j d u hd hu),hok.1,fun hu => absurd hok.2 (by simp [hu])⟩
  | tup vs => simp [Z5a] at ht
  | jnk q => simp [Z5a] at ht
 | ptr => exact Za3 hr rfl rfl
 | mp => exact Za3 hr rfl rfl
 | md => simp [Z5a] at ht
 | cptr => exact Za3 hr rfl rfl
 | clo => exact Za3 hr rfl rfl
 | agg cs =>
  cases hr with
  | agg _ arr h1 h2 h3 =>
   refine ⟨by simpa [Z2k,Value.cells] using h1,?_⟩
   intro j c u hc hu
   simp only [Z2k] at hc
   have hok:=h2 c (q9_ hc)
   refine ⟨h3 j c u hc hu,hok.1,fun hun => ?_⟩
   rw [hok.2] at hun
   simp at hun
 | tup vs => simp [Z5a] at ht
section
variable {P:Program} {H:Hints} {f:FuncId} {G:GF} {nt m0:Nat} {o:Oper} {w:World} {S:Stay} {β:Nat → Nat} {sl:Sl} {B:List Row} {a:Act}
 {K:AV → Sl → List Row → Option Res} {r:Res} {next:Act → World → Prop} {Q:Exit → Act → World → Prop}
theorem ZbN (w:World) (arr:Array Value) (ty:TypeId):Fresh w (w.alloc (.cells arr ty)) arr ty:=⟨rfl,rfl,rfl,rfl⟩
theorem Zgn (sl:Sl) (x:Operand) (t:Nat):get (weak sl x) t = get sl t ∨ isUn (get (weak sl x) t) = false:=by
 cases x with
 | tmp u =>
  show get ((u,shr (get sl u)) :: sl) t = _ ∨ isUn (get ((u,shr (get sl u)) :: sl) t) = false
  rw [Z1Z]
  by_cases e:u = t
  ·rw [if_pos e]; exact .inr (Z4p _)
  ·rw [if_neg e]; exact .inl rfl
 | _ => exact .inl rfl
theorem ZsL (l:List Operand):∀ (sl:Sl) (t:Nat),get (weakL sl l) t = get sl t ∨ isUn (get (weakL sl l) t) = false:=by
 induction l with
 | nil => exact fun _ _ => .inl rfl
 | cons x r ih =>
  intro sl t
  rcases ih (weak sl x) t with e | e
  ·rcases Zgn sl x t with e' | e'
   ·exact .inl (e.trans e')
   ·exact .inr (by rw [show weakL sl (x :: r) = weakL (weak sl x) r from rfl,e]; exact e')
  ·exact .inr e
theorem Zd1 (h:Good nt w S β sl B a) {x:Operand} (hu:isUn (ev sl x) = true):∃ t,x = .tmp t ∧ t < nt ∧ Here nt sl a.tmps B β w (.slot t) (ev sl x) (a.eval x):=by
 cases x with
 | tmp t =>
  have htn:t < nt:=by
   rcases Z9X t nt with h1 | h1
   ·exact h1
   ·have:=h.high t h1
    change isUn (get sl t) = true at hu
    rw [this] at hu; simp [isUn,jk] at hu
  exact ⟨t,rfl,htn,htn,rfl,rfl⟩
 | const v => rw [ZqS] at hu; simp at hu
 | global g => simp [ev,isUn,jk] at hu
 | func f => simp [ev,isUn] at hu
theorem Zma (h:Good nt w S β sl B a) {x:Operand} (hu:isUn (ev sl x) = true):∀ l y u,Here nt (weak sl x) a.tmps B β w l y u → isUn y = true → ¬ ZcR u (a.eval x):=by
 obtain ⟨t,rfl,htn,here⟩:=Zd1 h hu
 intro l y u hl hy hb
 have hold:Here nt sl a.tmps B β w l y u ∧ l ≠ .slot t:=by
  cases l with
  | slot q =>
   obtain ⟨hq,rfl,rfl⟩:=hl
   change isUn (get ((t,shr (get sl t)) :: sl) q) = true at hy
   change Here nt sl a.tmps B β w (.slot q) (get ((t,shr (get sl t)) :: sl) q) _ ∧ _
   rw [Z1Z] at hy ⊢
   by_cases e:t = q
   ·rw [if_pos e,Z4p] at hy; simp at hy
   ·rw [if_neg e]; exact ⟨⟨hq,rfl,rfl⟩,fun h => e (by cases h; rfl)⟩
  | box id j => exact ⟨hl,by simp⟩
 exact hold.2 (h.uns.inj l (.slot t) y _ u _ hold.1 here hy hu hb)
theorem Zm4 (t:TypeId) (v:Value) (w:World):(newVar t v).run P w = .ok ⟨w.heap.size,0,none⟩ (w.alloc (.cells v.cells t)):=by
 unfold newVar newRow
 simp
variable (h:Good nt w S β sl B a) (hd:∀ t,o.dst = some t → t < nt)
include h hd
theorem ZCi {t:TypeId} {x:Operand} (ho:o.op = .box t x) (hk:bx (ev sl x) B (fun v B => K v (weak sl x) B) = some r):o.wp P a w (Leaves nt m0 o w S β sl B a K r) Q:=by
 unfold bx at hk
 split at hk
 ·simp at hk
 ·rename_i ht
  have ht:Z5a (ev sl x) = false:=by simpa using ht
  obtain ⟨c1,c2⟩:=Za4 (h.ev x) ht
  have hrun:(execOp a.eval o).run P w = .ok (.value (.pointer (some ⟨w.heap.size,0,none⟩))) (w.alloc (.cells (a.eval x).cells t)):=by
   unfold execOp
   simp only [ho]
   show ((Instr.box t (a.eval x)).bind fun x => Sem.pure (Next.value x)).run P w = _
   rw [Sem.run_bind']
   unfold Instr.box
   simp [Zm4]
  refine Z2p hrun (ZqZ h hd (h.weak x) (fun t _ => Zgn sl x t) (ZbN w _ t) c1 ?_ hk)
  intro j c u hc hu
  obtain ⟨q1,q2,q3⟩:=c2 j c u hc hu
  refine ⟨q1,q2,fun hun => ?_⟩
  obtain ⟨e1,e2,e3⟩:=q3 hun
  subst e2 e3
  obtain ⟨t',rfl,htn,here⟩:=Zd1 h hun
  obtain ⟨k1,k2⟩:=h.uns.ok _ _ _ here hun
  refine ⟨by rw [e1]; rfl,k1,k2,Zma h hun,?_⟩
  exact fun b hb => ⟨_,_,_,here,hun,hb⟩
theorem ZDC {t:TypeId} (ho:o.op = .alloc t) (hk:bz P t B (fun v B => K v sl B) = some r):o.wp P a w (Leaves nt m0 o w S β sl B a K r) Q:=by
 unfold bz at hk
 obtain ⟨z,hz,hk⟩:=ZR hk
 unfold zeroOf at hz
 split at hz
 ·rename_i i hi
  obtain ⟨zv,hzv,hzr⟩:=ZR hz
  have hrel:ARel w S β B.length z zv:=Zaq hzr
  unfold bx at hk
  split at hk
  ·simp at hk
  ·rename_i ht
   have ht:Z5a z = false:=by simpa using ht
   obtain ⟨c1,c2⟩:=Za4 hrel ht
   have hrun:(execOp a.eval o).run P w = .ok (.value (.pointer (some ⟨w.heap.size,0,none⟩))) (w.alloc (.cells zv.cells t)):=by
    unfold execOp
    simp only [ho]
    show ((Instr.alloc t true (.tuple #[])).bind fun x => Sem.pure (Next.value x)).run P w = _
    rw [Sem.run_bind']
    unfold Instr.alloc
    simp [zeroValue,typeInfo,hi,hzv,Zm4]
   refine Z2p hrun (ZqZ h hd h (fun t _ => .inl rfl) (ZbN w _ t) c1 ?_ hk)
   intro j c u hc hu
   obtain ⟨q1,q2,q3⟩:=c2 j c u hc hu
   refine ⟨q1,q2,fun hun => ?_⟩
   obtain ⟨_,e2,_⟩:=q3 hun
   subst e2
   rw [Zan hzr] at hun
   simp at hun
 ·simp at hz
end
end Go.Abs
end
