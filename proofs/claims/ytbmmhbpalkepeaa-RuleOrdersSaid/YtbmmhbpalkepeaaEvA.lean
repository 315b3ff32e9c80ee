/- An evaluator for the program's form: what it reckons with, and its operations. No condition. -/
import Derived.Calls
import Derived.Orders
import Derived.Control
import Derived.Laws.World
import Derived.Below
import Derived.Laws.Sem
import Derived.Laws.Cells
import Derived.Laws.BytesString
import Derived.Laws.CopyRow

set_option linter.unusedSimpArgs false
set_option linter.unusedVariables false
set_option linter.defProp false
section
namespace Go
def ZO := @Option.some.injEq
def q1_ := @List.getElem?_eq_some_iff
def q2_ := @List.getElem?_eq_getElem
def q3_ := @Option.bind_some
def q4_ := @Option.map_eq_some_iff
def q5_ := @Bool.and_eq_true
def q6_ := @List.getElem?_map
def q7_ := @List.mem_of_getElem?
def q8_ := @Bool.false_eq_true
def q9_ := @List.getD_eq_getElem?_getD
def Z2m := @List.getElem?_cons_zero
def Z2z := @Array.getElem?_eq_some_iff
def Z1B := @List.mem_map
def Z2w := @List.all_eq_true
def Z1y := @Nat.le_refl
def Z4e := @List.drop_of_length_le
def Z1K := @List.mem_cons
def Z4S := @List.drop_eq_getElem_cons
def Z2x := @Option.map_some
def Z2o := @List.mem_filter
def Z2J := @List.length_append
def Z22 := @Nat.lt_or_ge
def Z2O := @List.mem_singleton
def Z38 := @List.length_cons
def Z2p := @List.map_cons
def Z61 := @List.pairwise_cons
def Z4C := @Bool.not_true
def Z3L := @List.getElem?_eq_none
def Z39 := @List.length_map
def Z3M := @List.getElem?_append
def Z3o := @List.getElem?_set
def Z3B := @List.getElem?_take
def Z3p := @List.length_nil
def Z3a := @Prod.mk.injEq
def Z77 := @Array.getElem?_eq_getElem
def Z62 := @List.mem_iff_getElem?
def Z4T := @Nat.lt_of_lt_of_le
def Z4f := @List.mem_append
def Z4U := @Bool.or_eq_true
def Za9 := @List.eq_nil_of_length_eq_zero
def Z78 := @List.map_congr_left
def Z79 := @Bool.not_eq_true'
def Z7a := @Array.getElem?_append
def Z4g := @List.mem_range
def Z63 := @List.getElem?_drop
def Z64 := @Nat.eq_zero_or_pos
def Z65 := @List.append_nil
def Zaa := @List.pairwise_iff_getElem
def Zab := @List.getElem?_cons_succ
def ZmE := @List.filter_cons_of_neg
def Z7b := @List.ext_getElem?
def Zac := @List.append_assoc
def Zcl := @Array.getD_eq_getD_getElem?
def Zfo := @List.foldl_cons
def Z7c := @List.nodup_cons
def Z4V := @Nat.add_mul
def Z8a := @Bool.true_and
def Zcm := @List.length_eq_zero_iff
def Zcn := @Option.bind_eq_some_iff
def ZmF := @List.filter_cons_of_pos
def Zad := @Array.getElem?_push
def Zic := @List.filter_eq_self
def Z66 := @Nat.add_zero
def Z67 := @Nat.zero_add
def Zco := @List.map_map
def Zcp := @Array.getElem?_modify
def Zcq := @List.mem_append_right
def Zfp := @List.getElem?_append_right
def Zfq := @List.nodup_iff_pairwise_ne
def Zae := @Array.size_append
def Zcr := @List.nodup_append
def Zfr := @List.getElem?_append_left
def Zcs := @List.contains_eq_mem
def Zct := @List.mem_append_left
def Zcu := @List.getElem?_of_mem
def Zmb := @List.foldl_nil
def Zmc := @Bool.not_false
def Zid := @Option.isSome_iff_exists
def Zcv := @Option.getD_some
def Zcw := @Array.getElem?_map
def Zcx := @List.nil_append
def Zie := @Bool.true_eq_false
def Zcy := @List.pairwise_map
def Z8b := @Nat.le_trans
def Zif := @Array.getElem?_setIfInBounds
def Zfs := @Array.getElem?_toList
def Zmd := @List.singleton_append
def Zft := @Array.toList_inj
def Zfu := @List.mem_of_mem_take
def Zfv := @Nat.mul_le_mul_right
def Zcz := @List.getElem_mem
def ZmG := @Bool.and_self
end Go
namespace Go.Abs
open Go
inductive Own where
 | sh | ex | un | nl
 deriving DecidableEq
inductive PV where
 | v (x : Value)
 | lst (o : Own) (xs : List PV)
 | agg (cs : List PV)
 | tup (vs : List PV)
 | junk
inductive AV where
 | p (x : PV)
 | ptr (id off : Nat)
 | mp (id : Nat)
 | md (es : List (Int × PV))
 | cptr (cs : List PV)
 | clo (f : FuncId) (first cap : List AV)
 | agg (cs : List AV)
 | tup (vs : List AV)
abbrev Row := List AV
abbrev Res := AV × List Row
abbrev Sl := List (Nat × AV)
abbrev hi {α : Sort _} {β : Sort _} (a : α) (_ : β) : α := a
inductive Ex where
 | normal
 | exit (id : Nat)
 | ret
def lp (x : Option Res) : Option Res := x
def mk (x : Option Res) : Option Res := x
abbrev Kont := Ex → Sl → List Row → Option Res
structure Hints where
 keep : FuncId → Nat → Option (List Nat)
 own : FuncId → List Nat
 raw : FuncId → Bool
 near : FuncId → List Nat := fun _ => []
def jk : AV := .p .junk
def ud : AV := .p (.tup [])
def iv (n : Int) : AV := .p (.v (.int .i64 n))
def kv (k : IntKind) (n : Int) : AV := .p (.v (.int k n))
def bv (b : Bool) : AV := .p (.v (.bool b))
def nilA : AV := .p (.lst .nl [])
def l1 : Code → Code
 | .seq a _ | .cond _ a _ | .block _ a | .loop a | .scope a => a
 | c => c
def l2 : Code → Code
 | .seq _ b | .cond _ _ b => b
 | c => c
def Z3c (fn : Func) : Code :=
 match fn.body with
 | some c => c
 | none => .skip
def scal : Value → Bool
 | .bool _ | .int .. | .string _ | .float .. | .nilFunc | .nilIface | .pointer none | .map none | .chan none => true
 | _ => false
def shrO : Own → Own
 | .un => .sh
 | o => o
def shrP : PV → PV
 | .lst o xs => .lst (shrO o) xs
 | x => x
def shr : AV → AV
 | .p (.lst o xs) => .p (.lst (shrO o) xs)
 | .p (.tup vs) => .p (.tup (vs.map shrP))
 | .tup vs => .tup (vs.map fun | .p x => .p (shrP x) | x => x)
 | x => x
def nrmP : PV → PV
 | .lst _ xs => .lst .sh xs
 | x => x
def nrm : PV → PV
 | .lst _ xs => .lst .sh xs
 | .agg cs => .agg (cs.map nrmP)
 | .tup vs => .tup (vs.map fun | .lst _ xs => .lst .sh xs | .agg cs => .agg (cs.map nrmP) | x => x)
 | x => x
def nrmA : AV → AV
 | .p x => .p (nrm x)
 | .agg cs => .agg (cs.map fun | .p x => .p (nrmP x) | x => x)
 | .tup vs => .tup (vs.map fun | .p x => .p (nrm x) | x => x)
 | x => x
def Z16 : PV → List PV
 | .agg cs => cs
 | x => [x]
def Z1h : AV → List AV
 | .p (.agg cs) => cs.map .p
 | .agg cs => cs
 | x => [x]
def allP : List AV → Option (List PV)
 | [] => some []
 | .p x :: r => (allP r).map (x :: ·)
 | _ :: _ => none
def Z3A (cs : List AV) : AV :=
 match allP cs with
 | some ps => .p (.agg ps)
 | none => .agg cs
def Z2P (vs : List AV) : AV :=
 match allP vs with
 | some ps => .p (.tup ps)
 | none => .tup vs
def Z46 (x : Value) : Option PV :=
 match x with
 | .slice none 0 0 => some (.lst .nl [])
 | x => if scal x then some (.v x) else none
def Z5v : List Value → Option (List PV)
 | [] => some []
 | x :: r => match Z46 x, Z5v r with
  | some a, some b => some (a :: b)
  | _, _ => none
def Z2f (x : Value) : Option AV :=
 match x with
 | .agg cs => (Z5v cs.toList).map fun l => .p (.agg l)
 | x => (Z46 x).map .p
def Z48 : PV → Option Value
 | .v x => some x
 | .lst .nl [] => some (.slice none 0 0)
 | _ => none
def Z5A : List PV → Option (List Value)
 | [] => some []
 | x :: r => match Z48 x, Z5A r with
  | some a, some b => some (a :: b)
  | _, _ => none
def Z4N : AV → Option Value
 | .p (.agg cs) => (Z5A cs).map fun l => .agg l.toArray
 | .p x => Z48 x
 | _ => none
def Z1W {α : Type} (P : Program) : Sem α → Option α
 | .pure a => some a
 | .program k => Z1W P (k P)
 | _ => none
def ob {α β : Type} (x : Option α) (k : α → Option β) : Option β :=
 hi (match x with
 | some a => k a
 | none => none) mk
def grd {β : Type} (b : Bool) (k : Option β) : Option β := hi (if b = true then k else none) mk
def asB {β : Type} (x : AV) (k : Bool → Option β) : Option β :=
 hi (match x with
 | .p (.v (.bool b)) => k b
 | _ => none) mk
def br {β : Type} (b : Bool) (t e : Option β) : Option β := hi (if b = true then t else e) mk
def Z42 : AV → Option Bool
 | .p (.v (.pointer none)) => some true
 | .p (.v .nilFunc) => some true
 | .ptr _ _ => some false
 | .mp _ => some false
 | .cptr _ => some false
 | .clo .. => some false
 | .p (.lst .nl _) => some true
 | .p (.lst .ex (_ :: _)) => some false
 | .p (.lst .un _) => some false
 | .p (.lst .sh (_ :: _)) => some false
 | _ => none
def Zf6 : Value → Bool
 | .slice none 0 0 | .pointer none | .nilFunc => true
 | _ => false
def Z3V : Value → Bool
 | .nilIface => false
 | _ => true
def xbin (P : Program) (op : BinOp) (t : TypeId) (x y : AV) : Option AV :=
 match Z4N x, Z4N y with
 | some a, some b =>
  if Z3V a && Z3V b then
   ob (Z1W P (do eqGuard op t (.tmp 0) (.tmp 0) a b; binOp op t a b)) Z2f
  else none
 | _, _ => none
def Z7D (P : Program) (t : TypeId) (c : Value) (x : AV) : Bool :=
 match P.underlying t, c, x with
 | some (.slice _), .slice none 0 0, .p (.lst ..) => true
 | some (.pointer _), .pointer none, .ptr .. => true
 | some (.pointer _), .pointer none, .cptr _ => true
 | some (.pointer _), .pointer none, .p (.v (.pointer none)) => true
 | some (.func ..), .nilFunc, .clo .. => true
 | some (.func ..), .nilFunc, .p (.v .nilFunc) => true
 | _, _, _ => false
def xnil (P : Program) (op : BinOp) (t : TypeId) (c : Value) (x : AV) : Option AV :=
 if Z7D P t c x = true then
  ob (Z42 x) fun b =>
   match op with
   | .eql => some (.p (.v (.bool b)))
   | .neq => some (.p (.v (.bool !b)))
   | _ => none
 else none
def xun (P : Program) (op : UnOp) (x : AV) : Option AV := ob (Z4N x) fun a => ob (Z1W P (Op.unary op a)) Z2f
def Z2q (s : ByteArray) : List PV := s.data.toList.map fun b => .v (.int .u8 b.toNat)
def byteOf : PV → Option UInt8
 | .v (.int .u8 n) => some (UInt8.ofNat n.toNat)
 | _ => none
def bytesOf : List PV → Option (List UInt8)
 | [] => some []
 | x :: r => match byteOf x, bytesOf r with
  | some a, some b => some (a :: b)
  | _, _ => none
def xstr (x : AV) : Option AV :=
 match x with
 | .p (.lst _ xs) => (bytesOf xs).map fun l => .p (.v (.string ⟨l.toArray⟩))
 | _ => none
def xbyt (x : AV) : Option AV :=
 match x with
 | .p (.v (.string s)) => some (.p (.lst .sh (Z2q s)))
 | _ => none
def Z2B (P : Program) (t : TypeId) (k : IntKind) : Bool :=
 match P.underlying t with
 | some (.slice e) => (match P.underlying e with | some (.int k') => k == k' | _ => false)
 | _ => false
def Z3T (P : Program) (t : TypeId) : Bool :=
 match P.underlying t with
 | some .string => true
 | _ => false
def xcnv (P : Program) (s d : TypeId) (x : AV) : Option AV :=
 if Z3T P d && Z2B P s .u8 then xstr x
 else if Z3T P s && Z2B P d .u8 then xbyt x
 else ob (Z4N x) fun a => ob (Z1W P (convert s d a)) Z2f
def ZfB (P : Program) (s : TypeId) (x : AV) : Option AV :=
 match x with
 | .p (.lst .un xs) => if Z2B P s .u8 = true then some (.p (.lst .sh xs)) else none
 | x => xcnv P s s x
def unOf : AV → AV
 | .p (.lst .ex (x :: xs)) => .p (.lst .un (x :: xs))
 | x => x
def asInt {β : Type} (x : AV) (k : Int → Option β) : Option β :=
 match x with
 | .p (.v (.int _ n)) => k n
 | _ => none
def szOk (n : Nat) (xs : List PV) : Bool := xs.all fun e => (Z16 e).length == n
def xidx (n : Nat) (x i : AV) : Option AV :=
 match x with
 | .p (.lst _ xs) => asInt i fun j =>
  if 0 ≤ j then
   match xs[j.toNat]? with
   | some e => if (Z16 e).length == n && decide (0 < n) then some (.cptr (Z16 e)) else none
   | none => none
  else none
 | _ => none
def ZfA (n s : Nat) (x i : AV) : Option AV :=
 match x with
 | .ptr id off => asInt i fun j => if 0 ≤ j ∧ j < n then some (.ptr id (off + j.toNat * s)) else none
 | .cptr cs => asInt i fun j => if 0 ≤ j ∧ j < n then some (.cptr (cs.drop (j.toNat * s))) else none
 | _ => none
def xfld (off : Nat) (x : AV) : Option AV :=
 match x with
 | .ptr id o => some (.ptr id (o + off))
 | .cptr cs => some (.cptr (cs.drop off))
 | _ => none
def Z7E (x : AV) : Option AV :=
 match x with
 | .ptr .. | .cptr _ | .clo .. => some x
 | _ => none
def Z7F (ag : Bool) (off n : Nat) (x : AV) : Option AV :=
 match x with
 | .p (.agg cs) => if ag then (if off + n ≤ cs.length then some (.p (.agg ((cs.drop off).take n))) else none) else ob cs[off]? fun c => some (.p c)
 | .agg cs => if ag then (if off + n ≤ cs.length then some (Z3A ((cs.drop off).take n)) else none) else cs[off]?
 | _ => none
def xext (i : Nat) (x : AV) : Option AV :=
 match x with
 | .p (.tup vs) => ob vs[i]? fun c => some (.p c)
 | .tup vs => vs[i]?
 | _ => none
def xlen (P : Program) (t : TypeId) (x : AV) : Option AV :=
 match P.underlying t, x with
 | some (.slice _), .p (.lst _ xs) => some (.p (.v (.int .i64 xs.length)))
 | some .string, .p (.v (.string s)) => some (.p (.v (.int .i64 s.size)))
 | _, _ => none
def Z4A (P : Program) (t : TypeId) : Bool :=
 match P.underlying t with
 | some (.slice _) | some .string => false
 | _ => true
def optI (d : Int) : Option AV → Option Int
 | none => some d
 | some (.p (.v (.int _ n))) => some n
 | some _ => none
def xsl (n : Nat) (x : AV) (lo hi mx : Option AV) : Option AV :=
 match x with
 | .p (.lst o xs) => ob (optI 0 lo) fun l => ob (optI xs.length hi) fun h =>
  if 0 ≤ l ∧ l ≤ h ∧ h ≤ xs.length ∧ szOk n xs ∧ 0 < n then
   let ys := (xs.take h.toNat).drop l.toNat
   match mx with
   | none => some (.p (.lst (match o with | .nl => .nl | _ => .sh) ys))
   | some m => asInt m fun c => if c = h then some (.p (.lst .ex ys)) else none
  else none
 | _ => none
def xslS (x : AV) (lo hi : Option AV) : Option AV :=
 match x with
 | .p (.v (.string s)) => ob (optI 0 lo) fun l => ob (optI s.size hi) fun h =>
  if 0 ≤ l ∧ l ≤ h ∧ h ≤ s.size then some (.p (.v (.string (s.extract l.toNat h.toNat)))) else none
 | _ => none
def Z1d : Own → Bool
 | .sh => false
 | _ => true
def apo (o : Own) (ys : List PV) : Own :=
 match ys with
 | [] => o
 | _ :: _ => .un
def lim : Nat := 1353245080339
def Zb2 (x : AV) : Option (List PV) :=
 match x with
 | .p (.lst _ ys) => some ys
 | .p (.v (.string s)) => some (Z2q s)
 | _ => none
def xapp (n : Nat) (x y : AV) : Option AV :=
 match x with
 | .p (.lst o xs) => ob (Zb2 y) fun ys =>
  if (Z1d o || ys.isEmpty) && szOk n xs && szOk n ys && decide (0 < n) && decide (xs.length + ys.length ≤ lim) then some (.p (.lst (apo o ys) (xs ++ ys))) else none
 | _ => none
def Z3Q (P : Program) (mx : Bool) (xs : List AV) : Option AV :=
 let rec vals : List AV → Option (List Value)
  | [] => some []
  | a :: r => ob (Z4N a) fun x => (vals r).map (x :: ·)
 ob (vals xs) fun l => ob (Z1W P (if mx then Builtin.max_ #[] 0 l.toArray else Builtin.min_ #[] 0 l.toArray)) Z2f
def mdOf : Row → Option (List (Int × PV))
 | [.md es] => some es
 | _ => none
def ldN (ag : Bool) (n : Nat) (x : AV) (B : List Row) : Option AV :=
 match x with
 | .ptr id off => ob B[id]? fun row =>
  if (mdOf row).isSome = true then none
  else if ag then (if off + n ≤ row.length then some (Z3A (((row.drop off).take n).map shr)) else none)
  else ob row[off]? fun c => some (shr c)
 | .cptr cs =>
  if ag then (if n ≤ cs.length then some (.p (.agg (cs.take n))) else none)
  else ob cs[0]? fun c => some (.p c)
 | _ => none
def ldOwn (x : AV) (B : List Row) (k : AV → List Row → Option Res) : Option Res :=
 match x with
 | .ptr id off => ob B[id]? fun row => if (mdOf row).isSome = true then none else ob row[off]? fun c => k c (B.set id (row.set off (shr c)))
 | _ => none
def Z1J : AV → Bool
 | .p (.tup _) | .tup _ | .p .junk | .md _ => true
 | _ => false
def bx (x : AV) (B : List Row) (k : AV → List Row → Option Res) : Option Res :=
 if Z1J x = true then none else k (.ptr B.length 0) (B ++ [Z1h x])
def setAt (row : Row) (off : Nat) : List AV → Row
 | [] => row
 | c :: cs => setAt (row.set off c) (off + 1) cs
def stN (n : Nat) (a x : AV) (B : List Row) (k : List Row → Option Res) : Option Res :=
 match a with
 | .ptr id off => ob B[id]? fun row =>
  let cs := Z1h x
  if (mdOf row).isNone = true ∧ Z1J x = false ∧ cs.length = n ∧ off + n ≤ row.length then k (B.set id (setAt row off cs)) else none
 | _ => none
def putE : List (Int × PV) → Int → PV → List (Int × PV)
 | [], n, y => [(n, y)]
 | q :: r, n, y => if q.1 = n then (n, y) :: r else q :: putE r n y
def delE : List (Int × PV) → Int → List (Int × PV)
 | [], _ => []
 | q :: r, n => if q.1 = n then r else q :: delE r n
def getE : List (Int × PV) → Int → Option PV
 | [], _ => none
 | q :: r, n => if q.1 = n then some q.2 else getE r n
def mapE (P : Program) (t : TypeId) : Option TypeId :=
 match P.underlying t with
 | some (.map k e) => match P.underlying k with
  | some (.int .i64) => some e
  | _ => none
 | _ => none
def asK {β : Type} (x : AV) (k : Int → Option β) : Option β :=
 match x with
 | .p (.v (.int .i64 n)) => k n
 | _ => none
def Z30 (x : AV) (B : List Row) : Option (Nat × List (Int × PV)) :=
 match x with
 | .mp id => ob B[id]? fun row => ob (mdOf row) fun es => some (id, es)
 | _ => none
def Z2X : AV → Option PV
 | .p x => some x
 | _ => none
def Z34 (P : Program) (t : TypeId) (c : Bool) (x i : AV) (B : List Row) : Option AV :=
 ob (mapE P t) fun e => ob (Z30 x B) fun q => asK i fun n =>
  match getE q.2 n with
  | some y => some (.p (if c = true then .tup [y, .v (.bool true)] else y))
  | none => ob ((P.info? e).bind (·.zero)) fun z => ob (Z2f z) fun z => ob (Z2X z) fun z => some (.p (if c = true then .tup [z, .v (.bool false)] else z))
def xupd (P : Program) (t : TypeId) (m k x : AV) (B : List Row) (K : List Row → Option Res) : Option Res :=
 ob (mapE P t) fun _ => ob (Z30 m B) fun q => asK k fun n => ob (Z2X x) fun y => if Z1J x = true then none else K (B.set q.1 [.md (putE q.2 n (nrm y))])
def xdel (P : Program) (t : TypeId) (m k : AV) (B : List Row) (K : List Row → Option Res) : Option Res :=
 ob (mapE P t) fun _ => ob (Z30 m B) fun q => asK k fun n => K (B.set q.1 [.md (delE q.2 n)])
def Z6e (x : AV) (B : List Row) : Option AV := ob (Z30 x B) fun q => some (.p (.v (.int .i64 q.2.length)))
def xmake (P : Program) (t : TypeId) (B : List Row) (k : AV → List Row → Option Res) : Option Res := ob (mapE P t) fun _ => k (.mp B.length) (B ++ [[.md []]])
mutual
def ptrs : AV → List Nat
 | .ptr id _ => [id]
 | .mp id => [id]
 | .clo _ a b => ZI a ++ ZI b
 | .agg cs => ZI cs
 | .tup vs => ZI vs
 | _ => []
def ZI : List AV → List Nat
 | [] => []
 | x :: r => ptrs x ++ ZI r
end
mutual
def Z11 (g : Nat → Nat) : AV → AV
 | .ptr id off => .ptr (g id) off
 | .mp id => .mp (g id)
 | .md es => .md es
 | .clo f a b => .clo f (ZT g a) (ZT g b)
 | .agg cs => .agg (ZT g cs)
 | .tup vs => .tup (ZT g vs)
 | .p x => .p x
 | .cptr cs => .cptr cs
def ZT (g : Nat → Nat) : List AV → List AV
 | [] => []
 | x :: r => Z11 g x :: ZT g r
end
def ZY (B : List Row) : Nat → List Nat → List Nat → List Nat
 | 0, _, seen => seen
 | _ + 1, [], seen => seen
 | n + 1, i :: todo, seen =>
  if seen.contains i then ZY B n todo seen
  else ZY B n (todo ++ (match B[i]? with | some row => ZI row | none => [])) (seen ++ [i])
def Z18 (B : List Row) : List Nat → List Row → List Row
 | i :: is, r :: rs => Z18 (B.set i r) is rs
 | _, _ => B
def below (m : Nat) (l : List Nat) : Bool := l.all (· < m)
def callS (raw : Bool) (G : FuncId → List AV → List Row → Option Res) (g : FuncId) (args : List AV) (B : List Row) (k : AV → List Row → Option Res) : Option Res :=
 let rs := ZY B 64 (ZI args) []
 let m := rs.length
 let into := fun id => rs.idxOf id
 if !((ZI args).all rs.contains && rs.all (fun i => decide (i < B.length) && (ZI (B.getD i [])).all rs.contains)) then none else
 ob (G g (ZT into (match raw with | true => args | false => args.map nrmA)) (rs.map fun i => ZT into (B.getD i []))) fun r =>
  let B' := r.2.take m
  if below m (ptrs r.1) && B'.all (fun row => below m (ZI row)) then
   let back := fun id => rs.getD id 0
   k (Z11 back r.1) (Z18 B rs (B'.map (ZT back)))
  else
   let n := B.length
   let back := fun id => if id < m then rs.getD id 0 else n + (id - m)
   k (Z11 back r.1) (Z18 B rs (B'.map (ZT back)) ++ (r.2.drop m).map (ZT back))
def Z4F (raw : Bool) (G : FuncId → List AV → List Row → Option Res) (g : FuncId) (args : List AV) (B : List Row) (k : AV → List Row → Option Res) : Option Res :=
 grd ((ZI args).all fun i => (ZI (B.getD i [])).isEmpty) (callS raw G g args B fun v B' => grd (Nat.beq B'.length B.length) (k v B'))
def callQ (near raw : Bool) (G : FuncId → List AV → List Row → Option Res) (g : FuncId) (args : List AV) (B : List Row) (k : AV → List Row → Option Res) : Option Res :=
 match near with
 | false => callS raw G g args B k
 | true => Z4F raw G g args B k
def callV (H : Hints) (G : FuncId → List AV → List Row → Option Res) (x : AV) (args : List AV) (B : List Row) (k : AV → List Row → Option Res) : Option Res :=
 match x with
 | .clo g first cap => if H.raw g then none else callS false G g (first ++ args ++ cap) B k
 | _ => none
def get : Sl → Nat → AV
 | [], _ => jk
 | (i, x) :: r, t => match Nat.beq i t with
  | true => x
  | false => get r t
def ev (sl : Sl) : Operand → AV
 | .tmp t => get sl t
 | .const (.slice none 0 0) => .p (.lst .nl [])
 | .const v => if scal v then .p (.v v) else jk
 | .func f => .clo f [] []
 | .global _ => jk
abbrev weak (sl : Sl) : Operand → Sl
 | .tmp t => (t, shr (get sl t)) :: sl
 | _ => sl
def weakL (sl : Sl) : List Operand → Sl
 | [] => sl
 | x :: r => weakL (weak sl x) r
abbrev put (sl : Sl) (d : Option Tmp) (v : AV) : Sl :=
 match d with
 | some d => (d, v) :: sl
 | none => sl
def shape (P : Program) (t : TypeId) : Option (Bool × Nat) :=
 match P.underlying t, P.info? t with
 | some (.struct _), some i => some (true, i.size)
 | some (.array _ _), some i => some (true, i.size)
 | some _, some i => if i.size = 1 then some (false, 1) else none
 | _, _ => none
def xat (P : Program) (t : TypeId) (x i : AV) : Option AV :=
 match P.underlying t with
 | some (.array n e) => ob (shape P e) fun s => asInt i fun j => if 0 ≤ j ∧ j < n then Z7F s.1 (j.toNat * s.2) s.2 x else none
 | some .string => match x with
  | .p (.v (.string b)) => asInt i fun j => if 0 ≤ j then ob b[j.toNat]? fun c => some (.p (.v (.int .u8 c.toNat))) else none
  | _ => none
 | _ => none
def zeroOf (P : Program) (t : TypeId) : Option AV :=
 match P.info? t with
 | some i => ob i.zero Z2f
 | none => none
def bz (P : Program) (t : TypeId) (B : List Row) (k : AV → List Row → Option Res) : Option Res := ob (zeroOf P t) fun z => bx z B k
def Z5N (place : Nat → Option (Nat × Nat)) (cells : List AV) : List (Nat × AV) → Option (List AV)
 | [] => some cells
 | (i, v) :: rest =>
  match place i with
  | none => none
  | some (off, size) =>
   let cs := (Z1h v).map shr
   if Z1J v = false ∧ cs.length = size ∧ off + size ≤ cells.length then Z5N place (setAt cells off cs) rest else none
def fieldsOf (P : Program) (t : TypeId) : Option (List (Nat × Nat)) :=
 match P.underlying t with
 | some (.struct fields) => fields.toList.mapM fun f => (P.info? f.type).map fun i => (f.offset, i.size)
 | _ => none
def Z2u (P : Program) (t : TypeId) (parts : List (Nat × AV)) : Option AV :=
 ob (zeroOf P t) fun z =>
  match P.underlying t with
  | some (.struct _) => ob (fieldsOf P t) fun places => ob (Z5N (places[·]?) (Z1h z) parts) fun cs => some (Z3A cs)
  | some (.array _ e) => ob (P.info? e) fun i => ob (Z5N (fun k => some (k * i.size, i.size)) (Z1h z) parts) fun cs => some (Z3A cs)
  | _ => none
def asP : AV → Option PV
 | .p x => some x
 | _ => none
def Z1H (z : PV) (parts : List (Nat × PV)) (i : Nat) : Nat → List PV
 | 0 => []
 | n + 1 => (match parts.find? (fun q => q.1 == i) with | some q => q.2 | none => z) :: Z1H z parts (i + 1) n
def distinct : List Nat → Bool
 | [] => true
 | x :: r => !r.contains x && distinct r
def Z76 : List (Nat × AV) → Option (List (Nat × PV))
 | [] => some []
 | (i, x) :: r => match x, Z76 r with
  | .p y, some l => if Z1J (.p y) = true then none else some ((i, nrm y) :: l)
  | _, _ => none
def xlit (P : Program) (t : TypeId) (len : Nat) (parts : List (Nat × AV)) : Option AV :=
 match P.underlying t with
 | some (.slice e) => ob (P.info? e) fun i => ob (zeroOf P e) fun z => ob (asP z) fun z => ob (Z76 parts) fun ps =>
  let xs := Z1H (nrm z) ps 0 len
  if distinct (ps.map (·.1)) && ps.all (fun q => decide (q.1 < len)) && szOk i.size xs && decide (0 < i.size) && decide (len ≤ 4096) && decide (i.size ≤ 256) then some (.p (.lst .ex xs)) else none
 | _ => none
def sizeOf (P : Program) (t : TypeId) : Nat := match P.info? t with | some i => i.size | none => 0
def zOk (z : Option Value) (n : Nat) : Bool :=
 match z with
 | some z => z.cells.size == n
 | none => false
def Z3R (P : Program) (t : TypeId) : Nat :=
 match P.underlying t with
 | some (.slice e) => match P.info? e with | some i => if 0 < i.bytes ∧ i.bytes ≤ 104 ∧ zOk i.zero i.size = true then i.size else 0 | none => 0
 | _ => 0
def Z5M (P : Program) (s : TypeId) (f : Nat) : Option Nat :=
 match P.underlying s with
 | some (.struct fields) => match fields[f]? with
  | some x => if sizeOf P x.type = 0 then none else some x.offset
  | none => none
 | _ => none
def Z3f (H : Hints) (f : FuncId) (d : Option Tmp) : Bool :=
 match d with
 | some d => (H.own f).contains d
 | none => false
def ZdM (H : Hints) (f : FuncId) (d : Option Tmp) : Bool :=
 match d with
 | some d => (H.near f).contains d
 | none => false
def tmpsOf : List Operand → List Nat
 | [] => []
 | .tmp t :: r => t :: tmpsOf r
 | _ :: r => tmpsOf r
def evs (sl : Sl) (xs : Array Operand) : List AV := xs.toList.map (ev sl)
def evo (sl : Sl) (x : Option Operand) : Option AV := x.map (ev sl)
abbrev stepOp (P : Program) (H : Hints) (f : FuncId) (G : FuncId → List AV → List Row → Option Res)
  (o : Oper) (sl : Sl) (B : List Row) (K : AV → Sl → List Row → Option Res) : Option Res :=
 match o.op with
 | .move x | .assign x => if Z3f H f o.dst then K (ev sl x) (weak sl x) B else K (shr (ev sl x)) sl B
 | .pick c a b => asB (ev sl c) fun t => br t (K (shr (ev sl a)) sl B) (K (shr (ev sl b)) sl B)
 | .alloc t => bz P t B fun v B => K v sl B
 | .box _ x => bx (ev sl x) B fun v B => K v (weak sl x) B
 | .build t parts => ob (Z2u P t (parts.toList.map fun q => (q.1, ev sl q.2))) fun v => K v sl B
 | .buildSlice t len parts => ob (xlit P t len (parts.toList.map fun q => (q.1, ev sl q.2))) fun v => K (if Z3f H f o.dst then unOf v else v) sl B
 | .load t a => if Z3f H f o.dst then ob (shape P t) fun s => if s.1 = true then none else ldOwn (ev sl a) B fun v B => K v sl B
  else ob (shape P t) fun s => ob (ldN s.1 s.2 (ev sl a) B) fun v => K v sl B
 | .store t a x => ob (shape P t) fun s => stN s.2 (ev sl a) (ev sl x) B fun B => K jk (weak sl x) B
 | .nilCheck x => ob (Z7E (ev sl x)) fun v => K v sl B
 | .binOp op t x y _ =>
  match y with
  | .const c => if Zf6 c then ob (xnil P op t c (ev sl x)) fun v => K v sl B else ob (xbin P op t (ev sl x) (ev sl y)) fun v => K v sl B
  | _ => ob (xbin P op t (ev sl x) (ev sl y)) fun v => K v sl B
 | .unOp op _ x => ob (xun P op (ev sl x)) fun v => K v sl B
 | .convert s d x =>
  match Nat.beq s d with
  | true => ob (ZfB P s (ev sl x)) fun v => K v (weak sl x) B
  | false => ob (xcnv P s d (ev sl x)) fun v => K v sl B
 | .makeFunc (.func g) first cap => K (.clo g ((evs sl first).map nrmA) ((evs sl cap).map nrmA)) sl B
 | .slice t x lo hi mx =>
  if Z3T P t then (if mx.isSome then none else ob (xslS (ev sl x) (evo sl lo) (evo sl hi)) fun v => K v sl B)
  else if mx.isSome && !hi.isSome then none else ob (xsl (Z3R P t) (ev sl x) (evo sl lo) (evo sl hi) (evo sl mx)) fun v => K v sl B
 | .fieldAddr s x fd => ob (Z5M P s fd) fun off => ob (xfld off (ev sl x)) fun v => K v sl B
 | .field s x fd =>
  match P.underlying s with
  | some (.struct fields) => ob fields[fd]? fun fl => ob (shape P fl.type) fun h => ob (Z7F h.1 fl.offset h.2 (ev sl x)) fun v => K v sl B
  | _ => none
 | .indexAddr t x i =>
  match P.underlying t with
  | some (.array n e) => if (P.info? e).isSome = true then ob (ZfA n (sizeOf P e) (ev sl x) (ev sl i)) fun v => K v sl B else none
  | _ => ob (xidx (Z3R P t) (ev sl x) (ev sl i)) fun v => K v sl B
 | .index t x i => ob (xat P t (ev sl x) (ev sl i)) fun v => K v sl B
 | .makeMap t none => xmake P t B fun v B => K v sl B
 | .lookup t x i c => ob (Z34 P t c (ev sl x) (ev sl i) B) fun v => K v sl B
 | .mapUpdate t m k x => xupd P t (ev sl m) (ev sl k) (ev sl x) B fun B => K jk (weak sl x) B
 | .insert t m k x => xupd P t (ev sl m) (ev sl k) (ev sl x) B fun B => K jk (weak sl x) B
 | .extract x i => ob (xext i (ev sl x)) fun v => if Z3f H f o.dst then K v (weak sl x) B else K (shr v) sl B
 | .call c =>
  match c.callee with
  | .builtin .len => match c.args.toList, c.argTypes.toList with
   | [x], [t] => match mapE P t with
    | some _ => ob (Z6e (ev sl x) B) fun v => K v sl B
    | none => ob (xlen P t (ev sl x)) fun v => K v sl B
   | _, _ => none
  | .builtin .delete => match c.args.toList, c.argTypes.toList with
   | [m, k], [t, _] => xdel P t (ev sl m) (ev sl k) B fun B => K jk sl B
   | _, _ => none
  | .builtin .append => match c.args.toList, c.argTypes.toList with
   | [x, y], [t, t'] => if Z4A P t' then none else ob (xapp (Z3R P t) (ev sl x) (ev sl y)) fun v => K v (weak sl x) B
   | _, _ => none
  | .builtin .max => ob (Z3Q P true (evs sl c.args)) fun v => K v sl B
  | .builtin .min => ob (Z3Q P false (evs sl c.args)) fun v => K v sl B
  | .value (.func g) => if (H.raw g && !distinct (tmpsOf c.args.toList)) = true then none else callQ (ZdM H f o.dst) (H.raw g) G g (evs sl c.args) B fun v B => K v (if H.raw g then weakL sl c.args.toList else sl) B
  | .value x => callV H G (ev sl x) (evs sl c.args) B fun v B => K v sl B
  | _ => none
 | _ => none
inductive Cls where
 | free | rd | ol | wr | new | pure | near | loud
 deriving DecidableEq
def ZfE (P : Program) (ts : Array TypeId) : Bool :=
 ts.any fun t => match P.underlying t with
  | some (.pointer _) | some (.func ..) | some (.interface _) | some (.map ..) | some (.chan ..) | none => true
  | _ => false
def cls (P : Program) (H : Hints) (f : FuncId) (o : Oper) : Cls :=
 match o.op with
 | .load .. => if Z3f H f o.dst then .ol else .rd
 | .store .. => .wr
 | .alloc _ | .box .. => .new
 | .lookup .. => .rd
 | .makeMap .. | .mapUpdate .. | .insert .. => .loud
 | .call c => match c.callee with
  | .builtin .delete => .loud
  | .builtin .len => if c.argTypes.any (fun t => (mapE P t).isSome) then .loud else .free
  | .builtin _ => .free
  | .value (.func g) => if ZdM H f o.dst then .near else if ZfE P c.argTypes || H.raw g then .loud else .pure
  | _ => .loud
 | _ => .free
inductive Ask where
 | ne (a b : Operand)
 | np (xs : List Operand)
def Z3d (o : Oper) : List Ask :=
 match o.op, o.dst with
 | .call c, some d => [.np (.tmp d :: c.args.toList)]
 | .call _, none => [.ne (.const (.bool false)) (.const (.bool false))]
 | _, _ => []
def addrOf (o : Oper) : Option Operand :=
 match o.op with
 | .load _ a => some a
 | .store _ a _ => some a
 | .lookup _ m _ _ => some m
 | _ => none
def Z7C (x y : Oper) : Option (List Ask) :=
 match x.dst, addrOf y with
 | some d, some a => some [.ne a (.tmp d)]
 | _, _ => none
def Z3s (x y : Oper) : Option (List Ask) :=
 match addrOf x, y.op with
 | some a, .call c => some (c.args.toList.map fun b => .ne a b)
 | _, _ => none
def Z2R (P : Program) (H : Hints) (f : FuncId) (x y : Oper) : Option (List Ask) :=
 match cls P H f x, cls P H f y with
 | .free, _ | _, .free | .rd, .rd => some []
 | .new, .rd | .new, .wr | .new, .ol => Z7C x y
 | .rd, .new | .wr, .new | .ol, .new => Z7C y x
 | .rd, .near | .wr, .near | .ol, .near => Z3s x y
 | .near, .rd | .near, .wr | .near, .ol => Z3s y x
 | .near, _ | _, .near => none
 | .pure, .pure => some (Z3d x ++ Z3d y)
 | .pure, .loud | .loud, .pure | .loud, _ | _, .loud | .new, .new => none
 | .pure, _ => some (Z3d x)
 | _, .pure => some (Z3d y)
 | _, _ => match addrOf x, addrOf y with
  | some a, some b => some [.ne a b]
  | _, _ => none
def Z5O : Code → Option Nat
 | .region id _ _ => some id
 | .seq (.label _) b => Z5O b
 | .seq a _ => Z5O a
 | .block _ c | .loop c | .scope c => Z5O c
 | _ => none
def Z2K (sl : Sl) : List Nat → Sl
 | [] => []
 | t :: r => (t, get sl t) :: Z2K sl r
def Z4D : Sl → List AV
 | [] => []
 | q :: r => q.2 :: Z4D r
def gcB (m0 : Nat) (vs : List AV) (B : List Row) : List Row :=
 let n := (ZI vs).foldl (fun n i => max n (i + 1)) m0
 if (B.take n).all (fun row => below n (ZI row)) then B.take n else B
def enter (H : Hints) (f m0 : Nat) (c : Code) (k : Sl → List Row → Option Res) (sl : Sl) (B : List Row) : Option Res :=
 hi (match (Z5O c).bind (H.keep f) with
 | none => k sl B
 | some m => k (Z2K sl m) (gcB m0 (Z4D (Z2K sl m)) B)) callV
def ZdW : List Nat → Nat → Bool
 | [], _ => false
 | x :: r, j => match Nat.beq x j with
  | true => true
  | false => ZdW r j
abbrev udK (x : AV) (k : Option Res) : Option Res :=
 match x with
 | .p (.tup []) => k
 | _ => none
abbrev guarded (ops : Array Oper) (sk : List Nat) (g : Option (Nat × Bool)) (sl : Sl) (yes no : Sl → Option Res) : Option Res :=
 match g with
 | none => yes sl
 | some (j, want) =>
  match (ops[j]?).bind (·.dst) with
  | none => none
  | some d =>
   match ZdW sk j with
   | true => udK (get sl d) (no sl)
   | false =>
    asB (get sl d) fun b =>
     br b (match want with | true => yes ((d, .p (.v (.bool true))) :: sl) | false => no ((d, .p (.v (.bool true))) :: sl))
        (match want with | true => no ((d, .p (.v (.bool false))) :: sl) | false => yes ((d, .p (.v (.bool false))) :: sl))
noncomputable abbrev runOps (P : Program) (H : Hints) (f : FuncId) (G : FuncId → List AV → List Row → Option Res) (ops : Array Oper)
  (l : List Oper) (K : Sl → List Row → Option Res) : Nat → List Nat → Sl → List Row → Option Res :=
 @List.rec Oper (fun _ => Nat → List Nat → Sl → List Row → Option Res) (fun _ _ sl B => K sl B) (fun o _ ih i sk sl B =>
  guarded ops sk o.guard sl
   (fun sl => stepOp P H f G o sl B fun v sl B => ih (i + 1) sk (put sl o.dst v) B)
   (fun sl => ih (i + 1) (i :: sk) (put sl o.dst ud) B)) l
def Z3l : AV → AV → Bool
 | .ptr i _, .ptr j _ => i != j
 | .ptr i _, .mp j => i != j
 | .mp i, .ptr j _ => i != j
 | .mp i, .mp j => i != j
 | .cptr _, .mp _ => true
 | .mp _, .cptr _ => true
 | .cptr _, .ptr _ _ => true
 | .ptr _ _, .cptr _ => true
 | .cptr _, .cptr _ => true
 | .ptr _ _, .p (.lst _ _) => true
 | .p (.tup []), _ => true
 | _, .p (.tup []) => true
 | _, _ => false
def force {α : Type} (n : Nat) (k : Nat → α) : α := match n with
 | 0 => k 0
 | m + 1 => k (m + 1)
def Z2k (ms : List Nat) : List Edge → Nat
 | [] => 0
 | e :: es => if Region.binds .any e then 2 ^ e.on ||| (ms.getD e.on 0 ||| Z2k ms es) else Z2k ms es
def Z20 (o : Oper) : Bool :=
 match o.op with
 | .alloc _ | .box .. => true
 | _ => false
def isAl (o : Oper) : Bool :=
 (match o.op with | .alloc _ => true | _ => false) && o.guard.isNone && o.dst.isSome
def Z3K (P : Program) (H : Hints) (f : FuncId) (m : Nat) (o : Oper) : List (Nat × Oper) → Option (List Ask)
 | [] => some []
 | (i, x) :: r =>
  if m.testBit i || (Z20 x && Z20 o) then Z3K P H f m o r
  else match Z2R P H f x o with
   | none => none
   | some ab => match Z3K P H f m o r with
    | none => none
    | some l => some (ab ++ l)
def Z3U (P : Program) (H : Hints) (f : FuncId) : List Oper → Nat → List Nat → List (Nat × Oper) → List Ask → Option (List Ask)
 | [], _, _, _, asks => some asks
 | o :: os, j, ms, nf, asks => force (Z2k ms o.after.toList) fun m =>
  match cls P H f o with
  | .free => Z3U P H f os (j + 1) (ms ++ [m]) nf asks
  | _ => match Z3K P H f m o nf with
   | none => none
   | some l => Z3U P H f os (j + 1) (ms ++ [m]) (nf ++ [(j, o)]) (asks ++ l)
def Z72 (xs : List AV) : Bool := (ZI xs).isEmpty
def Z1v (sl : Sl) : Ask → Bool
 | .ne a b => Z3l (ev sl a) (ev sl b)
 | .np xs => Z72 (xs.map (ev sl))
noncomputable abbrev askAll (sl : Sl) (l : List Ask) (k : Option Res) : Option Res :=
 @List.rec Ask (fun _ => Option Res) k (fun q _ ih => grd (Z1v sl q) ih) l
noncomputable def runRegion (P : Program) (H : Hints) (f : FuncId) (G : FuncId → List AV → List Row → Option Res) (ops : Array Oper) (draw : Bool)
  (K : Sl → List Row → Option Res) (sl : Sl) (B : List Row) : Option Res :=
 match draw with
 | false => runOps P H f G ops ops.toList K 0 [] sl B
 | true =>
  match Z3U P H f ops.toList 0 [] [] [] with
  | none => none
  | some l => runOps P H f G ops ops.toList (fun sl B => askAll sl l (K sl B)) 0 [] sl B
def kblk (id : Nat) (K : Kont) : Kont := fun e sl B =>
 hi (match e with
 | .exit i => if i = id then K .normal sl B else K (.exit i) sl B
 | e => K e sl B) callV
def kseq (H : Hints) (f m0 : Nat) (b : Code) (run : Sl → List Row → Option Res) (K : Kont) : Kont := fun e sl B =>
 hi (match e with
 | .normal => enter H f m0 b run sl B
 | e => K e sl B) callV
noncomputable def exec (P : Program) (H : Hints) (f m0 : Nat) (G : FuncId → List AV → List Row → Option Res)
  (LP : Nat → Nat → Code → Kont → Sl → List Row → Option Res) (c : Code) : Kont → Sl → List Row → Option Res :=
 @Code.rec (fun _ => Kont → Sl → List Row → Option Res)
  (fun K => K .normal)
  (fun _ ops draw K sl B => mk (runRegion P H f G ops draw (K .normal) sl B))
  (fun _ b iha ihb K => iha (kseq H f m0 b (ihb K) K))
  (fun c a b iha ihb K sl B => asB (ev sl c) fun t => br t (enter H f m0 a (iha K) sl B) (enter H f m0 b (ihb K) sl B))
  (fun id _ ih K => ih (kblk id K))
  (fun c _ K sl B => lp (LP f m0 c K sl B))
  (fun _ _ _ _ _ _ _ _ _ => none)
  (fun id K => K (.exit id))
  (fun _ ih K => ih K)
  (fun _ K => K .normal)
  (fun _ _ _ _ => none)
  (fun K => K .ret)
  (fun _ _ _ _ => none)
  c
def kloop (H : Hints) (f m0 : Nat) (c : Code) (again : Sl → List Row → Option Res) (K : Kont) : Kont := fun e sl B =>
 hi (match e with
 | .normal => enter H f m0 c (fun sl B => lp (again sl B)) sl B
 | e => K e sl B) callV
def Z9F (P : Program) (sl : Sl) (B : List Row) : ResultVar → Option AV
 | .tmp t => some (get sl t)
 | .cell a t => ob (shape P t) fun s => ldN s.1 s.2 (get sl a) B
def Z4r (P : Program) (sl : Sl) (B : List Row) : List ResultVar → Option (List AV)
 | [] => some []
 | r :: rs => ob (Z9F P sl B r) fun v => ob (Z4r P sl B rs) fun vs => some (v :: vs)
abbrev kret (P : Program) (H : Hints) (f : FuncId) (rs : Array ResultVar) : Kont := fun e sl B =>
 match e with
 | .exit _ => none
 | _ => ob (Z4r P sl B rs.toList) fun vs =>
  let r := match vs with
   | [v] => v
   | vs => Z2P (vs.map shr)
  some ((if H.raw f then r else nrmA r), B)
def number : Nat → List AV → Sl
 | _, [] => []
 | i, x :: r => (i, x) :: number (i + 1) r
noncomputable def body (P : Program) (X : FuncId → Option (List AV → List Row → Option Res)) (H : Hints) (G : FuncId → List AV → List Row → Option Res)
  (LP : Nat → Nat → Code → Kont → Sl → List Row → Option Res) (f : FuncId) (args : List AV) (B : List Row) : Option Res :=
 match X f with
 | some m => m args B
 | none =>
  match P.funcs[f]? with
  | none => none
  | some fn =>
   match fn.body with
   | none => none
   | some c => if args.length ≤ fn.ntmps then
     exec P H f B.length G LP c (kret P H f fn.results) (number 0 args) B else none
noncomputable def evlp (P : Program) (X : FuncId → Option (List AV → List Row → Option Res)) (H : Hints) : Nat →
  (FuncId → List AV → List Row → Option Res) × (Nat → Nat → Code → Kont → Sl → List Row → Option Res)
 | 0 => (fun _ _ _ => none, fun _ _ _ _ _ _ => none)
 | n + 1 =>
  let r := evlp P X H n
  (body P X H r.1 r.2, fun f m0 c K sl B => exec P H f m0 r.1 r.2 c (kloop H f m0 c (r.2 f m0 c K) K) sl B)
end Go.Abs
end
section
namespace Go.Abs
open Go
noncomputable def lim' {α : Type} (g : Nat → Option α) : Option α :=
 open Classical in if h : ∃ r, ∃ n, ∀ m, n ≤ m → g m = some r then some h.choose else none
theorem Z3J {α : Type} {g : Nat → Option α} {r : α} : lim' g = some r ↔ ∃ n, ∀ m, n ≤ m → g m = some r := by
 unfold lim'
 constructor
 ·intro h
  split at h
  ·rename_i hh
   have := hh.choose_spec
   simp only [ZO] at h
   rw [h] at this
   exact this
  ·simp at h
 ·intro h
  have hh : ∃ r, ∃ n, ∀ m, n ≤ m → g m = some r := ⟨r, h⟩
  rw [dif_pos hh]
  obtain ⟨n, hn⟩ := h
  obtain ⟨n', hn'⟩ := hh.choose_spec
  have a := hn (max n n') (Nat.le_max_left _ _)
  have b := hn' (max n n') (Nat.le_max_right _ _)
  rw [a] at b
  exact b.symm
def Ap {α : Type} (x : Option α) (xm : Nat → Option α) : Prop := ∀ r, x = some r → ∃ n, ∀ m, n ≤ m → xm m = some r
theorem Ap.const {α : Type} (x : Option α) : Ap x (fun _ => x) := fun _ h => ⟨0, fun _ _ => h⟩
theorem Ap.none {α : Type} (xm : Nat → Option α) : Ap Option.none xm := fun _ h => by cases h
theorem Ap.ob2 {α β : Type} {x : Option α} {xm : Nat → Option α} {k : α → Option β} {km : Nat → α → Option β} (hx : Ap x xm) (hk : ∀ a, Ap (k a) (fun m => km m a)) :
  Ap (ob x k) (fun m => ob (xm m) (km m)) := by
 intro r h
 cases hxv : x with
 | none => rw [hxv] at h; simp [ob] at h
 | some a =>
  rw [hxv] at h
  simp only [ob] at h
  obtain ⟨n, hn⟩ := hx a hxv
  obtain ⟨n', hn'⟩ := hk a r h
  refine ⟨max n n', fun m hm => ?_⟩
  show Go.Abs.ob (xm m) (km m) = some r
  rw [hn m (by omega)]
  exact hn' m (by omega)
theorem Ap.ob {α β : Type} (x : Option α) {k : α → Option β} {km : Nat → α → Option β} (hk : ∀ a, Ap (k a) (fun m => km m a)) :
  Ap (ob x k) (fun m => ob x (km m)) := Ap.ob2 (Ap.const x) hk
theorem Ap.ite {β : Type} {c : Prop} [Decidable c] {a b : Option β} {am bm : Nat → Option β} (ha : Ap a am) (hb : Ap b bm) : Ap (if c then a else b) (fun m => if c then am m else bm m) := by
 by_cases h : c
 ·simp only [if_pos h]; exact ha
 ·simp only [if_neg h]; exact hb
theorem Ap.br {β : Type} (t : Bool) {a b : Option β} {am bm : Nat → Option β} (ha : Ap a am) (hb : Ap b bm) : Ap (br t a b) (fun m => br t (am m) (bm m)) := Ap.ite ha hb
theorem Ap.grd {β : Type} (t : Bool) {a : Option β} {am : Nat → Option β} (ha : Ap a am) : Ap (grd t a) (fun m => grd t (am m)) := Ap.ite ha (Ap.const _)
theorem Ap.asB {β : Type} (x : AV) {k : Bool → Option β} {km : Nat → Bool → Option β} (hk : ∀ b, Ap (k b) (fun m => km m b)) : Ap (asB x k) (fun m => asB x (km m)) := by
 unfold Go.Abs.asB hi
 split
 ·exact hk _
 ·exact Ap.none _
abbrev GF := FuncId → List AV → List Row → Option Res
abbrev LF := Nat → Nat → Code → Kont → Sl → List Row → Option Res
abbrev KV := AV → List Row → Option Res
theorem Ap.bx (x : AV) (B : List Row) {k : KV} {km : Nat → KV} (hk : ∀ v B, Ap (k v B) (fun m => km m v B)) : Ap (bx x B k) (fun m => bx x B (km m)) := Ap.ite (Ap.const _) (hk _ _)
theorem Ap.bz (P : Program) (t : TypeId) (B : List Row) {k : KV} {km : Nat → KV} (hk : ∀ v B, Ap (k v B) (fun m => km m v B)) : Ap (bz P t B k) (fun m => bz P t B (km m)) := Ap.ob _ fun _ => Ap.bx _ _ hk
theorem Ap.stN (n : Nat) (a x : AV) (B : List Row) {k : List Row → Option Res} {km : Nat → List Row → Option Res} (hk : ∀ B, Ap (k B) (fun m => km m B)) :
  Ap (stN n a x B k) (fun m => stN n a x B (km m)) := by
 unfold Go.Abs.stN
 split
 ·exact Ap.ob _ fun row => Ap.ite (hk _) (Ap.const _)
 ·exact Ap.none _
theorem Ap.ldOwn (x : AV) (B : List Row) {k : KV} {km : Nat → KV} (hk : ∀ v B, Ap (k v B) (fun m => km m v B)) : Ap (ldOwn x B k) (fun m => ldOwn x B (km m)) := by
 unfold Go.Abs.ldOwn
 split
 ·exact Ap.ob _ fun row => Ap.ite (Ap.const _) (Ap.ob _ fun c => hk _ _)
 ·exact Ap.none _
theorem Ap.asK (x : AV) {k : Int → Option Res} {km : Nat → Int → Option Res} (hk : ∀ n, Ap (k n) (fun m => km m n)) : Ap (asK x k) (fun m => asK x (km m)) := by
 unfold Go.Abs.asK
 split
 ·exact hk _
 ·exact Ap.none _
theorem Ap.xupd (P : Program) (t : TypeId) (a b x : AV) (B : List Row) {k : List Row → Option Res} {km : Nat → List Row → Option Res} (hk : ∀ B, Ap (k B) (fun m => km m B)) : Ap (xupd P t a b x B k) (fun m => xupd P t a b x B (km m)) :=
 Ap.ob _ fun _ => Ap.ob _ fun _ => Ap.asK _ fun _ => Ap.ob _ fun _ => Ap.ite (Ap.const _) (hk _)
theorem Ap.xdel (P : Program) (t : TypeId) (a b : AV) (B : List Row) {k : List Row → Option Res} {km : Nat → List Row → Option Res} (hk : ∀ B, Ap (k B) (fun m => km m B)) : Ap (xdel P t a b B k) (fun m => xdel P t a b B (km m)) :=
 Ap.ob _ fun _ => Ap.ob _ fun _ => Ap.asK _ fun _ => hk _
theorem Ap.xmake (P : Program) (t : TypeId) (B : List Row) {k : KV} {km : Nat → KV} (hk : ∀ v B, Ap (k v B) (fun m => km m v B)) : Ap (xmake P t B k) (fun m => xmake P t B (km m)) := Ap.ob _ fun _ => hk _ _
theorem Ap.callS (raw : Bool) {G : GF} {Gm : Nat → GF} (hG : ∀ f a B, Ap (G f a B) (fun m => Gm m f a B)) (g : FuncId) (args : List AV) (B : List Row) {k : KV} {km : Nat → KV}
  (hk : ∀ v B, Ap (k v B) (fun m => km m v B)) : Ap (callS raw G g args B k) (fun m => callS raw (Gm m) g args B (km m)) := by
 unfold Go.Abs.callS
 refine Ap.ite (Ap.const _) (Ap.ob2 (hG _ _ _) fun r => Ap.ite (hk _ _) (hk _ _))
theorem Ap.callQ (near raw : Bool) {G : GF} {Gm : Nat → GF} (hG : ∀ f a B, Ap (G f a B) (fun m => Gm m f a B)) (g : FuncId) (args : List AV) (B : List Row) {k : KV} {km : Nat → KV}
  (hk : ∀ v B, Ap (k v B) (fun m => km m v B)) : Ap (callQ near raw G g args B k) (fun m => callQ near raw (Gm m) g args B (km m)) := by
 cases near with
 | false => exact Ap.callS raw hG g args B hk
 | true => exact Ap.grd _ (Ap.callS raw hG g args B fun _ _ => Ap.grd _ (hk _ _))
theorem Ap.callV (H : Hints) {G : GF} {Gm : Nat → GF} (hG : ∀ f a B, Ap (G f a B) (fun m => Gm m f a B)) (x : AV) (args : List AV) (B : List Row) {k : KV} {km : Nat → KV}
  (hk : ∀ v B, Ap (k v B) (fun m => km m v B)) : Ap (callV H G x args B k) (fun m => callV H (Gm m) x args B (km m)) := by
 unfold Go.Abs.callV
 split
 ·exact Ap.ite (Ap.const _) (Ap.callS false hG _ _ _ hk)
 ·exact Ap.none _
section
variable {P : Program} {H : Hints} {f : FuncId} {G : GF} {Gm : Nat → GF} (hG : ∀ f a B, Ap (G f a B) (fun m => Gm m f a B))
include hG
theorem Ap.stepOp (o : Oper) (sl : Sl) (B : List Row) {K : AV → Sl → List Row → Option Res} {Km : Nat → AV → Sl → List Row → Option Res}
  (hK : ∀ v sl B, Ap (K v sl B) (fun m => Km m v sl B)) : Ap (stepOp P H f G o sl B K) (fun m => stepOp P H f (Gm m) o sl B (Km m)) := by
 unfold Go.Abs.stepOp
 repeat' (first
  | exact hK _ _ _
  | exact Ap.none _
  | exact Ap.const _
  | (refine Ap.callQ _ _ hG _ _ _ fun _ _ => ?_)
  | (refine Ap.callV _ hG _ _ _ fun _ _ => ?_)
  | (refine Ap.bz _ _ _ fun _ _ => ?_)
  | (refine Ap.xupd _ _ _ _ _ _ fun _ => ?_)
  | (refine Ap.xdel _ _ _ _ _ fun _ => ?_)
  | (refine Ap.xmake _ _ _ fun _ _ => ?_)
  | (refine Ap.ob _ fun _ => ?_)
  | (refine Ap.bx _ _ fun _ _ => ?_)
  | (refine Ap.stN _ _ _ _ fun _ => ?_)
  | (refine Ap.ldOwn _ _ fun _ _ => ?_)
  | (refine Ap.asB _ fun _ => ?_)
  | (refine Ap.br _ ?_ ?_)
  | (refine Ap.ite ?_ ?_)
  | split)
omit hG in
theorem Ap.guarded (ops : Array Oper) (sk : List Nat) (g : Option (Nat × Bool)) (sl : Sl) {yes no : Sl → Option Res} {ym nm : Nat → Sl → Option Res}
  (hy : ∀ sl, Ap (yes sl) (fun m => ym m sl)) (hn : ∀ sl, Ap (no sl) (fun m => nm m sl)) : Ap (guarded ops sk g sl yes no) (fun m => guarded ops sk g sl (ym m) (nm m)) := by
 unfold Go.Abs.guarded udK
 repeat' (first
  | exact hy _
  | exact hn _
  | exact Ap.none _
  | (refine Ap.asB _ fun _ => ?_)
  | (refine Ap.br _ ?_ ?_)
  | (refine Ap.ite ?_ ?_)
  | split)
theorem Ap.runOps (ops : Array Oper) {K : Sl → List Row → Option Res} {Km : Nat → Sl → List Row → Option Res} (hK : ∀ sl B, Ap (K sl B) (fun m => Km m sl B)) (l : List Oper) :
  ∀ (i : Nat) (sk : List Nat) (sl : Sl) (B : List Row), Ap (runOps P H f G ops l K i sk sl B) (fun m => runOps P H f (Gm m) ops l (Km m) i sk sl B) := by
 induction l with
 | nil => exact fun _ _ => hK
 | cons o os ih =>
  intro i sk sl B
  have h := Ap.guarded ops sk o.guard sl (yes := fun sl => Go.Abs.stepOp P H f G o sl B fun v sl B => Go.Abs.runOps P H f G ops os K (i + 1) sk (put sl o.dst v) B)
   (no := fun sl => Go.Abs.runOps P H f G ops os K (i + 1) (i :: sk) (put sl o.dst ud) B) (ym := fun m sl => Go.Abs.stepOp P H f (Gm m) o sl B fun v sl B => Go.Abs.runOps P H f (Gm m) ops os (Km m) (i + 1) sk (put sl o.dst v) B)
   (nm := fun m sl => Go.Abs.runOps P H f (Gm m) ops os (Km m) (i + 1) (i :: sk) (put sl o.dst ud) B) (fun sl => Ap.stepOp hG o sl B fun v sl B => ih _ _ _ _) (fun sl => ih _ _ _ _)
  exact h
omit hG in
theorem Ap.askAll (sl : Sl) {k : Option Res} {km : Nat → Option Res} (hk : Ap k km) (l : List Ask) : Ap (askAll sl l k) (fun m => askAll sl l (km m)) := by
 induction l with
 | nil => exact hk
 | cons q r ih => exact Ap.grd _ ih
theorem Ap.runRegion (ops : Array Oper) (draw : Bool) {K : Sl → List Row → Option Res} {Km : Nat → Sl → List Row → Option Res} (hK : ∀ sl B, Ap (K sl B) (fun m => Km m sl B))
  (sl : Sl) (B : List Row) : Ap (runRegion P H f G ops draw K sl B) (fun m => runRegion P H f (Gm m) ops draw (Km m) sl B) := by
 unfold Go.Abs.runRegion
 cases draw with
 | false => exact Ap.runOps hG ops hK _ _ _ _ _
 | true =>
  simp only
  split
  ·exact Ap.none _
  ·exact Ap.runOps hG ops (fun sl B => Ap.askAll sl (hK sl B) _) _ _ _ _ _
end
theorem Ap.enter {H : Hints} {f m0 : Nat} (c : Code) {k : Sl → List Row → Option Res} {km : Nat → Sl → List Row → Option Res} (hk : ∀ sl B, Ap (k sl B) (fun m => km m sl B))
  (sl : Sl) (B : List Row) : Ap (enter H f m0 c k sl B) (fun m => enter H f m0 c (km m) sl B) := by
 unfold Go.Abs.enter hi
 split
 ·exact hk _ _
 ·exact hk _ _
def ApK (K : Kont) (Km : Nat → Kont) : Prop := ∀ e sl B, Ap (K e sl B) (fun m => Km m e sl B)
def ApL (LP : LF) (LPm : Nat → LF) : Prop := ∀ f m0 c K Km, ApK K Km → ∀ sl B, Ap (LP f m0 c K sl B) (fun m => LPm m f m0 c (Km m) sl B)
theorem ApK.kblk {K : Kont} {Km : Nat → Kont} (hK : ApK K Km) (id : Nat) : ApK (kblk id K) (fun m => kblk id (Km m)) := by
 intro e sl B
 cases e with
 | exit i => exact Ap.ite (hK _ _ _) (hK _ _ _)
 | normal => exact hK _ _ _
 | ret => exact hK _ _ _
theorem ApK.kloop {H : Hints} {f m0 : Nat} {c : Code} {again : Sl → List Row → Option Res} {am : Nat → Sl → List Row → Option Res} (ha : ∀ sl B, Ap (again sl B) (fun m => am m sl B))
  {K : Kont} {Km : Nat → Kont} (hK : ApK K Km) : ApK (kloop H f m0 c again K) (fun m => kloop H f m0 c (am m) (Km m)) := by
 intro e sl B
 cases e with
 | normal => exact Ap.enter c ha _ _
 | exit i => exact hK _ _ _
 | ret => exact hK _ _ _
theorem Ap.exec {P : Program} {H : Hints} {f m0 : Nat} {G : GF} {Gm : Nat → GF} (hG : ∀ f a B, Ap (G f a B) (fun m => Gm m f a B)) {LP : LF} {LPm : Nat → LF} (hL : ApL LP LPm) (c : Code) :
  ∀ (K : Kont) (Km : Nat → Kont), ApK K Km → ∀ sl B, Ap (exec P H f m0 G LP c K sl B) (fun m => exec P H f m0 (Gm m) (LPm m) c (Km m) sl B) := by
 induction c with
 | skip => intro K Km hK sl B; exact hK _ _ _
 | region id ops draw => intro K Km hK sl B; exact Ap.runRegion hG ops draw (fun sl B => hK _ sl B) _ _
 | seq a b iha ihb =>
  intro K Km hK sl B
  refine iha _ _ ?_ sl B
  intro e sl B
  cases e with
  | normal => exact Ap.enter b (fun sl B => ihb K Km hK sl B) _ _
  | exit id => exact hK _ _ _
  | ret => exact hK _ _ _
 | cond c a b iha ihb =>
  intro K Km hK sl B
  exact Ap.asB _ fun t => Ap.br t (Ap.enter a (fun sl B => iha K Km hK sl B) _ _) (Ap.enter b (fun sl B => ihb K Km hK sl B) _ _)
 | block id c ih => intro K Km hK sl B; exact ih _ _ (hK.kblk id) sl B
 | loop c _ => intro K Km hK sl B; exact hL f m0 c K Km hK sl B
 | exit id => intro K Km hK sl B; exact hK _ _ _
 | scope c ih => intro K Km hK sl B; exact ih _ _ hK sl B
 | label l => intro K Km hK sl B; exact hK _ _ _
 | ret => intro K Km hK sl B; exact hK _ _ _
 | _ => intro K Km hK sl B; exact Ap.none _
theorem ApK.kret (P : Program) (H : Hints) (f : FuncId) (rs : Array ResultVar) : ApK (kret P H f rs) (fun _ => kret P H f rs) := fun _ _ _ => Ap.const _
theorem Ap.body {P : Program} {X : FuncId → Option (List AV → List Row → Option Res)} {H : Hints} {G : GF} {Gm : Nat → GF} (hG : ∀ f a B, Ap (G f a B) (fun m => Gm m f a B))
  {LP : LF} {LPm : Nat → LF} (hL : ApL LP LPm) (f : FuncId) (args : List AV) (B : List Row) : Ap (body P X H G LP f args B) (fun m => body P X H (Gm m) (LPm m) f args B) := by
 unfold Go.Abs.body
 repeat' (first
  | exact Ap.none _
  | exact Ap.const _
  | exact Ap.exec hG hL _ _ _ (ApK.kret P H f _) _ _
  | (refine Ap.ite ?_ ?_)
  | split)
section
variable (P : Program) (X : FuncId → Option (List AV → List Row → Option Res)) (H : Hints)
theorem Z7x : ∀ n, (∀ f a B, Ap ((evlp P X H n).1 f a B) (fun m => (evlp P X H m).1 f a B)) ∧ ApL (evlp P X H n).2 (fun m => (evlp P X H m).2)
 | 0 => ⟨fun _ _ _ => Ap.none _, fun _ _ _ _ _ _ _ _ => Ap.none _⟩
 | n + 1 => by
  obtain ⟨h1, h2⟩ := Z7x n
  refine ⟨fun f a B r h => ?_, fun f m0 c K Km hK sl B r h => ?_⟩
  ·obtain ⟨N, hN⟩ := Ap.body h1 h2 f a B r h
   refine ⟨N + 1, fun m hm => ?_⟩
   obtain ⟨m, rfl⟩ : ∃ m', m = m' + 1 := ⟨m - 1, by omega⟩
   exact hN m (by omega)
  ·have hs : ApK K (fun m => Km (m + 1)) := fun e sl B r h => by
    obtain ⟨N, hN⟩ := hK e sl B r h
    exact ⟨N, fun m hm => hN (m + 1) (by omega)⟩
   obtain ⟨N, hN⟩ := Ap.exec (H := H) (f := f) (m0 := m0) h1 h2 c _ _ (ApK.kloop (fun sl B => h2 f m0 c K _ hs sl B) hs) sl B r h
   refine ⟨N + 1, fun m hm => ?_⟩
   obtain ⟨m, rfl⟩ : ∃ m', m = m' + 1 := ⟨m - 1, by omega⟩
   exact hN m (by omega)
theorem Zjf : ∀ n, ApL (evlp P X H n).2 (fun _ => (evlp P X H n).2)
 | 0 => fun _ _ _ _ _ _ _ _ => Ap.none _
 | n + 1 => by
  intro f m0 c K Km hK sl B r h
  have ih := Zjf n
  exact Ap.exec (H := H) (f := f) (m0 := m0) (fun f a B => Ap.const _) ih c _ _ (ApK.kloop (fun sl B => ih f m0 c K _ hK sl B) hK) sl B r h
noncomputable def E (f : FuncId) (a : List AV) (B : List Row) : Option Res := lim' fun n => (evlp P X H n).1 f a B
noncomputable def L (f m0 : Nat) (c : Code) (K : Kont) (sl : Sl) (B : List Row) : Option Res := lim' fun n => (evlp P X H n).2 f m0 c K sl B
theorem E_of {n f a B r} (h : (evlp P X H n).1 f a B = some r) : E P X H f a B = some r := Z3J.2 ((Z7x P X H n).1 f a B r h)
theorem L_of {n f m0 c K sl B r} (h : (evlp P X H n).2 f m0 c K sl B = some r) : L P X H f m0 c K sl B = some r :=
 Z3J.2 ((Z7x P X H n).2 f m0 c K (fun _ => K) (fun _ _ _ => Ap.const _) sl B r h)
theorem E_to {f a B r} (h : E P X H f a B = some r) : ∃ n, (evlp P X H n).1 f a B = some r := let ⟨n, hn⟩ := Z3J.1 h; ⟨n, hn n (Z1y _)⟩
theorem L_to {f m0 c K sl B r} (h : L P X H f m0 c K sl B = some r) : ∃ n, (evlp P X H n).2 f m0 c K sl B = some r := let ⟨n, hn⟩ := Z3J.1 h; ⟨n, hn n (Z1y _)⟩
theorem G_E (n) : ∀ f a B, Ap ((evlp P X H n).1 f a B) (fun _ => E P X H f a B) := fun _ _ _ _ h => ⟨0, fun _ _ => E_of P X H h⟩
theorem L_L (n) : ApL (evlp P X H n).2 (fun _ => L P X H) := fun f m0 c K Km hK sl B r h => by
 obtain ⟨N, hN⟩ := Zjf P X H n f m0 c K Km hK sl B r h
 exact ⟨N, fun m hm => L_of P X H (hN m hm)⟩
theorem E_G : ∀ f a B, Ap (E P X H f a B) (fun m => (evlp P X H m).1 f a B) := fun _ _ _ _ h => Z3J.1 h
theorem LL_ : ApL (L P X H) (fun m => (evlp P X H m).2) := fun f m0 c K Km hK sl B r h => by
 obtain ⟨n, hn⟩ := L_to P X H h
 exact (Z7x P X H n).2 f m0 c K Km hK sl B r hn
theorem Zhe {α : Type} {x y : Option α} (h : ∀ r, x = some r ↔ y = some r) : x = y := by
 cases x with
 | none => cases y with
  | none => rfl
  | some b => exact ((h b).2 rfl)
 | some a => exact ((h a).1 rfl).symm
theorem E_eq (f : FuncId) (a : List AV) (B : List Row) : E P X H f a B = body P X H (E P X H) (L P X H) f a B := by
 apply Zhe
 intro r
 constructor
 ·intro h
  obtain ⟨n, hn⟩ := Z3J.1 h
  have h1 := hn (n + 1) (by omega)
  obtain ⟨N, hN⟩ := Ap.body (G_E P X H n) (L_L P X H n) f a B r h1
  exact hN N (Z1y _)
 ·intro h
  obtain ⟨N, hN⟩ := Ap.body (E_G P X H) (LL_ P X H) f a B r h
  exact E_of P X H (n := N + 1) (hN N (Z1y _))
theorem L_eq (f m0 : Nat) (c : Code) (K : Kont) (sl : Sl) (B : List Row) :
  L P X H f m0 c K sl B = exec P H f m0 (E P X H) (L P X H) c (kloop H f m0 c (L P X H f m0 c K) K) sl B := by
 apply Zhe
 intro r
 constructor
 ·intro h
  obtain ⟨n, hn⟩ := Z3J.1 h
  have h1 := hn (n + 1) (by omega)
  obtain ⟨N, hN⟩ := Ap.exec (H := H) (f := f) (m0 := m0) (G_E P X H n) (L_L P X H n) c _ (fun _ => kloop H f m0 c (L P X H f m0 c K) K)
   (ApK.kloop (fun sl B => L_L P X H n f m0 c K (fun _ => K) (fun _ _ _ => Ap.const _) sl B) (fun _ _ _ => Ap.const _)) sl B r h1
  exact hN N (Z1y _)
 ·intro h
  obtain ⟨N, hN⟩ := Ap.exec (H := H) (f := f) (m0 := m0) (E_G P X H) (LL_ P X H) c _ (fun m => kloop H f m0 c ((evlp P X H m).2 f m0 c K) K)
   (ApK.kloop (fun sl B => LL_ P X H f m0 c K (fun _ => K) (fun _ _ _ => Ap.const _) sl B) (fun _ _ _ => Ap.const _)) sl B r h
  exact L_of P X H (n := N + 1) (hN N (Z1y _))
end
end Go.Abs
end
section
namespace Go.Abs
open Go
abbrev Stay := Nat → Nat → Prop
def Z2M : PV → Bool
 | .v _ | .lst .. => true
 | _ => false
def Z1Y : PV → Bool
 | .lst .un _ => false
 | _ => true
def Z1Q (c : PV) : Bool := Z2M c && Z1Y c
inductive PRel (w : World) (S : Stay) : PV → Value → Prop
 | v (x : Value) : scal x = true → PRel w S (.v x) x
 | lst (o : Own) (xs : List PV) (a : Option Addr) (cap b off sz : Nat) (g : Nat → Nat → Value) :
   xs.length ≤ cap → (o = .nl → a = none ∧ cap = 0) → (o = .ex → cap = xs.length) → (o = .un → xs ≠ []) → (a = none → cap = 0) →
   (xs ≠ [] → a = some ⟨b, off, none⟩ ∧ 0 < sz ∧ ∀ e, e ∈ xs → (Z16 e).length = sz) →
   (∀ (i : Nat) (e : PV) (j : Nat) (c : PV), xs[i]? = some e → (Z16 e)[j]? = some c → w.cell? ⟨b, off + (i * sz + j), none⟩ = some (g i j) ∧ S b (off + (i * sz + j)) ∧ Z1Q c = true) →
   (∀ (i : Nat) (e : PV) (j : Nat) (c : PV), xs[i]? = some e → (Z16 e)[j]? = some c → PRel w S c (g i j)) →
   PRel w S (.lst o xs) (.slice a xs.length cap)
 | agg (cs : List PV) (arr : Array Value) : arr.size = cs.length → (∀ c, c ∈ cs → Z1Q c = true) → (∀ (i : Nat) (c : PV) (v : Value), cs[i]? = some c → arr[i]? = some v → PRel w S c v) → PRel w S (.agg cs) (.agg arr)
 | tup (vs : List PV) (arr : Array Value) : arr.size = vs.length → (∀ c, c ∈ vs → Z1Y c = true) → (∀ (i : Nat) (c : PV) (v : Value), vs[i]? = some c → arr[i]? = some v → PRel w S c v) → PRel w S (.tup vs) (.tuple arr)
 | junk (v : Value) : PRel w S .junk v
structure Keeps (w : World) (S : Stay) (w' : World) (S' : Stay) : Prop where
 more : ∀ b o, S b o → S' b o
 cell : ∀ b o, S b o → w'.cell? ⟨b, o, none⟩ = w.cell? ⟨b, o, none⟩
theorem Keeps.refl (w : World) (S : Stay) : Keeps w S w S := ⟨fun _ _ h => h, fun _ _ _ => rfl⟩
theorem Keeps.trans {w w1 w2 : World} {S S1 S2 : Stay} (h : Keeps w S w1 S1) (k : Keeps w1 S1 w2 S2) : Keeps w S w2 S2 :=
 ⟨fun b o hs => k.more b o (h.more b o hs), fun b o hs => (k.cell b o (h.more b o hs)).trans (h.cell b o hs)⟩
theorem PRel.keeps {w w' : World} {S S' : Stay} (hk : Keeps w S w' S') {x : PV} {v : Value} (h : PRel w S x v) : PRel w' S' x v := by
 induction h with
 | v _ hx => exact .v _ hx
 | lst o xs a cap b off sz g h1 h2 h3 h4 h5 h6 h7 _ ih =>
  exact .lst o xs a cap b off sz g h1 h2 h3 h4 h5 h6 (fun i e j c he hc => ⟨(hk.cell _ _ (h7 i e j c he hc).2.1).trans (h7 i e j c he hc).1, hk.more _ _ (h7 i e j c he hc).2.1, (h7 i e j c he hc).2.2⟩) ih
 | agg cs arr h1 h2 _ ih => exact .agg cs arr h1 h2 ih
 | tup vs arr h1 h2 _ ih => exact .tup vs arr h1 h2 ih
 | junk v => exact .junk v
def cellV : Value → Bool
 | .agg _ | .tuple _ => false
 | _ => true
theorem PRel.cellV {w : World} {S : Stay} {x : PV} {v : Value} (h : PRel w S x v) (hx : Z2M x = true) : cellV v = true := by
 cases h with
 | v x hs => cases v <;> simp_all [Go.Abs.cellV, scal]
 | lst => rfl
 | agg => simp [Z2M] at hx
 | tup => simp [Z2M] at hx
 | junk => simp [Z2M] at hx
def Z1k : AV → Bool
 | .p x => Z2M x
 | .ptr .. | .mp _ | .cptr _ | .clo .. => true
 | _ => false
inductive ARel (w : World) (S : Stay) (β : Nat → Nat) (n : Nat) : AV → Value → Prop
 | p (x : PV) (v : Value) : PRel w S x v → ARel w S β n (.p x) v
 | ptr (id off : Nat) : id < n → ARel w S β n (.ptr id off) (.pointer (some ⟨β id, off, none⟩))
 | mp (id : Nat) : id < n → ARel w S β n (.mp id) (.map (some (β id)))
 | cptr (cs : List PV) (b off : Nat) (g : Nat → Value) :
   (∀ (j : Nat) (c : PV), cs[j]? = some c → w.cell? ⟨b, off + j, none⟩ = some (g j) ∧ S b (off + j) ∧ Z1Q c = true ∧ PRel w S c (g j)) →
   ARel w S β n (.cptr cs) (.pointer (some ⟨b, off, none⟩))
 | clo (f : FuncId) (first cap : List AV) (a1 a2 : Array Value) : a1.size = first.length → a2.size = cap.length →
   (∀ (i : Nat) (c : AV) (v : Value), first[i]? = some c → a1[i]? = some v → ARel w S β n c v) → (∀ (i : Nat) (c : AV) (v : Value), cap[i]? = some c → a2[i]? = some v → ARel w S β n c v) →
   (∀ c, c ∈ first ++ cap → ∀ xs, c ≠ .p (.lst .un xs)) → ARel w S β n (.clo f first cap) (.func (.func f) a1 a2)
 | agg (cs : List AV) (arr : Array Value) : arr.size = cs.length → (∀ c, c ∈ cs → Z1k c = true ∧ ∀ xs, c ≠ .p (.lst .un xs)) →
   (∀ (i : Nat) (c : AV) (v : Value), cs[i]? = some c → arr[i]? = some v → ARel w S β n c v) → ARel w S β n (.agg cs) (.agg arr)
 | tup (vs : List AV) (arr : Array Value) : arr.size = vs.length → (∀ c, c ∈ vs → ∀ xs, c ≠ .p (.lst .un xs)) →
   (∀ (i : Nat) (c : AV) (v : Value), vs[i]? = some c → arr[i]? = some v → ARel w S β n c v) → ARel w S β n (.tup vs) (.tuple arr)
theorem ARel.keeps {w w' : World} {S S' : Stay} {β β' : Nat → Nat} {n n' : Nat} (hk : Keeps w S w' S') (hb : ∀ i, i < n → β' i = β i) (hn : n ≤ n') {x : AV} {v : Value}
  (h : ARel w S β n x v) : ARel w' S' β' n' x v := by
 induction h with
 | p x v h => exact .p x v (h.keeps hk)
 | ptr id off h => exact hb id h ▸ .ptr id off (Z4T h hn)
 | mp id h => exact hb id h ▸ .mp id (Z4T h hn)
 | cptr cs b off g h => exact .cptr cs b off g fun j c hc => ⟨(hk.cell _ _ (h j c hc).2.1).trans (h j c hc).1, hk.more _ _ (h j c hc).2.1, (h j c hc).2.2.1, (h j c hc).2.2.2.keeps hk⟩
 | clo f first cap a1 a2 h1 h2 _ _ h5 ih1 ih2 => exact .clo f first cap a1 a2 h1 h2 ih1 ih2 h5
 | agg cs arr h1 h2 _ ih => exact .agg cs arr h1 h2 ih
 | tup vs arr h1 h2 _ ih => exact .tup vs arr h1 h2 ih
theorem ARel.junk {w : World} {S : Stay} {β : Nat → Nat} {n : Nat} (v : Value) : ARel w S β n jk v := .p _ _ (.junk v)
theorem PRel.shrP {w : World} {S : Stay} {x : PV} {v : Value} (h : PRel w S x v) : PRel w S (shrP x) v := by
 cases h with
 | v _ hx => exact .v _ hx
 | lst o xs a cap b off sz g h1 h2 h3 h4 h5 h6 h7 h8 =>
  cases o with
  | un => exact .lst .sh xs a cap b off sz g h1 (by simp) (by simp) (by simp) h5 h6 h7 h8
  | sh => exact .lst .sh xs a cap b off sz g h1 (by simp) (by simp) (by simp) h5 h6 h7 h8
  | ex => exact .lst .ex xs a cap b off sz g h1 (by simp) h3 (by simp) h5 h6 h7 h8
  | nl => exact .lst .nl xs a cap b off sz g h1 h2 (by simp) (by simp) h5 h6 h7 h8
 | agg cs arr h1 h2 h3 => exact .agg cs arr h1 h2 h3
 | tup vs arr h1 h2 h3 => exact .tup vs arr h1 h2 h3
 | junk v => exact .junk v
theorem Z9w (x : PV) : Z1Y (shrP x) = true := by
 cases x with
 | lst o xs => cases o <;> rfl
 | _ => rfl
theorem PRel.nrmP {w : World} {S : Stay} {x : PV} {v : Value} (h : PRel w S x v) : PRel w S (nrmP x) v := by
 cases h with
 | v _ hx => exact .v _ hx
 | lst o xs a cap b off sz g h1 h2 h3 h4 h5 h6 h7 h8 => exact .lst .sh xs a cap b off sz g h1 (by simp) (by simp) (by simp) h5 h6 h7 h8
 | agg cs arr h1 h2 h3 => exact .agg cs arr h1 h2 h3
 | tup vs arr h1 h2 h3 => exact .tup vs arr h1 h2 h3
 | junk v => exact .junk v
theorem Z9v (x : PV) : Z1Y (nrmP x) = true := by
 unfold Go.Abs.nrmP
 split
 ·rfl
 ·rename_i hx
  unfold Z1Y
  split
  ·exact absurd rfl (hx _ _)
  ·rfl
theorem Z6T (x : PV) : Z2M (nrmP x) = Z2M x := by
 unfold Go.Abs.nrmP
 split <;> rfl
theorem Zdk {x : PV} (h : Z1Q x = true) : Z1Q (nrmP x) = true := by
 unfold Z1Q at *
 rw [Z6T, Z9v]
 simp at h ⊢
 exact h.1
theorem PRel.aggNrm {w : World} {S : Stay} {cs : List PV} {v : Value} (h : PRel w S (.agg cs) v) : PRel w S (.agg (cs.map Go.Abs.nrmP)) v := by
 cases h with
 | agg _ arr h1 h2 h3 =>
  refine .agg _ arr (by simpa using h1) ?_ ?_
  ·intro c hc
   obtain ⟨d, hd, rfl⟩ := Z1B.1 hc
   exact Zdk (h2 d hd)
  ·intro i c u hc hu
   rw [q6_] at hc
   obtain ⟨d, hd, rfl⟩ := q4_.1 hc
   exact (h3 i d u hd hu).nrmP
theorem PRel.nrm {w : World} {S : Stay} {x : PV} {v : Value} (h : PRel w S x v) : PRel w S (nrm x) v := by
 cases x with
 | v x => exact h
 | lst o xs => exact h.nrmP
 | agg cs => exact h.aggNrm
 | tup vs =>
  cases h with
  | tup _ arr h1 h2 h3 =>
   refine .tup _ arr (by simpa using h1) ?_ ?_
   ·intro c hc
    obtain ⟨d, hd, rfl⟩ := Z1B.1 hc
    have := h2 d hd
    cases d <;> first | rfl | exact this
   ·intro i c u hc hu
    rw [q6_] at hc
    obtain ⟨d, hd, rfl⟩ := q4_.1 hc
    have := h3 i d u hd hu
    cases d with
    | lst o xs => exact this.nrmP
    | agg cs => exact this.aggNrm
    | _ => exact this
 | junk => exact .junk v
theorem Z45 (x : PV) : Z1Y (nrm x) = true := by cases x <;> rfl
theorem Zdn {α : Type} (P : Program) (s : Sem α) (a : α) (h : Z1W P s = some a) (w : World) : s.run P w = .ok a w := by
 induction s with
 | pure x => simp [Z1W] at h; simp [Sem.run, h]
 | program k ih => simp only [Z1W] at h; simp only [Sem.run]; exact ih P h
 | _ => simp [Z1W] at h
theorem Z9x {w : World} {S : Stay} {x : Value} {p : PV} (h : Z46 x = some p) : PRel w S p x := by
 unfold Z46 at h
 split at h
 ·simp only [ZO] at h
  subst h
  exact .lst .nl [] none 0 0 0 0 (fun _ _ => undef) (Z1y _) (fun _ => ⟨rfl, rfl⟩) (by simp) (by simp) (fun _ => rfl) (by simp) (by simp) (by simp)
 ·split at h
  ·simp only [ZO] at h
   subst h
   exact .v _ ‹_›
  ·simp at h
theorem Zh2 {x : Value} {p : PV} (h : Z46 x = some p) : Z1Q p = true := by
 unfold Z46 at h
 split at h
 ·simp only [ZO] at h; subst h; rfl
 ·split at h
  ·simp only [ZO] at h; subst h; rfl
  ·simp at h
theorem Z7T {w : World} {S : Stay} : ∀ {l : List Value} {ps : List PV}, Z5v l = some ps →
  l.length = ps.length ∧ (∀ c, c ∈ ps → Z1Q c = true) ∧ ∀ (i : Nat) (c : PV) (v : Value), ps[i]? = some c → l[i]? = some v → PRel w S c v
 | [], ps, h => by simp [Z5v] at h; subst h; simp
 | x :: r, ps, h => by
  simp only [Z5v] at h
  split at h
  ·rename_i a b ha hb
   simp only [ZO] at h
   subst h
   obtain ⟨h1, h2, h3⟩ := Z7T (w := w) (S := S) hb
   refine ⟨by simp [h1], ?_, ?_⟩
   ·intro c hc
    rcases Z1K.1 hc with rfl | hc
    ·exact Zh2 ha
    ·exact h2 c hc
   ·intro i c v hc hv
    cases i with
    | zero => simp at hc hv; subst hc; subst hv; exact Z9x ha
    | succ i => exact h3 i c v (by simpa using hc) (by simpa using hv)
  ·simp at h
theorem Z2i {w : World} {S : Stay} {β : Nat → Nat} {n : Nat} {x : Value} {a : AV} (h : Z2f x = some a) : ARel w S β n a x := by
 unfold Z2f at h
 split at h
 ·rename_i cs
  obtain ⟨l, hl, rfl⟩ := q4_.1 h
  obtain ⟨h1, h2, h3⟩ := Z7T (w := w) (S := S) hl
  exact .p _ _ (.agg l cs (by simpa using h1) h2 fun i c v hc hv => h3 i c v hc (by simpa using hv))
 ·obtain ⟨p, hp, rfl⟩ := q4_.1 h
  exact .p _ _ (Z9x hp)
theorem Z9J {w : World} {S : Stay} {p : PV} {x v : Value} (h : Z48 p = some x) (hr : PRel w S p v) : v = x := by
 cases hr with
 | v y hy => simpa [Z48] using h
 | lst o xs a cap b off sz g h1 h2 h3 h4 h5 h6 h7 h8 =>
  cases o <;> cases xs <;> simp [Z48] at h
  obtain ⟨rfl, rfl⟩ := h2 rfl
  exact h
 | agg => simp [Z48] at h
 | tup => simp [Z48] at h
 | junk => simp [Z48] at h
theorem Z7W {w : World} {S : Stay} : ∀ {ps : List PV} {l : List Value}, Z5A ps = some l → ∀ (us : List Value), us.length = ps.length →
  (∀ (i : Nat) (c : PV) (v : Value), ps[i]? = some c → us[i]? = some v → PRel w S c v) → us = l
 | [], l, h, us, hl, _ => by
  simp [Z5A] at h
  subst h
  simpa using hl
 | p :: r, l, h, us, hl, hr => by
  simp only [Z5A] at h
  split at h
  ·rename_i a b ha hb
   simp only [ZO] at h
   subst h
   match us, hl with
   | u :: us, hl =>
    have e1 := Z9J ha (hr 0 p u rfl rfl)
    have e2 := Z7W hb us (by simpa using hl) fun i c v hc hv => hr (i + 1) c v (by simpa using hc) (by simpa using hv)
    rw [e1, e2]
  ·simp at h
theorem Z49 {w : World} {S : Stay} {β : Nat → Nat} {n : Nat} {a : AV} {x v : Value} (h : Z4N a = some x) (hr : ARel w S β n a v) : v = x := by
 cases hr with
 | p p v hp =>
  unfold Z4N at h
  split at h
  ·rename_i cs heq
   cases heq
   obtain ⟨l, hl, rfl⟩ := q4_.1 h
   cases hp with
   | agg _ arr h1 h2 h3 =>
    have := Z7W (w := w) (S := S) hl arr.toList (by simpa using h1) fun i c v hc hv => h3 i c v hc (by simpa using hv)
    rw [← this]
  ·rename_i q heq
   cases heq
   exact Z9J h hp
  ·simp at h
 | _ => simp [Z4N] at h
theorem ZH {α β : Type} {x : Option α} {k : α → Option β} {r : β} (h : ob x k = some r) : ∃ a, x = some a ∧ k a = some r := by
 cases x with
 | none => simp [ob, hi] at h
 | some a => exact ⟨a, rfl, h⟩
theorem Z7X {β : Type} {x : AV} {k : Bool → Option β} {r : β} (h : asB x k = some r) : ∃ b, x = .p (.v (.bool b)) ∧ k b = some r := by
 unfold asB hi at h
 split at h
 ·exact ⟨_, rfl, h⟩
 ·simp at h
theorem Z4l {β : Type} {x : AV} {k : Int → Option β} {r : β} (h : asInt x k = some r) : ∃ i n, x = .p (.v (.int i n)) ∧ k n = some r := by
 unfold asInt at h
 split at h
 ·exact ⟨_, _, rfl, h⟩
 ·simp at h
theorem Z1z {w : World} {S : Stay} {β : Nat → Nat} {n : Nat} {x v : Value} (hr : ARel w S β n (.p (.v x)) v) : v = x := by
 cases hr with
 | p _ _ h => cases h with
  | v _ _ => rfl
def Z1g : Value → Option Nat
 | .slice (some a) _ _ => some a.block
 | _ => none
def isUn : AV → Bool
 | .p (.lst .un _) => true
 | _ => false
theorem Z5s {x : AV} (h : isUn x = true) : ∃ xs, x = .p (.lst .un xs) := by
 unfold isUn at h
 split at h
 ·exact ⟨_, rfl⟩
 ·simp at h
def UnOk (w : World) (S : Stay) (x : AV) (v : Value) : Prop :=
 ∃ xs b off len cap cs ty sz, x = .p (.lst .un xs) ∧ v = .slice (some ⟨b, off, none⟩) len cap ∧ w.heap[b]? = some (.cells cs ty (0, 0)) ∧ 0 < sz ∧ off + cap * sz ≤ cs.size ∧ len ≤ cap ∧
  0 < len ∧ (∀ o, off + len * sz ≤ o → ¬ S b o) ∧ ∀ e, e ∈ xs → (Z16 e).length = sz
inductive Loc where
 | slot (t : Nat)
 | box (id j : Nat)
 deriving DecidableEq
def Here (nt : Nat) (sl : Sl) (tm : Array Value) (B : List Row) (β : Nat → Nat) (w : World) : Loc → AV → Value → Prop
 | .slot t, x, v => t < nt ∧ x = get sl t ∧ v = tm.getD t undef
 | .box id j, x, v => ∃ row, B[id]? = some row ∧ row[j]? = some x ∧ w.cell? ⟨β id, j, none⟩ = some v
def Z2E (w : World) (S : Stay) (b : Nat) (es : List (Int × PV)) : Prop :=
 ∃ ents clock, w.heap[b]? = some (.map ents clock) ∧ ents.size = es.length ∧ (∀ (i : Nat) (e : MapEntry) (x : Int × PV), ents[i]? = some e → es[i]? = some x → e.key = .int .i64 x.1 ∧ PRel w S x.2 e.val ∧ Z1Y x.2 = true) ∧
  (∀ (i : Nat) (e : MapEntry), ents[i]? = some e → e.born < clock) ∧ (∀ (i j : Nat) (e e' : MapEntry), ents[i]? = some e → ents[j]? = some e' → e.born = e'.born → i = j) ∧ (es.map (·.1)).Nodup
theorem Z2E.keeps {w w' : World} {S S' : Stay} {b : Nat} {es : List (Int × PV)} (hk : Keeps w S w' S') (hb : w'.heap[b]? = w.heap[b]?) (h : Z2E w S b es) : Z2E w' S' b es := by
 obtain ⟨ents, clock, h1, h2, h3, h4, h5, h6⟩ := h
 exact ⟨ents, clock, hb.trans h1, h2, fun i e x he hx => ⟨(h3 i e x he hx).1, (h3 i e x he hx).2.1.keeps hk, (h3 i e x he hx).2.2⟩, h4, h5, h6⟩
theorem Z5u {r : Row} {es : List (Int × PV)} (h : mdOf r = some es) : r = [.md es] := by
 unfold mdOf at h
 split at h
 ·simp only [ZO] at h
  rw [h]
 ·simp at h
structure Mem (w : World) (S : Stay) (β : Nat → Nat) (B : List Row) : Prop where
 row : ∀ id r, B[id]? = some r → mdOf r = none → ∃ cs ty, w.heap[β id]? = some (.cells cs ty (0, 0)) ∧ cs.size = r.length
 cell : ∀ id r j x, B[id]? = some r → mdOf r = none → r[j]? = some x → ∃ v, w.cell? ⟨β id, j, none⟩ = some v ∧ ARel w S β B.length x v ∧ Z1k x = true
 inj : ∀ i j, i < B.length → j < B.length → β i = β j → i = j
 apart : ∀ i, i < B.length → ∀ o, ¬ S (β i) o
 stay : ∀ b o, S b o → b < w.heap.size
 maps : ∀ id r es, B[id]? = some r → mdOf r = some es → Z2E w S (β id) es
structure Uns (w : World) (S : Stay) (β : Nat → Nat) (n : Nat) (L : Loc → AV → Value → Prop) : Prop where
 ok : ∀ l x v, L l x v → isUn x = true → UnOk w S x v ∧ ∀ i, i < n → Z1g v ≠ some (β i)
 inj : ∀ l l' x x' v v', L l x v → L l' x' v' → isUn x = true → isUn x' = true → Z1g v = Z1g v' → l = l'
structure Good (nt : Nat) (w : World) (S : Stay) (β : Nat → Nat) (sl : Sl) (B : List Row) (a : Act) : Prop where
 size : a.tmps.size = nt
 defers : a.defers = []
 slots : ∀ t, t < nt → ARel w S β B.length (get sl t) (a.tmps.getD t undef)
 high : ∀ t, nt ≤ t → get sl t = jk
 mem : Mem w S β B
 uns : Uns w S β B.length (Here nt sl a.tmps B β w)
def UB (L : Loc → AV → Value → Prop) (b : Nat) : Prop := ∃ l x v, L l x v ∧ isUn x = true ∧ Z1g v = some b
structure Step (m0 : Nat) (w : World) (S : Stay) (β : Nat → Nat) (n : Nat) (U : Nat → Prop) (w' : World) (S' : Stay) (β' : Nat → Nat) (n' : Nat) (U' : Nat → Prop) : Prop where
 keeps : Keeps w S w' S'
 size : w.heap.size ≤ w'.heap.size
 os : w'.os = w.os
 tape : w'.tape = w.tape
 output : w'.output = w.output
 low : m0 ≤ n → m0 ≤ n' ∧ ∀ i, i < m0 → β' i = β i
 boxes : ∀ i, i < n' → (∃ j, j < n ∧ β' i = β j ∧ (j < m0 → i < m0)) ∨ w.heap.size ≤ β' i
 uns : ∀ b, U' b → U b ∨ w.heap.size ≤ b
 grown : ∀ b o, S' b o → S b o ∨ w.heap.size ≤ b ∨ U b
 block : ∀ b, b < w.heap.size → (∀ i, i < n → b ≠ β i) → ¬ U b → w'.heap[b]? = w.heap[b]?
theorem Step.refl (m0 : Nat) (w : World) (S : Stay) (β : Nat → Nat) (n : Nat) (U : Nat → Prop) : Step m0 w S β n U w S β n U :=
 ⟨.refl _ _, Z1y _, rfl, rfl, rfl, fun h => ⟨h, fun _ _ => rfl⟩, fun i h => .inl ⟨i, h, rfl, id⟩, fun _ h => .inl h, fun _ _ h => .inl h, fun _ _ _ _ => rfl⟩
theorem Step.trans {m0 : Nat} {w w1 w2 : World} {S S1 S2 : Stay} {β β1 β2 : Nat → Nat} {n n1 n2 : Nat} {U U1 U2 : Nat → Prop} (h : Step m0 w S β n U w1 S1 β1 n1 U1)
  (k : Step m0 w1 S1 β1 n1 U1 w2 S2 β2 n2 U2) : Step m0 w S β n U w2 S2 β2 n2 U2 := by
 refine ⟨h.keeps.trans k.keeps, Z8b h.size k.size, k.os.trans h.os, k.tape.trans h.tape, k.output.trans h.output, ?_, ?_, ?_, ?_, ?_⟩
 ·intro hm
  obtain ⟨a, ha⟩ := h.low hm
  obtain ⟨b, hb⟩ := k.low a
  exact ⟨b, fun i hi => (hb i hi).trans (ha i hi)⟩
 ·intro i hi
  rcases k.boxes i hi with ⟨j, hj, e, hl⟩ | hn
  ·rcases h.boxes j hj with ⟨p, hp, e', hl'⟩ | hn
   ·exact .inl ⟨p, hp, e.trans e', fun q => hl (hl' q)⟩
   ·exact .inr (e ▸ hn)
  ·exact .inr (Z8b h.size hn)
 ·intro b hb
  rcases k.uns b hb with hb | hb
  ·exact h.uns b hb
  ·exact .inr (Z8b h.size hb)
 ·intro b o hs
  rcases k.grown b o hs with hs | hs | hs
  ·exact h.grown b o hs
  ·exact .inr (.inl (Z8b h.size hs))
  ·rcases h.uns b hs with hs | hs
   ·exact .inr (.inr hs)
   ·exact .inr (.inl hs)
 ·intro b hb1 hb2 hb3
  rw [k.block b (Z4T hb1 h.size) ?_ ?_]
  ·exact h.block b hb1 hb2 hb3
  ·intro i hi he
   rcases h.boxes i hi with ⟨j, hj, e, _⟩ | hn
   ·exact hb2 j hj (he.trans e)
   ·exact Nat.lt_irrefl _ (Z4T hb1 (he ▸ hn))
  ·intro hu1
   rcases h.uns b hu1 with hu1 | hu1
   ·exact hb3 hu1
   ·exact Nat.lt_irrefl _ (Z4T hb1 hu1)
theorem Z10 (i : Nat) (x : AV) (sl : Sl) (t : Nat) : get ((i, x) :: sl) t = if i = t then x else get sl t := by
 rw [get]
 by_cases h : i = t
 ·subst h; simp
 ·have : Nat.beq i t = false := by
   cases hb : Nat.beq i t with
   | false => rfl
   | true => exact absurd (Nat.eq_of_beq_eq_true hb) h
  simp [this, h]
theorem Z3q {tm : Array Value} {d t : Nat} {v : Value} (hd : d < tm.size) : (tm.setIfInBounds d v).getD t undef = if d = t then v else tm.getD t undef := by
 simp only [Zcl, Zif]
 by_cases h : d = t
 ·subst h; simp [hd]
 ·simp [h]
theorem Good.reslot {nt : Nat} {w : World} {S : Stay} {β : Nat → Nat} {sl sl' : Sl} {B : List Row} {a : Act} (h : Good nt w S β sl B a)
  (hr : ∀ t, t < nt → get sl' t = get sl t ∨ (ARel w S β B.length (get sl' t) (a.tmps.getD t undef) ∧ isUn (get sl' t) = false))
  (hh : ∀ t, nt ≤ t → get sl' t = jk) : Good nt w S β sl' B a := by
 have back : ∀ l x v, Here nt sl' a.tmps B β w l x v → isUn x = true → Here nt sl a.tmps B β w l x v := by
  intro l x v hl hu
  cases l with
  | slot t =>
   obtain ⟨ht, rfl, rfl⟩ := hl
   rcases hr t ht with e | ⟨_, e⟩
   ·exact ⟨ht, e, rfl⟩
   ·rw [e] at hu; simp at hu
  | box id j => exact hl
 refine ⟨h.size, h.defers, ?_, hh, h.mem, ?_, ?_⟩
 ·intro t ht
  rcases hr t ht with e | ⟨e, _⟩
  ·rw [e]; exact h.slots t ht
  ·exact e
 ·intro l x v hl hu
  exact h.uns.ok l x v (back l x v hl hu) hu
 ·intro l l' x x' v v' hl hl' hu hu' hb
  exact h.uns.inj l l' x x' v v' (back l x v hl hu) (back l' x' v' hl' hu') hu hu' hb
theorem Good.put {nt : Nat} {w : World} {S : Stay} {β : Nat → Nat} {sl : Sl} {B : List Row} {a : Act} (h : Good nt w S β sl B a) {d : Option Tmp} (hd : ∀ t, d = some t → t < nt)
  {x : AV} {v : Value} (hx : ARel w S β B.length x v) (hu : isUn x = false) : Good nt w S β (Go.Abs.put sl d x) B (a.put d v) := by
 cases d with
 | none => exact h
 | some d =>
  have hdn := hd d rfl
  have hds : d < a.tmps.size := by rw [h.size]; exact hdn
  have back : ∀ l y u, Here nt ((d, x) :: sl) (a.tmps.setIfInBounds d v) B β w l y u → isUn y = true → Here nt sl a.tmps B β w l y u := by
   intro l y u hl hy
   cases l with
   | slot t =>
    obtain ⟨ht, rfl, rfl⟩ := hl
    rw [Z10] at hy ⊢
    rw [Z3q hds]
    by_cases e : d = t
    ·rw [if_pos e] at hy; rw [hu] at hy; simp at hy
    ·rw [if_neg e, if_neg e]; exact ⟨ht, rfl, rfl⟩
   | box id j => exact hl
  have hh : ∀ t, nt ≤ t → get ((d, x) :: sl) t = jk := by
   intro t ht
   have e : d ≠ t := by rintro rfl; exact absurd hdn (Nat.not_lt.2 ht)
   rw [Z10, if_neg e]
   exact h.high t ht
  refine ⟨by simp [Act.put, h.size], h.defers, ?_, hh, h.mem, ?_, ?_⟩
  ·intro t ht
   show ARel w S β B.length (get ((d, x) :: sl) t) ((a.tmps.setIfInBounds d v).getD t undef)
   rw [Z10, Z3q hds]
   by_cases e : d = t
   ·rw [if_pos e, if_pos e]; exact hx
   ·rw [if_neg e, if_neg e]; exact h.slots t ht
  ·intro l y u hl hy
   exact h.uns.ok l y u (back l y u hl hy) hy
  ·intro l l' y y' u u' hl hl' hy hy' hb
   exact h.uns.inj l l' y y' u u' (back l y u hl hy) (back l' y' u' hl' hy') hy hy' hb
theorem Z1w (x : AV) : isUn (shr x) = false := by
 cases x with
 | p x => cases x with
  | lst o xs => cases o <;> rfl
  | _ => rfl
 | _ => rfl
theorem ARel.shr {w : World} {S : Stay} {β : Nat → Nat} {n : Nat} {x : AV} {v : Value} (h : ARel w S β n x v) : ARel w S β n (shr x) v := by
 unfold Go.Abs.shr
 split
 ·cases h with
  | p _ _ hp => exact .p _ _ hp.shrP
 ·rename_i vs
  cases h with
  | p _ _ hp =>
   cases hp with
   | tup _ arr h1 h2 h3 =>
    refine .p _ _ (.tup _ arr (by simpa using h1) ?_ ?_)
    ·intro c hc
     obtain ⟨d, hd, rfl⟩ := Z1B.1 hc
     exact Z9w d
    ·intro i c u hc hu
     rw [q6_] at hc
     obtain ⟨d, hd, rfl⟩ := q4_.1 hc
     exact (h3 i d u hd hu).shrP
 ·rename_i vs
  cases h with
  | tup _ arr h1 h2 h3 =>
   refine .tup _ arr (by simpa using h1) ?_ ?_
   ·intro c hc xs
    obtain ⟨d, hd, rfl⟩ := Z1B.1 hc
    cases d with
    | p x =>
     intro e
     simp only [AV.p.injEq] at e
     have := Z9w x
     rw [e] at this
     simp [Z1Y] at this
    | _ => simp
   ·intro i c u hc hu
    rw [q6_] at hc
    obtain ⟨d, hd, rfl⟩ := q4_.1 hc
    have := h3 i d u hd hu
    cases d with
    | p x => cases this with
     | p _ _ hp => exact .p _ _ hp.shrP
    | _ => exact this
 ·exact h
theorem Good.weak {nt : Nat} {w : World} {S : Stay} {β : Nat → Nat} {sl : Sl} {B : List Row} {a : Act} (h : Good nt w S β sl B a) (x : Operand) : Good nt w S β (weak sl x) B a := by
 cases x with
 | tmp t =>
  have hh : ∀ u, nt ≤ u → get ((t, shr (get sl t)) :: sl) u = jk := by
   intro u hu
   rw [Z10]
   by_cases e : t = u
   ·subst e; rw [if_pos rfl, h.high t hu]; rfl
   ·rw [if_neg e]; exact h.high u hu
  refine h.reslot (fun u hu => ?_) hh
  show get ((t, shr (get sl t)) :: sl) u = get sl u ∨ _
  by_cases e : t = u
  ·subst e
   right
   show ARel w S β B.length (get ((t, shr (get sl t)) :: sl) t) _ ∧ isUn (get ((t, shr (get sl t)) :: sl) t) = false
   rw [Z10, if_pos rfl]
   exact ⟨(h.slots t hu).shr, Z1w _⟩
  ·left; rw [Z10, if_neg e]
 | _ => exact h
theorem Good.weakL {nt : Nat} {w : World} {S : Stay} {β : Nat → Nat} {B : List Row} {a : Act} : ∀ (l : List Operand) {sl : Sl}, Good nt w S β sl B a → Good nt w S β (weakL sl l) B a
 | [], _, h => h
 | x :: r, _, h => Good.weakL r (h.weak x)
theorem Good.ev {nt : Nat} {w : World} {S : Stay} {β : Nat → Nat} {sl : Sl} {B : List Row} {a : Act} (h : Good nt w S β sl B a) (x : Operand) : ARel w S β B.length (ev sl x) (a.eval x) := by
 unfold Go.Abs.ev
 split
 ·rename_i t
  show ARel w S β B.length (get sl t) (a.tmps.getD t undef)
  by_cases ht : t < nt
  ·exact h.slots t ht
  ·rw [h.high t (Nat.not_lt.1 ht)]; exact ARel.junk _
 ·exact .p _ _ (.lst .nl [] none 0 0 0 0 (fun _ _ => undef) (Z1y _) (fun _ => ⟨rfl, rfl⟩) (by simp) (by simp) (fun _ => rfl) (by simp) (by simp) (by simp))
 ·split
  ·exact .p _ _ (.v _ ‹_›)
  ·exact ARel.junk _
 ·exact .clo _ [] [] #[] #[] rfl rfl (by simp) (by simp) (by simp)
 ·exact ARel.junk _
def Leaves (nt m0 : Nat) (o : Oper) (w : World) (S : Stay) (β : Nat → Nat) (sl : Sl) (B : List Row) (a : Act) (K : AV → Sl → List Row → Option Res) (r : Res) (a' : Act) (w' : World) : Prop :=
 ∃ x sl' B' S' β', K x sl' B' = some r ∧ Good nt w' S' β' (put sl' o.dst x) B' a' ∧
  Step m0 w S β B.length (UB (Here nt sl a.tmps B β w)) w' S' β' B'.length (UB (Here nt (put sl' o.dst x) a'.tmps B' β' w'))
theorem UB.reslot {nt : Nat} {w : World} {β : Nat → Nat} {sl sl' : Sl} {B : List Row} {tm : Array Value}
  (hr : ∀ t, t < nt → get sl' t = get sl t ∨ isUn (get sl' t) = false) (b : Nat) (h : UB (Here nt sl' tm B β w) b) : UB (Here nt sl tm B β w) b := by
 obtain ⟨l, x, v, hl, hu, hb⟩ := h
 refine ⟨l, x, v, ?_, hu, hb⟩
 cases l with
 | slot t =>
  obtain ⟨ht, rfl, rfl⟩ := hl
  rcases hr t ht with e | e
  ·exact ⟨ht, e, rfl⟩
  ·rw [e] at hu; simp at hu
 | box id j => exact hl
theorem UB.put {nt : Nat} {w : World} {β : Nat → Nat} {sl : Sl} {B : List Row} {a : Act} (hs : a.tmps.size = nt) {d : Option Tmp} (hd : ∀ t, d = some t → t < nt) {x : AV} {v : Value} (hu : isUn x = false)
  (b : Nat) (h : UB (Here nt (Go.Abs.put sl d x) (a.put d v).tmps B β w) b) : UB (Here nt sl a.tmps B β w) b := by
 cases d with
 | none => exact h
 | some d =>
  obtain ⟨l, y, u, hl, hy, hb⟩ := h
  refine ⟨l, y, u, ?_, hy, hb⟩
  have hds : d < a.tmps.size := by rw [hs]; exact hd d rfl
  cases l with
  | slot t =>
   obtain ⟨ht, rfl, rfl⟩ := hl
   change isUn (get ((d, x) :: sl) t) = true at hy
   change Here nt sl a.tmps B β w (.slot t) (get ((d, x) :: sl) t) ((a.tmps.setIfInBounds d v).getD t undef)
   rw [Z10] at hy ⊢
   rw [Z3q hds]
   by_cases e : d = t
   ·rw [if_pos e] at hy; rw [hu] at hy; simp at hy
   ·rw [if_neg e, if_neg e]; exact ⟨ht, rfl, rfl⟩
  | box id j => exact hl
theorem Z1r {nt m0 : Nat} {o : Oper} {w : World} {S : Stay} {β : Nat → Nat} {sl : Sl} {B : List Row} {a : Act} {K : AV → Sl → List Row → Option Res} {r : Res}
  (h : Good nt w S β sl B a) (hd : ∀ t, o.dst = some t → t < nt) {x : AV} {v : Value} (hx : ARel w S β B.length x v) (hu : isUn x = false) (hk : K x sl B = some r) :
  Leaves nt m0 o w S β sl B a K r (a.put o.dst v) w :=
 ⟨x, sl, B, S, β, hk, h.put hd hx hu, { Step.refl m0 w S β B.length (UB (Here nt sl a.tmps B β w)) with uns := fun b hb => .inl (UB.put h.size hd hu b hb) }⟩
theorem Good.putUn {nt : Nat} {w : World} {S : Stay} {β : Nat → Nat} {sl : Sl} {B : List Row} {a : Act} (h : Good nt w S β sl B a) {d : Tmp} (hd : d < nt)
  {x : AV} {v : Value} (hx : ARel w S β B.length x v) (hok : isUn x = true → UnOk w S x v ∧ ∀ i, i < B.length → Z1g v ≠ some (β i))
  (hal : ∀ l y u, Here nt sl a.tmps B β w l y u → isUn y = true → isUn x = true → Z1g u ≠ Z1g v) :
  Good nt w S β ((d, x) :: sl) B (a.put (some d) v) := by
 have hds : d < a.tmps.size := by rw [h.size]; exact hd
 have back : ∀ l y u, Here nt ((d, x) :: sl) (a.tmps.setIfInBounds d v) B β w l y u → isUn y = true → (l = .slot d ∧ y = x ∧ u = v) ∨ Here nt sl a.tmps B β w l y u := by
  intro l y u hl hy
  cases l with
  | slot t =>
   obtain ⟨ht, rfl, rfl⟩ := hl
   rw [Z10] at hy ⊢
   rw [Z3q hds]
   by_cases e : d = t
   ·subst e; left; simp
   ·right; rw [if_neg e, if_neg e]; exact ⟨ht, rfl, rfl⟩
  | box id j => exact .inr hl
 have hh : ∀ t, nt ≤ t → get ((d, x) :: sl) t = jk := by
  intro t ht
  have e : d ≠ t := by rintro rfl; exact absurd hd (Nat.not_lt.2 ht)
  rw [Z10, if_neg e]
  exact h.high t ht
 refine ⟨by simp [Act.put, h.size], h.defers, ?_, hh, h.mem, ?_, ?_⟩
 ·intro t ht
  show ARel w S β B.length (get ((d, x) :: sl) t) ((a.tmps.setIfInBounds d v).getD t undef)
  rw [Z10, Z3q hds]
  by_cases e : d = t
  ·rw [if_pos e, if_pos e]; exact hx
  ·rw [if_neg e, if_neg e]; exact h.slots t ht
 ·intro l y u hl hy
  rcases back l y u hl hy with ⟨_, rfl, rfl⟩ | hb
  ·exact hok hy
  ·exact h.uns.ok l y u hb hy
 ·intro l l' y y' u u' hl hl' hy hy' hb
  rcases back l y u hl hy with ⟨rfl, rfl, rfl⟩ | h1 <;> rcases back l' y' u' hl' hy' with ⟨rfl, rfl, rfl⟩ | h2
  ·rfl
  ·exact absurd hb.symm (hal l' y' u' h2 hy' hy)
  ·exact absurd hb (hal l y u h1 hy hy')
  ·exact h.uns.inj l l' y y' u u' h1 h2 hy hy' hb
theorem UB.putUn {nt : Nat} {w : World} {β : Nat → Nat} {sl : Sl} {B : List Row} {a : Act} (hs : a.tmps.size = nt) {d : Tmp} (hd : d < nt) {x : AV} {v : Value}
  (b : Nat) (h : UB (Here nt ((d, x) :: sl) (a.put (some d) v).tmps B β w) b) : UB (Here nt sl a.tmps B β w) b ∨ (isUn x = true ∧ Z1g v = some b) := by
 obtain ⟨l, y, u, hl, hy, hb⟩ := h
 have hds : d < a.tmps.size := by rw [hs]; exact hd
 cases l with
 | slot t =>
  obtain ⟨ht, rfl, rfl⟩ := hl
  change Z1g ((a.tmps.setIfInBounds d v).getD t undef) = some b at hb
  rw [Z10] at hy
  rw [Z3q hds] at hb
  by_cases e : d = t
  ·rw [if_pos e] at hy hb; exact .inr ⟨hy, hb⟩
  ·rw [if_neg e] at hy hb; exact .inl ⟨.slot t, _, _, ⟨ht, rfl, rfl⟩, hy, hb⟩
 | box id j => exact .inl ⟨.box id j, y, u, hl, hy, hb⟩
theorem Z9p (sl : Sl) (v : Value) : isUn (ev sl (.const v)) = false := by
 unfold ev
 split
 ·rename_i h; cases h
 ·rfl
 ·split <;> rfl
 ·rfl
 ·rfl
theorem Z9t {nt m0 : Nat} {o : Oper} {w : World} {S : Stay} {β : Nat → Nat} {sl : Sl} {B : List Row} {a : Act} {K : AV → Sl → List Row → Option Res} {r : Res}
  (h : Good nt w S β sl B a) (hd : ∀ t, o.dst = some t → t < nt) (x : Operand) (hk : K (ev sl x) (weak sl x) B = some r) :
  Leaves nt m0 o w S β sl B a K r (a.put o.dst (a.eval x)) w := by
 have hw := h.weak x
 have hev := h.ev x
 by_cases hu : isUn (ev sl x) = false
 ·refine ⟨ev sl x, weak sl x, B, S, β, hk, hw.put hd hev hu, { Step.refl m0 w S β B.length (UB (Here nt sl a.tmps B β w)) with uns := fun b hb => .inl ?_ }⟩
  refine UB.reslot (sl := sl) (sl' := weak sl x) ?_ b (UB.put h.size hd hu b hb)
  intro t _
  cases x with
  | tmp u =>
   show get ((u, shr (get sl u)) :: sl) t = _ ∨ isUn (get ((u, shr (get sl u)) :: sl) t) = false
   rw [Z10]
   by_cases e : u = t
   ·rw [if_pos e]; exact .inr (Z1w _)
   ·rw [if_neg e]; exact .inl rfl
  | _ => exact .inl rfl
 ·have hu : isUn (ev sl x) = true := by simpa using hu
  obtain ⟨t, rfl⟩ : ∃ t, x = .tmp t := by
   cases x with
   | tmp t => exact ⟨t, rfl⟩
   | const v => rw [Z9p] at hu; simp at hu
   | global g => simp [ev, isUn, jk] at hu
   | func f => simp [ev, isUn] at hu
  have htn : t < nt := by
   rcases Z22 t nt with h1 | h1
   ·exact h1
   ·have := h.high t h1
    change isUn (get sl t) = true at hu
    rw [this] at hu; simp [isUn, jk] at hu
  have here : Here nt sl a.tmps B β w (.slot t) (get sl t) (a.tmps.getD t undef) := ⟨htn, rfl, rfl⟩
  have hal : ∀ l y u, Here nt (weak sl (.tmp t)) a.tmps B β w l y u → isUn y = true → isUn (ev sl (.tmp t)) = true → Z1g u ≠ Z1g (a.eval (.tmp t)) := by
   intro l y u hl hy _ hb
   have hold : Here nt sl a.tmps B β w l y u ∧ l ≠ .slot t := by
    cases l with
    | slot q =>
     obtain ⟨hq, rfl, rfl⟩ := hl
     change isUn (get ((t, shr (get sl t)) :: sl) q) = true at hy
     change Here nt sl a.tmps B β w (.slot q) (get ((t, shr (get sl t)) :: sl) q) _ ∧ _
     rw [Z10] at hy ⊢
     by_cases e : t = q
     ·rw [if_pos e, Z1w] at hy; simp at hy
     ·rw [if_neg e]; exact ⟨⟨hq, rfl, rfl⟩, fun h => e (by cases h; rfl)⟩
    | box id j => exact ⟨hl, by simp⟩
   exact hold.2 (h.uns.inj l (.slot t) y (get sl t) u _ hold.1 here hy hu hb)
  cases hdd : o.dst with
  | none =>
   refine ⟨ev sl (.tmp t), weak sl (.tmp t), B, S, β, hk, ?_, ?_⟩
   ·rw [hdd]; exact hw
   ·rw [hdd]
    refine { Step.refl m0 w S β B.length (UB (Here nt sl a.tmps B β w)) with uns := fun b hb => .inl ?_ }
    refine UB.reslot (sl := sl) (sl' := weak sl (.tmp t)) ?_ b hb
    intro q _
    show get ((t, shr (get sl t)) :: sl) q = _ ∨ isUn (get ((t, shr (get sl t)) :: sl) q) = false
    rw [Z10]
    by_cases e : t = q
    ·rw [if_pos e]; exact .inr (Z1w _)
    ·rw [if_neg e]; exact .inl rfl
  | some d =>
   refine ⟨ev sl (.tmp t), weak sl (.tmp t), B, S, β, hk, ?_, ?_⟩
   ·rw [hdd]; exact hw.putUn (hd d hdd) hev (fun _ => h.uns.ok (.slot t) _ _ here hu) hal
   ·rw [hdd]
    refine { Step.refl m0 w S β B.length (UB (Here nt sl a.tmps B β w)) with uns := fun b hb => .inl ?_ }
    rcases UB.putUn h.size (hd d hdd) b hb with hb | ⟨_, hb⟩
    ·refine UB.reslot (sl := sl) (sl' := weak sl (.tmp t)) ?_ b hb
     intro q _
     show get ((t, shr (get sl t)) :: sl) q = _ ∨ isUn (get ((t, shr (get sl t)) :: sl) q) = false
     rw [Z10]
     by_cases e : t = q
     ·rw [if_pos e]; exact .inr (Z1w _)
     ·rw [if_neg e]; exact .inl rfl
    ·exact ⟨.slot t, _, _, here, hu, hb⟩
end Go.Abs
end
section
namespace Go.Abs
open Go
theorem Z9D {α β : Type} (P : Program) (s : Sem α) (f : α → Sem β) {a : α} {b : β} (h : Z1W P s = some a) (h' : Z1W P (f a) = some b) : Z1W P (s.bind f) = some b := by
 induction s with
 | pure x => simp only [Z1W, ZO] at h; subst h; exact h'
 | program k ih => exact ih P h
 | _ => simp [Z1W] at h
theorem Zhn (P : Program) (s : Sem Value) {v : Value} (h : Z1W P s = some v) (w : World) :
  (s.bind fun x => (Sem.pure (Next.value x))).run P w = .ok (.value v) w :=
 Zdn P _ _ (Z9D P s _ h rfl) w
section
variable {P : Program} {H : Hints} {f : FuncId} {G : GF} {nt m0 : Nat} {o : Oper} {w : World} {S : Stay} {β : Nat → Nat} {sl : Sl} {B : List Row} {a : Act}
 {K : AV → Sl → List Row → Option Res} {r : Res} {next : Act → World → Prop} {Q : Exit → Act → World → Prop}
theorem Z1e {v : Value} {w' : World} (hr : (execOp a.eval o).run P w = .ok (.value v) w') (h : next (a.put o.dst v) w') : o.wp P a w next Q := by
 unfold Oper.wp
 rw [hr]
 exact h
theorem Z8g {w' : World} (hr : (execOp a.eval o).run P w = .ok .skip w') (h : next (a.put o.dst undef) w') : o.wp P a w next Q := by
 unfold Oper.wp
 rw [hr]
 exact h
variable (h : Good nt w S β sl B a) (hd : ∀ t, o.dst = some t → t < nt)
include h hd
theorem ZdR {x : Operand} (ho : o.op = .move x ∨ o.op = .assign x) (hk : (if Z3f H f o.dst then K (ev sl x) (weak sl x) B else K (shr (ev sl x)) sl B) = some r) :
  o.wp P a w (Leaves nt m0 o w S β sl B a K r) Q := by
 have hr : (execOp a.eval o).run P w = .ok (.value (a.eval x)) w := by
  rcases ho with ho | ho <;> (unfold execOp; simp only [ho]; rfl)
 refine Z1e hr ?_
 split at hk
 ·exact Z9t h hd x hk
 ·exact Z1r h hd (h.ev x).shr (Z1w _) hk
theorem Z5w (s : Sem Value) (hs : execOp a.eval o = s.bind fun x => Sem.pure (Next.value x)) {v : Value} {x : AV} (hv : Z1W P s = some v) (hx : ARel w S β B.length x v) (hu : isUn x = false)
  (hk : K x sl B = some r) : o.wp P a w (Leaves nt m0 o w S β sl B a K r) Q := by
 refine Z1e (v := v) (w' := w) ?_ (Z1r h hd hx hu hk)
 rw [hs]
 exact Zhn P s hv w
omit h hd in
theorem Z2e {x : Value} {y : AV} (hy : Z2f x = some y) : isUn y = false := by
 unfold Z2f at hy
 split at hy
 ·obtain ⟨l, _, rfl⟩ := q4_.1 hy; rfl
 ·obtain ⟨p, hp, rfl⟩ := q4_.1 hy
  unfold Z46 at hp
  split at hp
  ·simp only [ZO] at hp; subst hp; rfl
  ·split at hp
   ·simp only [ZO] at hp; subst hp; rfl
   ·simp at hp
omit h hd in
theorem ZcT {op : BinOp} {t : TypeId} {x y : Operand} {u v : Value} (hu : Z3V u = true) : eqGuard op t x y u v = eqGuard op t (.tmp 0) (.tmp 0) u v := by
 unfold eqGuard
 cases u <;> cases v <;> first | rfl | (simp [Z3V] at hu)
theorem Zh5 {op : BinOp} {t yt : TypeId} {x y : Operand} (ho : o.op = .binOp op t x y yt) {v : AV} (hv : xbin P op t (ev sl x) (ev sl y) = some v) (hk : K v sl B = some r) :
  o.wp P a w (Leaves nt m0 o w S β sl B a K r) Q := by
 unfold xbin at hv
 split at hv
 ·rename_i u u' hu hu'
  split at hv
  ·rename_i hn
   simp only [q5_] at hn
   obtain ⟨c, hc, hcv⟩ := ZH hv
   have e1 := Z49 hu (h.ev x)
   have e2 := Z49 hu' (h.ev y)
   refine Z5w h hd (do eqGuard op t x y (a.eval x) (a.eval y); binOp op t (a.eval x) (a.eval y)) (by unfold execOp; simp only [ho]; rfl) (v := c) ?_ (Z2i hcv) (Z2e hcv) hk
   rw [e1, e2, ZcT hn.1]
   exact hc
  ·simp at hv
 ·simp at hv
theorem Zmz {op : UnOp} {t : TypeId} {x : Operand} (ho : o.op = .unOp op t x) {v : AV} (hv : xun P op (ev sl x) = some v) (hk : K v sl B = some r) :
  o.wp P a w (Leaves nt m0 o w S β sl B a K r) Q := by
 unfold xun at hv
 obtain ⟨u, hu, hv⟩ := ZH hv
 obtain ⟨c, hc, hcv⟩ := ZH hv
 have e1 := Z49 hu (h.ev x)
 refine Z5w h hd (Op.unary op (a.eval x)) (by unfold execOp; simp only [ho]; rfl) (v := c) ?_ (Z2i hcv) (Z2e hcv) hk
 rw [e1]
 exact hc
theorem Zha {x : Operand} (ho : o.op = .nilCheck x) {v : AV} (hv : Z7E (ev sl x) = some v) (hk : K v sl B = some r) : o.wp P a w (Leaves nt m0 o w S β sl B a K r) Q := by
 have he := h.ev x
 have hr : ∀ u, (a.eval x = u ∧ (match u with | .pointer (some _) | .func (.func _) .. => True | _ => False)) → (execOp a.eval o).run P w = .ok (.value u) w := by
  rintro u ⟨e, hu⟩
  unfold execOp
  simp only [ho, e]
  split at hu
  ·rfl
  ·rfl
  ·exact hu.elim
 obtain ⟨u, hu⟩ : ∃ u, a.eval x = u := ⟨_, rfl⟩
 rw [hu] at he
 unfold Z7E at hv
 split at hv
 ·rename_i id off heq
  simp only [ZO] at hv
  rw [heq] at he
  rw [← hv, heq] at hk
  have he' := he
  cases he' with
  | ptr _ _ hi => exact Z1e (hr _ ⟨hu, trivial⟩) (Z1r h hd he rfl hk)
 ·rename_i cs heq
  simp only [ZO] at hv
  rw [heq] at he
  rw [← hv, heq] at hk
  have he' := he
  cases he' with
  | cptr _ b off g hg => exact Z1e (hr _ ⟨hu, trivial⟩) (Z1r h hd he rfl hk)
 ·rename_i g fi ca heq
  simp only [ZO] at hv
  rw [heq] at he
  rw [← hv, heq] at hk
  have he' := he
  cases he' with
  | clo _ _ _ a1 a2 h1 h2 h3 h4 h5 => exact Z1e (hr _ ⟨hu, trivial⟩) (Z1r h hd he rfl hk)
 ·simp at hv
theorem Zki {c x y : Operand} (ho : o.op = .pick c x y) (hk : (asB (ev sl c) fun t => br t (K (shr (ev sl x)) sl B) (K (shr (ev sl y)) sl B)) = some r) : o.wp P a w (Leaves nt m0 o w S β sl B a K r) Q := by
 obtain ⟨b, hb, hk⟩ := Z7X hk
 have hc := h.ev c
 rw [hb] at hc
 have e := Z1z hc
 have hr : (execOp a.eval o).run P w = .ok (.value (if b then a.eval x else a.eval y)) w := by
  unfold execOp
  simp only [ho, e]
  cases b <;> rfl
 refine Z1e hr ?_
 cases b with
 | true => exact Z1r h hd (h.ev x).shr (Z1w _) hk
 | false => exact Z1r h hd (h.ev y).shr (Z1w _) hk
omit h hd in
theorem Zjm {i : Nat} {x v : AV} {u : Value} (he : ARel w S β B.length x u) (hv : xext i x = some v) :
  ∃ arr c, u = .tuple arr ∧ arr[i]? = some c ∧ ARel w S β B.length v c ∧ isUn v = false := by
 unfold xext at hv
 split at hv
 ·rename_i vs
  obtain ⟨c, hc, hv⟩ := ZH hv
  simp only [ZO] at hv
  subst hv
  cases he with
  | p _ _ hp =>
   cases hp with
   | tup _ arr h1 h2 h3 =>
    have hi : i < arr.size := by
     rw [h1]
     exact (q1_.1 hc).1
    refine ⟨arr, arr[i], rfl, by simp [hi], .p _ _ (h3 i c _ hc (by simp [hi])), ?_⟩
    have := h2 c (q7_ hc)
    cases c with
    | lst o xs => cases o <;> first | rfl | (simp [Z1Y] at this)
    | _ => rfl
 ·rename_i vs
  cases he with
  | tup _ arr h1 h2 h3 =>
   have hi : i < arr.size := by
    rw [h1]
    exact (q1_.1 hv).1
   refine ⟨arr, arr[i], rfl, by simp [hi], h3 i v _ hv (by simp [hi]), ?_⟩
   have := h2 v (q7_ hv)
   cases hu : isUn v with
   | false => rfl
   | true => obtain ⟨xs, rfl⟩ := Z5s hu; exact absurd rfl (this xs)
 ·simp at hv
omit hd in
theorem ZcU {x : Operand} {i : Nat} (ho : o.op = .extract x i) {v : AV} (hv : xext i (ev sl x) = some v) :
  ∃ c, (execOp a.eval o).run P w = .ok (.value c) w ∧ ARel w S β B.length v c ∧ isUn v = false := by
 obtain ⟨arr, c, hu, hc, hr, hn⟩ := Zjm (h.ev x) hv
 refine ⟨c, ?_, hr, hn⟩
 unfold execOp
 simp only [ho, hu]
 show ((Instr.extract (.tuple arr) i).bind fun x => Sem.pure (Next.value x)).run P w = _
 unfold Instr.extract
 simp only [hc]
 rfl
theorem Zfh {x : Operand} {i : Nat} (ho : o.op = .extract x i) {v : AV} (hv : xext i (ev sl x) = some v)
  (hk : (if Z3f H f o.dst then K v (weak sl x) B else K (shr v) sl B) = some r) : o.wp P a w (Leaves nt m0 o w S β sl B a K r) Q := by
 obtain ⟨c, hrun, hr, hn⟩ := ZcU (P := P) (w := w) h ho hv
 refine Z1e hrun ?_
 split at hk
 ·have hw := h.weak x
  refine ⟨v, weak sl x, B, S, β, hk, hw.put hd hr hn, { Step.refl m0 w S β B.length (UB (Here nt sl a.tmps B β w)) with uns := fun b hb => .inl ?_ }⟩
  refine UB.reslot (sl := sl) (sl' := weak sl x) ?_ b (UB.put h.size hd hn b hb)
  intro t _
  cases x with
  | tmp u =>
   show get ((u, shr (get sl u)) :: sl) t = _ ∨ isUn (get ((u, shr (get sl u)) :: sl) t) = false
   rw [Z10]
   by_cases e : u = t
   ·rw [if_pos e]; exact .inr (Z1w _)
   ·rw [if_neg e]; exact .inl rfl
  | _ => exact .inl rfl
 ·exact Z1r h hd hr.shr (Z1w _) hk
omit h hd in
theorem Z32 {α : Type} {x : Array α} {a : α} (h : x.toList = [a]) : x = #[a] := by
 apply Zft.1; simpa using h
omit h hd in
theorem Z33 {α : Type} {x : Array α} {a b : α} (h : x.toList = [a, b]) : x = #[a, b] := by
 apply Zft.1; simpa using h
theorem Zm7 {c : Call} {x : Operand} {t : TypeId} (ho : o.op = .call c) (hc : c.callee = .builtin .len) (ha : c.args.toList = [x]) (ht : c.argTypes.toList = [t])
  {v : AV} (hv : xlen P t (ev sl x) = some v) (hk : K v sl B = some r) : o.wp P a w (Leaves nt m0 o w S β sl B a K r) Q := by
 have he := h.ev x
 have hr : ∀ n : Int, (Builtin.len_ #[t] o.type #[a.eval x]).run P w = .ok (.int .i64 n) w → (execOp a.eval o).run P w = .ok (.value (.int .i64 n)) w := by
  intro n hn
  unfold execOp
  simp only [ho]
  show ((resolve a.eval c o.type).bind fun d => invoke d.target d.args).run P w = _
  unfold resolve
  simp only [hc, Z32 ha, Z32 ht]
  show ((Builtin.len_ #[t] o.type (Array.map a.eval #[x])).bind fun x => Sem.pure (Next.value x)).run P w = _
  have e : Array.map a.eval #[x] = #[a.eval x] := by simp
  rw [e]
  rw [Sem.run_bind' P (Builtin.len_ #[t] o.type #[a.eval x]) (fun x => Sem.pure (Next.value x)) w, hn]
  rfl
 unfold xlen at hv
 split at hv
 ·rename_i e o' xs hu heq
  simp only [ZO] at hv
  subst hv
  rw [heq] at he
  obtain ⟨u, hu'⟩ : ∃ u, a.eval x = u := ⟨_, rfl⟩
  rw [hu'] at he
  cases he with
  | p _ _ hp =>
   cases hp with
   | lst _ _ ad cap b off sz g =>
    refine Z1e (hr xs.length ?_) (Z1r h hd (.p _ _ (.v _ rfl)) rfl hk)
    rw [hu']
    unfold Builtin.len_
    simp [underlying, program, hu, Sem.run, bind, Sem.bind, pure, goInt]
 ·rename_i s hu heq
  simp only [ZO] at hv
  subst hv
  rw [heq] at he
  have e := Z1z he
  refine Z1e (hr s.size ?_) (Z1r h hd (.p _ _ (.v _ rfl)) rfl hk)
  rw [e]
  unfold Builtin.len_
  simp [underlying, program, hu, Sem.run, bind, Sem.bind, pure, goInt]
 ·simp at hv
omit h hd in
theorem Z5J {t : TypeId} {n : Nat} (hn : Z3R P t = n) (h0 : 0 < n) : ∃ e i, P.underlying t = some (.slice e) ∧ P.info? e = some i ∧ i.size = n ∧ 0 < i.bytes ∧ i.bytes ≤ 104 ∧ ∃ z, i.zero = some z ∧ z.cells.size = n := by
 unfold Z3R at hn
 split at hn
 ·rename_i e hu
  split at hn
  ·rename_i i hi
   split at hn
   ·rename_i hb
    refine ⟨e, i, hu, hi, hn, hb.1, hb.2.1, ?_⟩
    have hz := hb.2.2
    unfold zOk at hz
    split at hz
    ·rename_i z hz'
     exact ⟨z, hz', by rw [← hn]; simpa using hz⟩
    ·simp at hz
   ·omega
  ·omega
 ·omega
omit h hd in
theorem Z2F (b off k : Nat) : (⟨b, off, none⟩ : Addr).add k = ⟨b, off + k, none⟩ := by
 unfold Addr.add
 split
 ·subst_vars; rfl
 ·rfl
omit h hd in
theorem Zk0 {n : Nat} {x i v : AV} {u q : Value} (hx : ARel w S β B.length x u) (hi : ARel w S β B.length i q) (hv : xidx n x i = some v) :
  ∃ b off len cap kd j, u = .slice (some ⟨b, off, none⟩) len cap ∧ q = .int kd j ∧ 0 ≤ j ∧ j < len ∧ 0 < n ∧
   ARel w S β B.length v (.pointer (some ⟨b, off + j.toNat * n, none⟩)) ∧ isUn v = false := by
 unfold xidx at hv
 split at hv
 ·rename_i o xs
  obtain ⟨kd, j, rfl, hv'⟩ := Z4l hv
  clear hv
  have hv := hv'
  clear hv'
  have eq := Z1z hi
  split at hv
  ·rename_i h0
   split at hv
   ·rename_i e he
    split at hv
    ·rename_i hn
     simp only [q5_, beq_iff_eq, decide_eq_true_eq] at hn
     simp only [ZO] at hv
     subst hv
     obtain ⟨hlt, hget⟩ := q1_.1 he
     cases hx with
     | p _ _ hp =>
      cases hp with
      | lst _ _ ad cap b off sz g h1 h2 h3 h4 h5 h6 h7 h8 =>
       have hne : xs ≠ [] := by rintro rfl; simp at hlt
       obtain ⟨rfl, hs0, hsz⟩ := h6 hne
       have hsn : sz = n := by rw [← hsz e (q7_ he)]; exact hn.1
       subst hsn
       refine ⟨b, off, xs.length, cap, kd, j, rfl, eq, h0, by omega, hs0, .cptr (Z16 e) b _ (g j.toNat) ?_, rfl⟩
       intro k c hc
       obtain ⟨a1, a2, a3⟩ := h7 _ e k c he hc
       rw [Nat.add_assoc]
       exact ⟨a1, a2, a3, h8 _ e k c he hc⟩
    ·simp at hv
   ·simp at hv
  ·simp at hv
 ·simp at hv
theorem Zi6 {x i : Operand} {t : TypeId} (ho : o.op = .indexAddr t x i) {v : AV} (hv : xidx (Z3R P t) (ev sl x) (ev sl i) = some v) (hk : K v sl B = some r) :
  o.wp P a w (Leaves nt m0 o w S β sl B a K r) Q := by
 obtain ⟨b, off, len, cap, kd, j, hu, hq, h0, h1, hn, hr, hun⟩ := Zk0 (h.ev x) (h.ev i) hv
 obtain ⟨e, ti, hue, hie, hsz, _⟩ := Z5J (P := P) rfl hn
 refine Z1e (w' := w) ?_ (Z1r h hd hr hun hk)
 unfold execOp
 simp only [ho, hu, hq]
 simp [Instr.indexAt, asIntOf, underlying, program, typeInfo, Go.sizeOf, hue, hie, hsz, h0, h1, Sem.run, Z2F, pure, bind, Sem.bind]
theorem Zkd {x i : Operand} {t e : TypeId} {n : Nat} (ho : o.op = .indexAddr t x i) (hu : P.underlying t = some (.array n e)) {v : AV} (hv : ZfA n (sizeOf P e) (ev sl x) (ev sl i) = some v)
  (hi : (P.info? e).isSome = true) (hk : K v sl B = some r) : o.wp P a w (Leaves nt m0 o w S β sl B a K r) Q := by
 have hx := h.ev x
 have hq := h.ev i
 obtain ⟨u, hue⟩ : ∃ u, a.eval x = u := ⟨_, rfl⟩
 rw [hue] at hx
 unfold ZfA at hv
 split at hv
 ·rename_i id off heq
  obtain ⟨kd, j, hie, hv'⟩ := Z4l hv
  clear hv
  have hv := hv'
  clear hv'
  rw [heq] at hx
  rw [hie] at hq
  have eq := Z1z hq
  split at hv
  ·rename_i hj
   simp only [ZO] at hv
   subst hv
   cases hx with
   | ptr _ _ hid =>
    refine Z1e (v := .pointer (some ⟨β id, off + j.toNat * sizeOf P e, none⟩)) (w' := w) ?_ (Z1r h hd (.ptr _ _ hid) rfl hk)
    obtain ⟨ti, hti⟩ := Zid.1 hi
    have es : sizeOf P e = ti.size := by simp [sizeOf, hti]
    unfold execOp
    simp only [ho, hue, eq]
    simp [Instr.indexAt, asIntOf, Instr.sureAddr, underlying, program, typeInfo, Go.sizeOf, hu, hti, hj.1, hj.2, Sem.run, Z2F, pure, bind, Sem.bind, es]
  ·simp at hv
 ·rename_i cs heq
  obtain ⟨kd, j, hie, hv'⟩ := Z4l hv
  clear hv
  have hv := hv'
  clear hv'
  rw [heq] at hx
  rw [hie] at hq
  have eq := Z1z hq
  split at hv
  ·rename_i hj
   simp only [ZO] at hv
   subst hv
   cases hx with
   | cptr _ b o' g hg =>
    refine Z1e (v := .pointer (some ⟨b, o' + j.toNat * sizeOf P e, none⟩)) (w' := w) ?_ (Z1r h hd (.cptr _ b (o' + j.toNat * sizeOf P e) (fun q => g (j.toNat * sizeOf P e + q)) ?_) rfl hk)
    ·obtain ⟨ti, hti⟩ := Zid.1 hi
     have es : sizeOf P e = ti.size := by simp [sizeOf, hti]
     unfold execOp
     simp only [ho, hue, eq]
     simp [Instr.indexAt, asIntOf, Instr.sureAddr, underlying, program, typeInfo, Go.sizeOf, hu, hti, hj.1, hj.2, Sem.run, Z2F, pure, bind, Sem.bind, es]
    ·intro q c hc
     rw [Z63] at hc
     have := hg (j.toNat * sizeOf P e + q) c hc
     rwa [← Nat.add_assoc] at this
  ·simp at hv
 ·simp at hv
end
end Go.Abs
end
section
namespace Go.Abs
open Go
section
variable {P : Program} {H : Hints} {f : FuncId} {G : GF} {nt m0 : Nat} {o : Oper} {w : World} {S : Stay} {β : Nat → Nat} {sl : Sl} {B : List Row} {a : Act}
 {K : AV → Sl → List Row → Option Res} {r : Res} {next : Act → World → Prop} {Q : Exit → Act → World → Prop}
def aggT : TypeDesc → Bool
 | .struct _ => true
 | .array _ _ => true
 | _ => false
theorem Z7e {t : TypeId} {d : TypeDesc} (h : P.underlying t = some d) (w : World) : (isAgg t).run P w = .ok (aggT d) w := by
 unfold isAgg
 simp only [underlying, Sem.run_bind, run_program, Result.andThen_ok, h]
 cases d <;> rfl
theorem run_sizeOf {t : TypeId} {i : TypeInfo} (h : P.info? t = some i) (w : World) : (Go.sizeOf t).run P w = .ok i.size w := by
 unfold Go.sizeOf typeInfo
 simp only [Sem.run_bind, run_program, Result.andThen_ok, h]
 rfl
theorem run_underlying {t : TypeId} {d : TypeDesc} (h : P.underlying t = some d) (w : World) : (underlying t).run P w = .ok d w := by
 unfold underlying
 simp only [Sem.run_bind, run_program, Result.andThen_ok, h]
 rfl
variable (h : Good nt w S β sl B a) (hd : ∀ t, o.dst = some t → t < nt)
include h hd
theorem Z1o {s : Sem Value} (hs : execOp a.eval o = s.bind fun x => Sem.pure (Next.value x)) {v : Value} {x : AV} (hv : s.run P w = .ok v w) (hx : ARel w S β B.length x v) (hu : isUn x = false)
  (hk : K x sl B = some r) : o.wp P a w (Leaves nt m0 o w S β sl B a K r) Q := by
 refine Z1e (v := v) (w' := w) ?_ (Z1r h hd hx hu hk)
 rw [hs, Sem.run_bind', hv]
 rfl
theorem Zi5 {x : Operand} {s : TypeId} {fd off : Nat} (ho : o.op = .fieldAddr s x fd) (hf : Z5M P s fd = some off) {v : AV} (hv : xfld off (ev sl x) = some v) (hk : K v sl B = some r) :
  o.wp P a w (Leaves nt m0 o w S β sl B a K r) Q := by
 have he := h.ev x
 obtain ⟨u, hue⟩ : ∃ u, a.eval x = u := ⟨_, rfl⟩
 rw [hue] at he
 unfold Z5M at hf
 split at hf
 ·rename_i fields hus
  split at hf
  ·rename_i fl hfl
   split at hf
   ·simp at hf
   ·rename_i hz
    simp only [ZO] at hf
    obtain ⟨i, hi⟩ : ∃ i, P.info? fl.type = some i := by
     cases hh : P.info? fl.type with
     | none => simp [sizeOf, hh] at hz
     | some i => exact ⟨i, rfl⟩
    have hsz : ¬ i.size = 0 := by simpa [sizeOf, hi] using hz
    have hrun : ∀ b o', u = .pointer (some ⟨b, o', none⟩) → (Instr.fieldAt s u fd).run P w = .ok (.pointer (some ⟨b, o' + off, none⟩)) w := by
     intro b o' e
     subst e
     unfold Instr.fieldAt
     simp [run_underlying hus, hfl, Instr.sureAddr, fieldPlace, run_sizeOf hi, hsz, Z2F, hf]
    have hs : execOp a.eval o = (Instr.fieldAt s u fd).bind fun x => Sem.pure (Next.value x) := by
     unfold execOp
     simp only [ho, hue]
     rfl
    unfold xfld at hv
    split at hv
    ·rename_i id o' heq
     simp only [ZO] at hv
     subst hv
     rw [heq] at he
     cases he with
     | ptr _ _ hid => exact Z1o h hd hs (hrun _ _ rfl) (.ptr _ _ hid) rfl hk
    ·rename_i cs heq
     simp only [ZO] at hv
     subst hv
     rw [heq] at he
     cases he with
     | cptr _ b o' g hg =>
      refine Z1o h hd hs (hrun _ _ rfl) (.cptr _ b (o' + off) (fun j => g (off + j)) ?_) rfl hk
      intro j c hc
      rw [Z63] at hc
      have := hg (off + j) c hc
      rwa [← Nat.add_assoc] at this
    ·simp at hv
  ·simp at hf
 ·simp at hf
omit h hd in
theorem Z3E {t : TypeId} {b : Bool} {n : Nat} (hs : shape P t = some (b, n)) :
  ∃ d i, P.underlying t = some d ∧ P.info? t = some i ∧ i.size = n ∧ b = aggT d ∧ (b = false → n = 1) := by
 unfold shape at hs
 split at hs <;> try simp at hs
 ·rename_i hu hi
  obtain ⟨rfl, rfl⟩ := hs
  exact ⟨_, _, hu, hi, rfl, rfl, by simp⟩
 ·rename_i hu hi
  obtain ⟨rfl, rfl⟩ := hs
  exact ⟨_, _, hu, hi, rfl, rfl, by simp⟩
 ·rename_i d i _ h1 h2 hu hi
  obtain ⟨h0, rfl, rfl⟩ := hs
  refine ⟨_, _, hu, hi, h0, ?_, by simp⟩
  unfold aggT
  split
  ·exact absurd rfl (h1 _)
  ·exact absurd rfl (h2 _ _)
  ·rfl
omit h hd in
theorem ZcH {t : TypeId} {b : Bool} {n off : Nat} (hs : shape P t = some (b, n)) (arr : Array Value) (w : World) :
  (part t arr off).run P w = if b then .ok (.agg (arr.extract off (off + n))) w else match arr[off]? with | some v => .ok v w | none => .halt (.stuck "part: no such cell") w := by
 obtain ⟨d, i, hu, hi, hsz, hb, _⟩ := Z3E hs
 unfold part
 rw [Sem.run_bind, Z7e hu, ← hb]
 cases b with
 | true => simp [run_sizeOf hi, hsz]
 | false =>
  simp only [Result.andThen_ok, q8_, if_false]
  cases arr[off]? <;> rfl
omit h hd in
theorem Zba {n : Nat} : ∀ {cs : List AV} {ps : List PV}, allP cs = some ps → cs = ps.map .p
 | [], ps, h => by simp [allP] at h; subst h; rfl
 | .p x :: r, ps, h => by
  simp only [allP] at h
  obtain ⟨q, hq, rfl⟩ := q4_.1 h
  simp [Zba (n := n) hq]
 | .ptr .. :: _, _, h => by simp [allP] at h
 | .cptr _ :: _, _, h => by simp [allP] at h
 | .clo .. :: _, _, h => by simp [allP] at h
 | .agg _ :: _, _, h => by simp [allP] at h
 | .tup _ :: _, _, h => by simp [allP] at h
omit h hd in
theorem Z6Z {n : Nat} {cs : List AV} {arr : Array Value} (h1 : arr.size = cs.length) (h2 : ∀ c, c ∈ cs → Z1k c = true ∧ isUn c = false)
  (h3 : ∀ (i : Nat) (c : AV) (v : Value), cs[i]? = some c → arr[i]? = some v → ARel w S β n c v) : ARel w S β n (Z3A cs) (.agg arr) := by
 unfold Z3A
 split
 ·rename_i ps hps
  have e := Zba (n := n) hps
  subst e
  refine .p _ _ (.agg ps arr (by simpa using h1) ?_ ?_)
  ·intro c hc
   obtain ⟨a1, a2⟩ := h2 (.p c) (Z1B.2 ⟨c, hc, rfl⟩)
   unfold Z1Q
   simp only [Z1k] at a1
   rw [a1]
   cases c with
   | lst o xs => cases o <;> first | rfl | (simp [isUn] at a2)
   | _ => rfl
  ·intro i c v hc hv
   have := h3 i (.p c) v (by rw [q6_, hc]; rfl) hv
   cases this with
   | p _ _ hp => exact hp
 ·refine .agg cs arr h1 ?_ h3
  intro c hc
  obtain ⟨a1, a2⟩ := h2 c hc
  refine ⟨a1, ?_⟩
  rintro xs rfl
  simp [isUn] at a2
omit h hd in
theorem Z5S (cs : List AV) : isUn (Z3A cs) = false := by
 unfold Z3A
 split <;> rfl
omit h hd in
theorem Z74 {c : PV} (hc : Z1Q c = true) : Z1k (.p c) = true ∧ isUn (.p c) = false := by
 unfold Z1Q at hc
 simp only [q5_] at hc
 refine ⟨hc.1, ?_⟩
 cases c with
 | lst o xs => cases o <;> first | rfl | (simp [Z1Y] at hc)
 | _ => rfl
omit h hd in
theorem Zci {n off k : Nat} {ag : Bool} {x v : AV} {u : Value} (hx : ARel w S β n x u) (hv : Z7F ag off k x = some v) :
  ∃ arr, u = .agg arr ∧ isUn v = false ∧
   (ag = true → ARel w S β n v (.agg (arr.extract off (off + k)))) ∧ (ag = false → ∃ c, arr[off]? = some c ∧ ARel w S β n v c) := by
 unfold Z7F at hv
 split at hv
 ·rename_i cs
  cases hx with
  | p _ _ hp =>
   cases hp with
   | agg _ arr h1 h2 h3 =>
    refine ⟨arr, rfl, ?_⟩
    cases ag with
    | true =>
     simp only [if_true] at hv
     split at hv
     ·rename_i hle
      simp only [ZO] at hv
      subst hv
      refine ⟨rfl, fun _ => .p _ _ (.agg _ _ ?_ ?_ ?_), by simp⟩
      ·simp; omega
      ·intro c hc
       exact h2 c (List.mem_of_mem_drop (Zfu hc))
      ·intro i c v hc hv
       rw [Z3B] at hc
       split at hc
       ·rw [Z63] at hc
        refine h3 (off + i) c v hc ?_
        rw [Array.getElem?_extract] at hv
        split at hv
        ·exact hv
        ·simp at hv
       ·simp at hc
     ·simp at hv
    | false =>
     obtain ⟨c, hc, hv'⟩ := ZH hv
     simp only [ZO] at hv'
     subst hv'
     have hlt : off < arr.size := by rw [h1]; exact (q1_.1 hc).1
     refine ⟨(Z74 (h2 c (q7_ hc))).2, by simp, fun _ => ⟨arr[off], by simp [hlt], .p _ _ (h3 off c _ hc (by simp [hlt]))⟩⟩
 ·rename_i cs
  cases hx with
  | agg _ arr h1 h2 h3 =>
   refine ⟨arr, rfl, ?_⟩
   have h2' : ∀ c, c ∈ cs → Z1k c = true ∧ isUn c = false := by
    intro c hc
    refine ⟨(h2 c hc).1, ?_⟩
    cases hu : isUn c with
    | false => rfl
    | true => obtain ⟨xs, rfl⟩ := Z5s hu; exact absurd rfl ((h2 _ hc).2 xs)
   cases ag with
   | true =>
    simp only [if_true] at hv
    split at hv
    ·rename_i hle
     simp only [ZO] at hv
     subst hv
     refine ⟨Z5S _, fun _ => Z6Z ?_ ?_ ?_, by simp⟩
     ·simp; omega
     ·intro c hc
      exact h2' c (List.mem_of_mem_drop (Zfu hc))
     ·intro i c v hc hv
      rw [Z3B] at hc
      split at hc
      ·rw [Z63] at hc
       refine h3 (off + i) c v hc ?_
       rw [Array.getElem?_extract] at hv
       split at hv
       ·exact hv
       ·simp at hv
      ·simp at hc
    ·simp at hv
   | false =>
    have hlt : off < arr.size := by rw [h1]; exact (q1_.1 hv).1
    refine ⟨(h2' v (q7_ hv)).2, by simp, fun _ => ⟨arr[off], by simp [hlt], h3 off v _ hv (by simp [hlt])⟩⟩
 ·simp at hv
theorem Zkh {x : Operand} {s : TypeId} {fd n : Nat} {fields : Array Field} {fl : Field} {ag : Bool} (ho : o.op = .field s x fd) (hu : P.underlying s = some (.struct fields)) (hf : fields[fd]? = some fl)
  (hs : shape P fl.type = some (ag, n)) {v : AV} (hv : Z7F ag fl.offset n (ev sl x) = some v) (hk : K v sl B = some r) : o.wp P a w (Leaves nt m0 o w S β sl B a K r) Q := by
 obtain ⟨arr, hue, hun, hr1, hr2⟩ := Zci (h.ev x) hv
 have hs' : execOp a.eval o = (Instr.field s (.agg arr) fd).bind fun x => Sem.pure (Next.value x) := by
  unfold execOp
  simp only [ho, hue]
  rfl
 have hrun : (Instr.field s (.agg arr) fd).run P w = (part fl.type arr fl.offset).run P w := by
  unfold Instr.field
  simp [run_underlying hu, hf, asAgg]
 rw [ZcH hs] at hrun
 cases ag with
 | true => exact Z1o h hd hs' (by rw [hrun]; rfl) (hr1 rfl) hun hk
 | false =>
  obtain ⟨c, hc, hr⟩ := hr2 rfl
  exact Z1o h hd hs' (by rw [hrun, hc]; rfl) hr hun hk
end
end Go.Abs
end
section
namespace Go.Abs
open Go
theorem Zbg {op : BinOp} {t : TypeId} {x y : Operand} {u c : Value} (h1 : u ≠ .nilIface) (h2 : ∀ a, u ≠ .agg a) : eqGuard op t x y u c = pure () := by
 unfold eqGuard
 cases op <;> first
  | rfl
  | (cases u <;> first | exact absurd rfl h1 | exact absurd rfl (h2 _) | (cases c <;> rfl))
theorem Z6W (x : AV) : isUn (nrmA x) = false := by
 cases x with
 | p x => cases x <;> rfl
 | _ => rfl
theorem ZdN (x : AV) (xs : List PV) : nrmA x ≠ .p (.lst .un xs) := by
 intro e
 have := Z6W x
 rw [e] at this
 simp [isUn] at this
theorem Zca (x : PV) : Z1k (.p (nrmP x)) = Z1k (.p x) := Z6T x
theorem ARel.nrmA {w : World} {S : Stay} {β : Nat → Nat} {n : Nat} {x : AV} {v : Value} (h : ARel w S β n x v) : ARel w S β n (nrmA x) v := by
 cases x with
 | p x =>
  cases h with
  | p _ _ hp => exact .p _ _ hp.nrm
 | agg cs =>
  cases h with
  | agg _ arr h1 h2 h3 =>
   refine .agg _ arr (by simpa using h1) ?_ ?_
   ·intro c hc
    obtain ⟨d, hd, rfl⟩ := Z1B.1 hc
    have := h2 d hd
    cases d with
    | p x =>
     refine ⟨(Zca x).trans this.1, ?_⟩
     intro xs e
     simp only [AV.p.injEq] at e
     have := Z9v x
     rw [e] at this
     simp [Z1Y] at this
    | _ => exact this
   ·intro i c u hc hu
    rw [q6_] at hc
    obtain ⟨d, hd, rfl⟩ := q4_.1 hc
    have := h3 i d u hd hu
    cases d with
    | p x => cases this with
     | p _ _ hp => exact .p _ _ hp.nrmP
    | _ => exact this
 | tup vs =>
  cases h with
  | tup _ arr h1 h2 h3 =>
   refine .tup _ arr (by simpa using h1) ?_ ?_
   ·intro c hc xs
    obtain ⟨d, hd, rfl⟩ := Z1B.1 hc
    cases d with
    | p x => exact ZdN (.p x) xs
    | _ => simp
   ·intro i c u hc hu
    rw [q6_] at hc
    obtain ⟨d, hd, rfl⟩ := q4_.1 hc
    have := h3 i d u hd hu
    cases d with
    | p x => cases this with
     | p _ _ hp => exact .p _ _ hp.nrm
    | _ => exact this
 | _ => exact h
section
variable {P : Program} {H : Hints} {f : FuncId} {G : GF} {nt m0 : Nat} {o : Oper} {w : World} {S : Stay} {β : Nat → Nat} {sl : Sl} {B : List Row} {a : Act}
 {K : AV → Sl → List Row → Option Res} {r : Res} {next : Act → World → Prop} {Q : Exit → Act → World → Prop}
theorem Good.evs {nt : Nat} {w : World} {S : Stay} {β : Nat → Nat} {sl : Sl} {B : List Row} {a : Act} (h : Good nt w S β sl B a) (xs : Array Operand) :
  (xs.map a.eval).size = (evs sl xs).length ∧ ∀ (i : Nat) (c : AV) (v : Value), (evs sl xs)[i]? = some c → (xs.map a.eval)[i]? = some v → ARel w S β B.length c v := by
 unfold Go.Abs.evs
 refine ⟨by simp, ?_⟩
 intro i c v hc hv
 rw [q6_] at hc
 rw [Zcw] at hv
 obtain ⟨x, hx, rfl⟩ := q4_.1 hc
 obtain ⟨y, hy, rfl⟩ := q4_.1 hv
 rw [Zfs] at hx
 rw [hx] at hy
 cases hy
 exact h.ev x
variable (h : Good nt w S β sl B a) (hd : ∀ t, o.dst = some t → t < nt)
include h hd
theorem Zke {g : FuncId} {first cap : Array Operand} (ho : o.op = .makeFunc (.func g) first cap) (hk : K (.clo g ((evs sl first).map nrmA) ((evs sl cap).map nrmA)) sl B = some r) :
  o.wp P a w (Leaves nt m0 o w S β sl B a K r) Q := by
 obtain ⟨f1, f2⟩ := h.evs first
 obtain ⟨c1, c2⟩ := h.evs cap
 refine Z1o h hd (s := Instr.makeFunc (.func g) (first.map a.eval) (cap.map a.eval)) (by unfold execOp; simp only [ho]; rfl) (v := .func (.func g) (first.map a.eval) (cap.map a.eval)) (by unfold Instr.makeFunc; rfl) ?_ rfl hk
 refine .clo g _ _ _ _ (by simpa using f1) (by simpa using c1) ?_ ?_ ?_
 ·intro i c v hc hv
  rw [q6_] at hc
  obtain ⟨d, hd', rfl⟩ := q4_.1 hc
  exact (f2 i d v hd' hv).nrmA
 ·intro i c v hc hv
  rw [q6_] at hc
  obtain ⟨d, hd', rfl⟩ := q4_.1 hc
  exact (c2 i d v hd' hv).nrmA
 ·intro c hc xs
  rcases Z4f.1 hc with hc | hc <;> (obtain ⟨d, _, rfl⟩ := Z1B.1 hc; exact ZdN d xs)
omit h hd in
theorem ZgX {t : TypeId} {c u : Value} {x : AV} {b : Bool} (hn : Z7D P t c x = true) (hx : ARel w S β B.length x u) (hb : Z42 x = some b) :
  (Op.equal t u c).run P w = .ok b w ∧ (∀ k n, u ≠ .int k n) ∧ (∀ k n, u ≠ .float k n) ∧ (∀ s, u ≠ .string s) ∧ (∀ k a b, u ≠ .complex k a b) ∧ (∀ a, u ≠ .agg a) ∧ u ≠ .nilIface := by
 unfold Z7D at hn
 unfold Op.equal Op.maxDepth
 split at hn <;> try simp at hn
 ·rename_i e o' xs hu
  cases hx with
  | p _ _ hp =>
   cases hp with
   | lst _ _ ad cap bl off sz g h1 h2 h3 h4 h5 h6 h7 h8 =>
    refine ⟨?_, by simp, by simp, by simp, by simp, by simp, by simp⟩
    unfold Op.equalIn
    have hb' : b = ad.isNone := by
     unfold Z42 at hb
     cases o' with
     | nl => simp only [ZO] at hb; rw [(h2 rfl).1, ← hb]; rfl
     | ex =>
      cases xs with
      | nil => simp at hb
      | cons y ys =>
       simp only [ZO] at hb
       have := (h6 (by simp)).1
       rw [this, ← hb]; rfl
     | un =>
      simp only [ZO] at hb
      have := (h6 (h4 rfl)).1
      rw [this, ← hb]; rfl
     | sh =>
      cases xs with
      | nil => simp at hb
      | cons y ys =>
       simp only [ZO] at hb
       have := (h6 (by simp)).1
       rw [this, ← hb]; rfl
    subst hb'
    cases ad <;> simp [run_underlying hu]
 ·rename_i e id off hu
  cases hx with
  | ptr _ _ hid =>
   refine ⟨?_, by simp, by simp, by simp, by simp, by simp, by simp⟩
   unfold Op.equalIn
   simp only [Z42, ZO] at hb
   subst hb
   simp [run_underlying hu]
 ·rename_i e cs hu
  cases hx with
  | cptr _ bl off g hg =>
   refine ⟨?_, by simp, by simp, by simp, by simp, by simp, by simp⟩
   unfold Op.equalIn
   simp only [Z42, ZO] at hb
   subst hb
   simp [run_underlying hu]
 ·rename_i e hu
  have e := Z1z hx
  subst e
  refine ⟨?_, by simp, by simp, by simp, by simp, by simp, by simp⟩
  unfold Op.equalIn
  simp only [Z42, ZO] at hb
  subst hb
  simp [run_underlying hu]
 ·rename_i p1 p2 p3 g fi ca hu
  cases hx with
  | clo _ _ _ a1 a2 h1 h2 h3 h4 h5 =>
   refine ⟨?_, by simp, by simp, by simp, by simp, by simp, by simp⟩
   unfold Op.equalIn
   simp only [Z42, ZO] at hb
   subst hb
   simp [run_underlying hu]
 ·rename_i p1 p2 p3 hu
  have e := Z1z hx
  subst e
  refine ⟨?_, by simp, by simp, by simp, by simp, by simp, by simp⟩
  unfold Op.equalIn
  simp only [Z42, ZO] at hb
  subst hb
  simp [run_underlying hu]
theorem Zm9 {op : BinOp} {t yt : TypeId} {x : Operand} {c : Value} (ho : o.op = .binOp op t x (.const c) yt) {v : AV} (hv : xnil P op t c (ev sl x) = some v) (hk : K v sl B = some r) :
  o.wp P a w (Leaves nt m0 o w S β sl B a K r) Q := by
 unfold xnil at hv
 split at hv
 ·rename_i hn
  obtain ⟨b, hb, hv'⟩ := ZH hv
  obtain ⟨he, n1, n2, n3, n4, n5, n6⟩ := ZgX (w := w) hn (h.ev x) hb
  have hc : (∀ k n, c ≠ .int k n) ∧ c ≠ .nilIface := by
   unfold Z7D at hn
   split at hn <;> simp at hn <;> simp
  obtain ⟨u, hue⟩ : ∃ u, a.eval x = u := ⟨_, rfl⟩
  rw [hue] at he n1 n2 n3 n4 n5 n6
  have hs : execOp a.eval o = (do eqGuard op t x (.const c) u c; binOp op t u c : Sem Value).bind fun x => Sem.pure (Next.value x) := by
   unfold execOp
   simp only [ho, hue]
   rfl
  have hg : eqGuard op t x (.const c) u c = pure () := Zbg n6 n5
  have hb2 : ∀ q : Bool, op = (if q then .eql else .neq) → (binOp op t u c).run P w = .ok (.bool (if q then b else !b)) w := by
   intro q hq
   have : binOp op t u c = if q then (do pure (.bool (← Op.equal t u c))) else (do pure (.bool (!(← Op.equal t u c)))) := by
    subst hq
    unfold binOp
    cases q <;> cases u <;> first | rfl | (exact absurd rfl (n1 _ _)) | (exact absurd rfl (n2 _ _)) | (exact absurd rfl (n3 _)) | (exact absurd rfl (n4 _ _ _))
   rw [this]
   cases q <;> simp [he]
  split at hv' <;> simp only [ZO, reduceCtorEq] at hv'
  ·subst hv'
   refine Z1o h hd hs (v := .bool b) ?_ (.p _ _ (.v _ rfl)) rfl hk
   rw [hg]
   simpa using hb2 true rfl
  ·subst hv'
   refine Z1o h hd hs (v := .bool !b) ?_ (.p _ _ (.v _ rfl)) rfl hk
   rw [hg]
   simpa using hb2 false rfl
 ·simp at hv
end
end Go.Abs
end
section
namespace Go.Abs
open Go
section
variable {P : Program} {H : Hints} {f : FuncId} {G : GF} {nt m0 : Nat} {o : Oper} {w : World} {S : Stay} {β : Nat → Nat} {sl : Sl} {B : List Row} {a : Act}
 {K : AV → Sl → List Row → Option Res} {r : Res} {next : Act → World → Prop} {Q : Exit → Act → World → Prop}
theorem Z3P {k : IntKind} {i : Int} {y : Nat} {code : BoundsCode} (h0 : 0 ≤ i) (h1 : i ≤ y) (w : World) : (Instr.sliceBound (.int k i) y code).run P w = .ok i.toNat w := by
 unfold Instr.sliceBound
 simp [asIntOf, h0, h1]
def Bnd (d : Int) (x : Option Value) (n : Int) : Prop := (x = none ∧ n = d) ∨ ∃ k, x = some (.int k n)
theorem Z4M {isSlice : Bool} {len cap : Nat} {lo hi mx : Option Value} {l h m : Int} (hl : Bnd 0 lo l) (hh : Bnd len hi h) (hm : Bnd cap mx m)
  (h0 : 0 ≤ l) (h1 : l ≤ h) (h2 : h ≤ len) (h3 : h ≤ m) (h4 : m ≤ cap) (hx : mx.isSome = true → hi.isSome = true) (w : World) :
  (Instr.sliceBounds isSlice len cap lo hi mx).run P w = .ok (l.toNat, h.toNat, m.toNat) w := by
 unfold Instr.sliceBounds
 rcases hl with ⟨rfl, rfl⟩ | ⟨kl, rfl⟩ <;> rcases hh with ⟨rfl, rfl⟩ | ⟨kh, rfl⟩ <;> rcases hm with ⟨rfl, rfl⟩ | ⟨km, rfl⟩ <;>
  first
  | (simp at hx; done)
  | (simp [Z3P, h0, h1, h3, h4, Int.le_trans h0 h1, Int.le_trans (Int.le_trans h0 h1) h3, Int.toNat_of_nonneg (Int.le_trans h0 h1), Int.toNat_of_nonneg (Int.le_trans (Int.le_trans h0 h1) h3)]; done)
  | skip
 all_goals (first | (rw [Z3P] <;> first | omega | simp [Z3P, h0, h1, h2, h3, h4]) | skip)
def slo : Own → Own
 | .nl => .nl
 | _ => .sh
theorem Z5X (h : Good nt w S β sl B a) {d l : Int} {x : Option Operand} (hx : optI d (evo sl x) = some l) : Bnd d (x.map a.eval) l := by
 cases x with
 | none => simp only [evo, Option.map_none, optI, ZO] at hx; exact .inl ⟨rfl, hx.symm⟩
 | some y =>
  have he := h.ev y
  simp only [evo, Z2x] at hx
  unfold optI at hx
  split at hx
  ·rename_i heq; simp at heq
  ·rename_i k n heq
   simp only [ZO] at heq hx
   subst hx
   rw [heq] at he
   exact .inr ⟨k, by rw [Z2x, Z1z he]⟩
  ·simp at hx
variable (h : Good nt w S β sl B a) (hd : ∀ t, o.dst = some t → t < nt)
include h hd
theorem Zhb {t : TypeId} {x : Operand} {lo hi mx : Option Operand} (ho : o.op = .slice t x lo hi mx) (hu : Z3T P t = true) (hm : mx.isSome = false)
  {v : AV} (hv : xslS (ev sl x) (evo sl lo) (evo sl hi) = some v) (hk : K v sl B = some r) : o.wp P a w (Leaves nt m0 o w S β sl B a K r) Q := by
 have he := h.ev x
 cases mx with
 | some y => simp at hm
 | none =>
 have hu' : P.underlying t = some .string := by
  unfold Z3T at hu
  split at hu
  ·assumption
  ·simp at hu
 have hs : execOp a.eval o = (Instr.sliceAt t (a.eval x) (lo.map a.eval) (hi.map a.eval) none).bind fun x => Sem.pure (Next.value x) := by
  unfold execOp
  simp only [ho]
  rfl
 unfold xslS at hv
 split at hv
 ·rename_i s heq
  rw [heq] at he
  have e := Z1z he
  obtain ⟨l, hl, hv1⟩ := ZH hv
  obtain ⟨hh, hhe, hv2⟩ := ZH hv1
  split at hv2
  ·rename_i hb
   simp only [ZO] at hv2
   subst hv2
   refine Z1o h hd hs (v := .string (s.extract l.toNat hh.toNat)) ?_ (.p _ _ (.v _ rfl)) rfl hk
   have := Z4M (P := P) (isSlice := false) (len := s.size) (cap := s.size) (mx := none) (m := s.size) (Z5X h hl) (Z5X h hhe) (.inl ⟨rfl, rfl⟩) hb.1 hb.2.1 hb.2.2 hb.2.2 (Int.le_refl _) (by simp) w
   unfold Instr.sliceAt Instr.slice
   simp [run_underlying hu', e, this]
  ·simp at hv2
 ·simp at hv
theorem Zi7 {t : TypeId} {x : Operand} {lo hi mx : Option Operand} (ho : o.op = .slice t x lo hi mx)
  {v : AV} (hv : xsl (Z3R P t) (ev sl x) (evo sl lo) (evo sl hi) (evo sl mx) = some v) (hmh : mx.isSome = true → hi.isSome = true) (hk : K v sl B = some r) : o.wp P a w (Leaves nt m0 o w S β sl B a K r) Q := by
 have he := h.ev x
 have hs : execOp a.eval o = (Instr.sliceAt t (a.eval x) (lo.map a.eval) (hi.map a.eval) (mx.map a.eval)).bind fun x => Sem.pure (Next.value x) := by
  unfold execOp
  simp only [ho]
  rfl
 obtain ⟨u, hue⟩ : ∃ u, a.eval x = u := ⟨_, rfl⟩
 rw [hue] at he hs
 unfold xsl at hv
 split at hv
 ·rename_i o' xs heq
  rw [heq] at he
  obtain ⟨l, hl, hv1⟩ := ZH hv
  obtain ⟨hh, hhe, hv2⟩ := ZH hv1
  split at hv2
  ·rename_i hb
   obtain ⟨hb1, hb2, hb3, hb4, hb5⟩ := hb
   obtain ⟨e, ti, hu, hi', hsz, _⟩ := Z5J (P := P) rfl hb5
   cases he with
   | p _ _ hp =>
    cases hp with
    | lst _ _ ad cap b off sz g h1 h2 h3 h4 h5 h6 h7 h8 =>
     have hm : ∃ m : Int, Bnd cap (mx.map a.eval) m ∧ hh ≤ m ∧ m ≤ cap ∧ (mx.isSome = true → m = hh) ∧
       ∃ ow, (ow = .nl → o' = .nl) ∧ (ow = .ex → m = hh) ∧ ow ≠ .un ∧ v = .p (.lst ow ((xs.take hh.toNat).drop l.toNat)) := by
      cases mx with
      | none =>
       simp only [evo, Option.map_none, ZO] at hv2
       exact ⟨cap, .inl ⟨rfl, rfl⟩, by omega, Int.le_refl _, by simp, slo o', by cases o' <;> simp [slo], by cases o' <;> simp [slo], by cases o' <;> simp [slo], hv2.symm⟩
      | some y =>
       have hy := h.ev y
       simp only [evo, Z2x] at hv2
       obtain ⟨k, n, hn, hv3⟩ := Z4l hv2
       rw [hn] at hy
       split at hv3
       ·rename_i hc
        simp only [ZO] at hv3
        subst hc
        exact ⟨n, .inr ⟨k, by rw [Z2x, Z1z hy]⟩, Int.le_refl _, by omega, fun _ => rfl, .ex, by simp, fun _ => rfl, by simp, hv3.symm⟩
       ·simp at hv3
     obtain ⟨m, hm1, hm2, hm3, hm4, ow, ho1, ho2, ho3, rfl⟩ := hm
     have hmh' : (mx.map a.eval).isSome = true → (hi.map a.eval).isSome = true := by simpa using hmh
     have hrun := Z4M (P := P) (isSlice := true) (Z5X h hl) (Z5X h hhe) hm1 hb1 hb2 hb3 hm2 hm3 hmh' w
     have hlen : ((xs.take hh.toNat).drop l.toNat).length = hh.toNat - l.toNat := by simp; omega
     refine Z1o h hd hs (v := .slice (if m.toNat = l.toNat then ad else ad.map (·.add (l.toNat * ti.size))) (hh.toNat - l.toNat) (m.toNat - l.toNat)) ?_ (.p _ _ ?_) (by cases ow <;> first | rfl | exact absurd rfl ho3) hk
     ·unfold Instr.sliceAt Instr.slice
      simp [run_underlying hu, run_sizeOf hi', hrun]
     ·rw [← hlen]
      have hne : (xs.take hh.toNat).drop l.toNat ≠ [] → xs ≠ [] ∧ ¬ m.toNat = l.toNat := by
       intro hne
       have : 0 < ((xs.take hh.toNat).drop l.toNat).length := List.length_pos_iff.2 hne
       rw [hlen] at this
       refine ⟨?_, by omega⟩
       rintro rfl
       simp at hb3
       omega
      have hel : ∀ (i : Nat) (e : PV), ((xs.take hh.toNat).drop l.toNat)[i]? = some e → xs[l.toNat + i]? = some e := by
       intro i e hi
       rw [Z63, Z3B] at hi
       split at hi
       ·exact hi
       ·simp at hi
      refine .lst _ _ _ _ b (off + l.toNat * ti.size) sz (fun i j => g (l.toNat + i) j) (by omega) ?_ ?_ ?_ ?_ ?_ ?_ ?_
      ·intro ho'
       have : o' = .nl := ho1 ho'
       obtain ⟨rfl, rfl⟩ := h2 this
       have : m.toNat = l.toNat := by omega
       rw [if_pos this]
       exact ⟨rfl, by omega⟩
      ·intro ho'; rw [ho2 ho']; omega
      ·intro ho'; exact absurd ho' ho3
      ·intro hn
       by_cases hml : m.toNat = l.toNat
       ·omega
       ·rw [if_neg hml] at hn
        have := h5 (by simpa using hn)
        omega
      ·intro hy
       obtain ⟨hx, hml⟩ := hne hy
       obtain ⟨rfl, hs0, hall⟩ := h6 hx
       rw [if_neg hml]
       refine ⟨by simp [Z2F], hs0, fun e he => hall e (Zfu (List.mem_of_mem_drop he))⟩
      ·intro i e j c hie hjc
       have hie' := hel i e hie
       have hx : xs ≠ [] := by rintro rfl; simp at hie'
       have hszz : sz = ti.size := by
        have hh4 : (Z16 e).length = Z3R P t := by
         have := Z2w.1 hb4 e (q7_ hie')
         simpa using this
        rw [← (h6 hx).2.2 e (q7_ hie'), hh4, hsz]
       obtain ⟨q1, q2, q3⟩ := h7 _ e j c hie' hjc
       rw [hszz] at q1 q2 ⊢
       have earith : off + l.toNat * ti.size + (i * ti.size + j) = off + ((l.toNat + i) * ti.size + j) := by
        rw [Z4V]; omega
       rw [earith]
       exact ⟨q1, q2, q3⟩
      ·intro i e j c hie hjc
       exact h8 _ e j c (hel i e hie) hjc
  ·simp at hv2
 ·simp at hv
end
end Go.Abs
end
section
namespace Go.Abs
open Go
section
variable {P : Program} {H : Hints} {f : FuncId} {G : GF} {nt m0 : Nat} {o : Oper} {w : World} {S : Stay} {β : Nat → Nat} {sl : Sl} {B : List Row} {a : Act}
 {K : AV → Sl → List Row → Option Res} {r : Res} {next : Act → World → Prop} {Q : Exit → Act → World → Prop}
variable (h : Good nt w S β sl B a) (hd : ∀ t, o.dst = some t → t < nt)
include h hd
theorem Zmy {t : TypeId} {x i : Operand} (ho : o.op = .index t x i) {v : AV} (hv : xat P t (ev sl x) (ev sl i) = some v) (hk : K v sl B = some r) : o.wp P a w (Leaves nt m0 o w S β sl B a K r) Q := by
 have intOf : ∀ {β' : Type} {k : Int → Option β'} {r' : β'}, asInt (ev sl i) k = some r' → ∃ q j, a.eval i = .int q j ∧ k j = some r' := by
  intro β' k r' hh
  unfold asInt at hh
  split at hh
  ·rename_i q j heq
   have he := h.ev i
   rw [heq] at he
   exact ⟨q, j, Z1z he, hh⟩
  ·simp at hh
 unfold xat at hv
 split at hv
 ·rename_i n e hu
  obtain ⟨s, hs, hv⟩ := ZH hv
  obtain ⟨q, j, hj, hv⟩ := intOf hv
  split at hv
  ·rename_i hb
   obtain ⟨arr, hue, hun, hr1, hr2⟩ := Zci (h.ev x) hv
   obtain ⟨d, inf, hd1, hi, hsz, _⟩ := Z3E (b := s.1) (n := s.2) hs
   have hs' : execOp a.eval o = (Instr.index t (.agg arr) (.int q j)).bind fun x => Sem.pure (Next.value x) := by
    unfold execOp
    simp only [ho, hue, hj]
    rfl
   have hrun : (Instr.index t (.agg arr) (.int q j)).run P w = (part e arr (j.toNat * s.2)).run P w := by
    unfold Instr.index
    simp [run_underlying hu, asIntOf, hb.1, hb.2, run_sizeOf hi, hsz]
   rw [ZcH (n := s.2) (b := s.1) hs] at hrun
   cases hag : s.1 with
   | true =>
    rw [hag] at hrun hr1
    exact Z1o h hd hs' (by rw [hrun]; rfl) (hr1 rfl) hun hk
   | false =>
    rw [hag] at hrun hr2
    obtain ⟨c, hc, hr⟩ := hr2 rfl
    exact Z1o h hd hs' (by rw [hrun, hc]; rfl) hr hun hk
  ·simp at hv
 ·rename_i hu
  split at hv
  ·rename_i b heq
   obtain ⟨q, j, hj, hv⟩ := intOf hv
   split at hv
   ·rename_i h0
    obtain ⟨c, hc, hv⟩ := ZH hv
    simp only [ZO] at hv
    subst hv
    have he := h.ev x
    rw [heq] at he
    have hxv := Z1z he
    have hs' : execOp a.eval o = (Instr.index t (.string b) (.int q j)).bind fun x => Sem.pure (Next.value x) := by
     unfold execOp
     simp only [ho, hxv, hj]
     rfl
    have hrun : (Instr.index t (.string b) (.int q j)).run P w = .ok (.int .u8 c.toNat) w := by
     unfold Instr.index
     simp [run_underlying hu, asIntOf, h0, hc]
    exact Z1o h hd hs' (by rw [hrun]) (.p _ _ (.v _ rfl)) rfl hk
   ·simp at hv
  ·simp at hv
 ·simp at hv
end
end Go.Abs
end
section
namespace Go.Abs
open Go
section
variable {P : Program} {H : Hints} {f : FuncId} {G : GF} {nt m0 : Nat} {o : Oper} {w : World} {S : Stay} {β : Nat → Nat} {sl : Sl} {B : List Row} {a : Act}
 {K : AV → Sl → List Row → Option Res} {r : Res} {next : Act → World → Prop} {Q : Exit → Act → World → Prop}
def Z5I (w : World) (b o : Nat) : Value := (w.cell? ⟨b, o, none⟩).getD undef
theorem Z3n {b o : Nat} {v : Value} (h : w.cell? ⟨b, o, none⟩ = some v) : Z5I w b o = v := by simp [Z5I, h]
theorem ZaN {b off n : Nat} (h : ∀ j, j < n → ∃ v, w.cell? ⟨b, off + j, none⟩ = some v) :
  (loadCells ⟨b, off, none⟩ n).run P w = .ok ((List.range n).map fun j => Z5I w b (off + j)).toArray w := by
 refine run_loadCells (P := P) w ⟨b, off, none⟩ n _ fun j hj => ?_
 obtain ⟨v, hv⟩ := h j hj
 rw [Z2F, hv, Z3n hv]
theorem Z5z {t : TypeId} {d : TypeDesc} {i : TypeInfo} {b off : Nat} (hu : P.underlying t = some d) (hi : P.info? t = some i) (ha : aggT d = true)
  (h : ∀ j, j < i.size → ∃ v, w.cell? ⟨b, off + j, none⟩ = some v) :
  (loadVar t ⟨b, off, none⟩).run P w = .ok (.agg ((List.range i.size).map fun j => Z5I w b (off + j)).toArray) w := by
 unfold loadVar
 simp [Z7e hu, ha, run_sizeOf hi, ZaN h]
theorem Z3N {t : TypeId} {d : TypeDesc} {b off : Nat} {v : Value} (hu : P.underlying t = some d) (ha : aggT d = false) (h : w.cell? ⟨b, off, none⟩ = some v) :
  (loadVar t ⟨b, off, none⟩).run P w = .ok v w := by
 unfold loadVar
 simp [Z7e hu, ha, h]
theorem Z4Q {x : AV} (h : Z1k x = true) : Z1k (shr x) = true := by
 cases x with
 | p x =>
  cases x with
  | lst o xs => cases o <;> rfl
  | tup vs => simp [Z1k, Z2M] at h
  | _ => exact h
 | tup vs => simp [Z1k] at h
 | _ => exact h
theorem range_map_get {α : Type} {f : Nat → α} {n j : Nat} {v : α} (h : (((List.range n).map f).toArray)[j]? = some v) : j < n ∧ v = f j := by
 simp only [List.getElem?_toArray, q6_] at h
 obtain ⟨k, hk, rfl⟩ := q4_.1 h
 have := q1_.1 hk
 obtain ⟨h1, h2⟩ := this
 simp at h1 h2
 exact ⟨h1, by rw [h2]⟩
theorem Zcc {t : TypeId} {ag : Bool} {k : Nat} {x v : AV} {u : Value} (hm : Mem w S β B) (hx : ARel w S β B.length x u) (hs : shape P t = some (ag, k)) (hv : ldN ag k x B = some v) :
  ∃ b off c, u = .pointer (some ⟨b, off, none⟩) ∧ (loadVar t ⟨b, off, none⟩).run P w = .ok c w ∧ ARel w S β B.length v c ∧ isUn v = false := by
 obtain ⟨d, i, hu, hi, hsz, hag, h1⟩ := Z3E hs
 unfold ldN at hv
 split at hv
 ·rename_i id off
  obtain ⟨row, hrow, hv'⟩ := ZH hv
  have hmd : mdOf row = none := by
   cases hd : mdOf row with
   | none => rfl
   | some es => simp [hd] at hv'
  rw [if_neg (by simp [hmd])] at hv'
  cases hx with
  | ptr _ _ hid =>
   cases ag with
   | true =>
    simp only [if_true] at hv'
    split at hv'
    ·rename_i hle
     simp only [ZO] at hv'
     subst hv'
     have hc : ∀ j, j < k → ∃ x v, row[off + j]? = some x ∧ w.cell? ⟨β id, off + j, none⟩ = some v ∧ ARel w S β B.length x v ∧ Z1k x = true := by
      intro j hj
      have hlt : off + j < row.length := by omega
      obtain ⟨v, a1, a2, a3⟩ := hm.cell id row (off + j) row[off + j] hrow hmd (by simp [hlt])
      exact ⟨_, v, by simp [hlt], a1, a2, a3⟩
     refine ⟨β id, off, _, rfl, Z5z hu hi hag.symm (fun j hj => ?_), ?_, Z5S _⟩
     ·obtain ⟨_, v, _, hv, _⟩ := hc j (by omega)
      exact ⟨v, hv⟩
     ·refine Z6Z ?_ ?_ ?_
      ·simp; omega
      ·intro c hc'
       obtain ⟨y, hy, rfl⟩ := Z1B.1 hc'
       obtain ⟨j, hj⟩ := Z62.1 hy
       rw [Z3B] at hj
       split at hj
       ·rename_i hjk
        rw [Z63] at hj
        obtain ⟨x', _, e1, _, _, e4⟩ := hc j hjk
        rw [hj] at e1
        cases e1
        exact ⟨Z4Q e4, Z1w _⟩
       ·simp at hj
      ·intro j c v' hc' hv'
       rw [q6_] at hc'
       obtain ⟨y, hy, rfl⟩ := q4_.1 hc'
       rw [Z3B] at hy
       split at hy
       ·rename_i hjk
        rw [Z63] at hy
        obtain ⟨x', v2, e1, e2, e3, e4⟩ := hc j hjk
        rw [hy] at e1
        cases e1
        obtain ⟨_, rfl⟩ := range_map_get hv'
        rw [Z3n e2]
        exact e3.shr
       ·simp at hy
    ·simp at hv'
   | false =>
    obtain ⟨c, hc, hv2⟩ := ZH hv'
    simp only [ZO] at hv2
    subst hv2
    obtain ⟨v, a1, a2, a3⟩ := hm.cell id row off c hrow hmd hc
    exact ⟨β id, off, v, rfl, Z3N hu hag.symm a1, a2.shr, Z1w _⟩
 ·rename_i cs
  cases hx with
  | cptr _ b off g hg =>
   cases ag with
   | true =>
    simp only [if_true] at hv
    split at hv
    ·rename_i hle
     simp only [ZO] at hv
     subst hv
     have hc : ∀ j, j < k → ∃ c, cs[j]? = some c := fun j hj => ⟨cs[j], by simp⟩
     refine ⟨b, off, _, rfl, Z5z hu hi hag.symm (fun j hj => ?_), ?_, rfl⟩
     ·obtain ⟨c, hc⟩ := hc j (by omega)
      exact ⟨_, (hg j c hc).1⟩
     ·refine .p _ _ (.agg _ _ ?_ ?_ ?_)
      ·simp; omega
      ·intro c hc'
       obtain ⟨j, hj⟩ := Z62.1 (Zfu hc')
       exact (hg j c hj).2.2.1
      ·intro j c v' hc' hv'
       rw [Z3B] at hc'
       split at hc'
       ·obtain ⟨_, rfl⟩ := range_map_get hv'
        rw [Z3n (hg j c hc').1]
        exact (hg j c hc').2.2.2
       ·simp at hc'
    ·simp at hv
   | false =>
    obtain ⟨c, hc, hv2⟩ := ZH hv
    simp only [ZO] at hv2
    subst hv2
    obtain ⟨a1, _, a3, a4⟩ := hg 0 c hc
    exact ⟨b, off, _, rfl, Z3N hu hag.symm a1, .p _ _ a4, (Z74 a3).2⟩
 ·simp at hv
variable (h : Good nt w S β sl B a) (hd : ∀ t, o.dst = some t → t < nt)
include h hd
theorem Zkf {t : TypeId} {x : Operand} {ag : Bool} {k : Nat} (ho : o.op = .load t x) (hs : shape P t = some (ag, k)) {v : AV} (hv : ldN ag k (ev sl x) B = some v) (hk : K v sl B = some r) :
  o.wp P a w (Leaves nt m0 o w S β sl B a K r) Q := by
 obtain ⟨b, off, c, hu, hrun, hr, hun⟩ := Zcc h.mem (h.ev x) hs hv
 refine Z1o h hd (s := Instr.loadAt t (a.eval x)) (by unfold execOp; simp only [ho]; rfl) (v := c) ?_ hr hun hk
 unfold Instr.loadAt
 simp [hu, Instr.sureAddr, hrun]
omit h hd in
theorem Z6w : ∀ {xs : List PV} {l : List UInt8}, bytesOf xs = some l → l.length = xs.length ∧ ∀ (i : Nat) (x : PV), xs[i]? = some x → ∃ n : Int, x = .v (.int .u8 n) ∧ l[i]? = some (UInt8.ofNat n.toNat)
 | [], l, h => by simp [bytesOf] at h; subst h; simp
 | x :: r, l, h => by
  simp only [bytesOf] at h
  split at h
  ·rename_i b bs hb hbs
   simp only [ZO] at h
   subst h
   obtain ⟨h1, h2⟩ := Z6w hbs
   refine ⟨by simp [h1], ?_⟩
   intro i y hy
   cases i with
   | zero =>
    simp at hy
    subst hy
    unfold byteOf at hb
    split at hb
    ·simp only [ZO] at hb
     exact ⟨_, rfl, by simp [hb]⟩
    ·simp at hb
   | succ i => exact h2 i y (by simpa using hy)
  ·simp at h
omit h hd in
theorem Z7L : ∀ (ns : List Int) (b : ByteArray), ns.foldl (fun r n => r.push (UInt8.ofNat n.toNat)) b = ⟨b.data ++ (ns.map fun n => UInt8.ofNat n.toNat).toArray⟩
 | [], b => by simp
 | n :: ns, b => by
  rw [Zfo, Z7L ns]
  congr 1
  apply Array.ext'
  simp [ByteArray.push]
theorem Zma {s d : TypeId} {x : Operand} (ho : o.op = .convert s d x) (hd' : Z3T P d = true) (hs : Z2B P s .u8 = true) {v : AV} (hv : xstr (ev sl x) = some v) (hk : K v sl B = some r) :
  o.wp P a w (Leaves nt m0 o w S β sl B a K r) Q := by
 have he := h.ev x
 have hud : P.underlying d = some .string := by
  unfold Z3T at hd'
  split at hd'
  ·assumption
  ·simp at hd'
 obtain ⟨e, hus, hue⟩ : ∃ e, P.underlying s = some (.slice e) ∧ P.underlying e = some (.int .u8) := by
  unfold Z2B at hs
  split at hs
  ·rename_i e hh
   refine ⟨e, hh, ?_⟩
   split at hs
   ·rename_i k hk'
    have : k = .u8 := by cases k <;> simp_all (config := { decide := true })
    rw [hk', this]
   ·simp at hs
  ·simp at hs
 obtain ⟨u, hue'⟩ : ∃ u, a.eval x = u := ⟨_, rfl⟩
 rw [hue'] at he
 unfold xstr at hv
 split at hv
 ·rename_i o' xs heq
  obtain ⟨l, hl, rfl⟩ := q4_.1 hv
  obtain ⟨l1, l2⟩ := Z6w hl
  rw [heq] at he
  cases he with
  | p _ _ hp =>
   cases hp with
   | lst _ _ ad cap b off sz g h1 h2 h3 h4 h5 h6 h7 h8 =>
    refine Z1o h hd (s := convert s d (a.eval x)) (by unfold execOp; simp only [ho]; rfl) (v := .string ⟨l.toArray⟩) ?_ (.p _ _ (.v _ rfl)) rfl hk
    have hcv : (convert s d (.slice ad xs.length cap)).run P w = (Conv.bytesToString (.slice ad xs.length cap)).run P w := by
     unfold convert
     simp [run_underlying hus, run_underlying hud, run_underlying hue]
    rw [hue', hcv]
    cases hxs : xs with
    | nil =>
     rw [hxs] at l1
     have : l = [] := Zcm.1 (by simpa using l1)
     subst this
     cases ad with
     | none => rfl
     | some ad =>
      have := run_bytesToString (P := P) w ad 0 cap [] (by simp [loadCells, loadCellsFrom])
      simp only [Zmb] at this
      exact this
    | cons y ys =>
     have hne : xs ≠ [] := by rw [hxs]; simp
     rw [← hxs]
     obtain ⟨rfl, hs0, hall⟩ := h6 hne
     have hsz : sz = 1 := by
      obtain ⟨n, hn, _⟩ := l2 0 y (by rw [hxs]; rfl)
      rw [← hall y (by rw [hxs]; simp), hn]
      rfl
     subst hsz
     have hcell : ∀ (i : Nat) (z : PV), xs[i]? = some z → ∃ n : Int, w.cell? ⟨b, off + i, none⟩ = some (.int .u8 n) ∧ l[i]? = some (UInt8.ofNat n.toNat) := by
      intro i z hz
      obtain ⟨n, rfl, hln⟩ := l2 i z hz
      obtain ⟨a1, _, _⟩ := h7 i _ 0 _ hz rfl
      have := h8 i _ 0 _ hz rfl
      have hg : g i 0 = .int .u8 n := by
       generalize g i 0 = q at this
       cases this with | v _ _ => rfl
      refine ⟨n, ?_, hln⟩
      rw [← hg, ← a1]
      simp
     have key : ∃ ns : List Int, ns.length = xs.length ∧ (∀ (i : Nat) (n : Int), ns[i]? = some n → w.cell? ⟨b, off + i, none⟩ = some (.int .u8 n)) ∧ ns.map (fun n => UInt8.ofNat n.toNat) = l := by
      refine ⟨(List.range xs.length).map fun i => match Z5I w b (off + i) with | .int _ n => n | _ => 0, by simp, ?_, ?_⟩
      ·intro i n hn
       rw [q6_] at hn
       obtain ⟨k, hk, rfl⟩ := q4_.1 hn
       have hk2 := q1_.1 hk
       obtain ⟨q1, q2⟩ := hk2
       simp at q1 q2
       subst q2
       obtain ⟨n, c1, _⟩ := hcell i xs[i] (by simp [q1])
       rw [c1, Z3n c1]
      ·apply Z7b
       intro i
       by_cases hi : i < xs.length
       ·obtain ⟨n, c1, c2⟩ := hcell i xs[i] (by simp [hi])
        rw [c2]
        simp [hi, Z3n c1]
       ·rw [Z3L (by simp; omega), Z3L (by omega)]
     obtain ⟨ns, n1, n2, n3⟩ := key
     have hload : (loadCells ⟨b, off, none⟩ xs.length).run P w = .ok (ns.map (Value.int .u8)).toArray w := by
      have := run_loadCells_list (P := P) w ⟨b, off, none⟩ (ns.map (Value.int .u8)) (by
       intro j v hj
       rw [q6_] at hj
       obtain ⟨n, hn, rfl⟩ := q4_.1 hj
       rw [Z2F]
       exact n2 j n hn)
      simpa [n1] using this
     rw [run_bytesToString w _ xs.length cap ns hload, Z7L, n3]
     simp
 ·simp at hv
end
end Go.Abs
end
section
namespace Go.Abs
open Go
theorem cell_of_heap {w w' : World} {b o : Nat} (h : w'.heap[b]? = w.heap[b]?) : w'.cell? ⟨b, o, none⟩ = w.cell? ⟨b, o, none⟩ := by
 unfold World.cell?
 rw [h]
theorem Z2v {w : World} {b o : Nat} {cs : Array Value} {ty : TypeId} {fr : Nat × Nat} (h : w.heap[b]? = some (.cells cs ty fr)) : w.cell? ⟨b, o, none⟩ = cs[o]? := by
 unfold World.cell?
 rw [h]
 simp
theorem lt_of_heap {w : World} {b : Nat} {x : Obj} (h : w.heap[b]? = some x) : b < w.heap.size := (Z2z.1 h).1
theorem UnOk.world {w w' : World} {S S' : Stay} {x : AV} {v : Value} (h : UnOk w S x v) (hh : ∀ b, Z1g v = some b → w'.heap[b]? = w.heap[b]? ∧ ∀ o, S' b o → S b o) : UnOk w' S' x v := by
 obtain ⟨xs, b, off, len, cap, cs, ty, sz, e1, e2, e3, e4, e5, e6, e7, e8, e9⟩ := h
 obtain ⟨q1, q2⟩ := hh b (by rw [e2]; rfl)
 exact ⟨xs, b, off, len, cap, cs, ty, sz, e1, e2, q1.trans e3, e4, e5, e6, e7, fun o ho hs => e8 o ho (q2 o hs), e9⟩
theorem UnOk.blk {w : World} {S : Stay} {x : AV} {v : Value} (h : UnOk w S x v) : ∃ b, Z1g v = some b ∧ b < w.heap.size := by
 obtain ⟨xs, b, off, len, cap, cs, ty, sz, e1, e2, e3, _⟩ := h
 exact ⟨b, by rw [e2]; rfl, lt_of_heap e3⟩
theorem Good.world {nt : Nat} {w w' : World} {S S' : Stay} {β : Nat → Nat} {sl : Sl} {B : List Row} {a : Act} (h : Good nt w S β sl B a) (hk : Keeps w S w' S')
  (hb : ∀ i, i < B.length → w'.heap[β i]? = w.heap[β i]? ∧ ∀ o, ¬ S' (β i) o) (hst : ∀ b o, S' b o → b < w'.heap.size)
  (hun : ∀ l x v, Here nt sl a.tmps B β w l x v → isUn x = true → UnOk w' S' x v) : Good nt w' S' β sl B a := by
 have cell : ∀ id r, B[id]? = some r → ∀ j, w'.cell? ⟨β id, j, none⟩ = w.cell? ⟨β id, j, none⟩ := by
  intro id r hr j
  exact cell_of_heap (hb id (q1_.1 hr).1).1
 have back : ∀ l x v, Here nt sl a.tmps B β w' l x v → Here nt sl a.tmps B β w l x v := by
  intro l x v hl
  cases l with
  | slot t => exact hl
  | box id j =>
   obtain ⟨row, h1, h2, h3⟩ := hl
   exact ⟨row, h1, h2, (cell id row h1 j) ▸ h3⟩
 refine ⟨h.size, h.defers, ?_, h.high, ?_, ?_⟩
 ·intro t ht
  exact (h.slots t ht).keeps hk (fun _ _ => rfl) (Z1y _)
 ·refine ⟨?_, ?_, h.mem.inj, fun i hi => (hb i hi).2, hst, fun id r es hr hm => (h.mem.maps id r es hr hm).keeps hk (hb id (q1_.1 hr).1).1⟩
  ·intro id r hr hm
   obtain ⟨cs, ty, q1, q2⟩ := h.mem.row id r hr hm
   exact ⟨cs, ty, (hb id (q1_.1 hr).1).1.trans q1, q2⟩
  ·intro id r j x hr hm hx
   obtain ⟨v, q1, q2, q3⟩ := h.mem.cell id r j x hr hm hx
   exact ⟨v, (cell id r hr j).trans q1, q2.keeps hk (fun _ _ => rfl) (Z1y _), q3⟩
 ·refine ⟨?_, ?_⟩
  ·intro l x v hl hu
   exact ⟨hun l x v (back l x v hl) hu, (h.uns.ok l x v (back l x v hl) hu).2⟩
  ·intro l l' x x' v v' hl hl' hu hu' e
   exact h.uns.inj l l' x x' v v' (back l x v hl) (back l' x' v' hl') hu hu' e
structure Fresh (w w' : World) (arr : Array Value) (ty : TypeId) (fr : Nat × Nat := (0, 0)) : Prop where
 heap : w'.heap = w.heap.push (.cells arr ty fr)
 os : w'.os = w.os
 tape : w'.tape = w.tape
 output : w'.output = w.output
theorem Fresh.old {w w' : World} {arr : Array Value} {ty : TypeId} {fr : Nat × Nat} (h : Fresh w w' arr ty fr) {b : Nat} (hb : b < w.heap.size) : w'.heap[b]? = w.heap[b]? := by
 rw [h.heap, Zad]
 simp [Nat.ne_of_lt hb]
theorem Fresh.new {w w' : World} {arr : Array Value} {ty : TypeId} {fr : Nat × Nat} (h : Fresh w w' arr ty fr) : w'.heap[w.heap.size]? = some (.cells arr ty fr) := by
 rw [h.heap]
 simp
theorem Fresh.size {w w' : World} {arr : Array Value} {ty : TypeId} {fr : Nat × Nat} (h : Fresh w w' arr ty fr) : w'.heap.size = w.heap.size + 1 := by
 rw [h.heap]
 simp
def Stay.more (S : Stay) (c k : Nat) : Stay := fun b o => S b o ∨ (b = c ∧ o < k)
theorem Mem.lt {w : World} {S : Stay} {β : Nat → Nat} {B : List Row} (h : Mem w S β B) {i : Nat} (hi : i < B.length) : β i < w.heap.size := by
 cases hm : mdOf B[i] with
 | none =>
  obtain ⟨cs, ty, q, _⟩ := h.row i B[i] (by simp [hi]) hm
  exact lt_of_heap q
 | some es =>
  obtain ⟨ents, clock, q, _⟩ := h.maps i B[i] es (by simp [hi]) hm
  exact (Z2z.1 q).1
theorem Fresh.keeps {w w' : World} {arr : Array Value} {ty : TypeId} {fr : Nat × Nat} {S : Stay} (h : Fresh w w' arr ty fr) (hs : ∀ b o, S b o → b < w.heap.size) (k : Nat) : Keeps w S w' (S.more w.heap.size k) :=
 ⟨fun _ _ hs => .inl hs, fun b o hb => cell_of_heap (h.old (hs b o hb))⟩
theorem Good.fresh {nt : Nat} {w w' : World} {S : Stay} {β : Nat → Nat} {sl : Sl} {B : List Row} {a : Act} {arr : Array Value} {ty : TypeId} {fr : Nat × Nat} (h : Good nt w S β sl B a) (hf : Fresh w w' arr ty fr) (k : Nat) :
  Good nt w' (S.more w.heap.size k) β sl B a := by
 refine h.world (hf.keeps h.mem.stay k) ?_ ?_ ?_
 ·intro i hi
  have := h.mem.lt hi
  refine ⟨hf.old this, fun o ho => ?_⟩
  rcases ho with ho | ⟨e, _⟩
  ·exact h.mem.apart i hi o ho
  ·omega
 ·intro b o hb
  rw [hf.size]
  rcases hb with hb | ⟨e, _⟩
  ·have := h.mem.stay b o hb; omega
  ·omega
 ·intro l x v hl hu
  have hok := (h.uns.ok l x v hl hu).1
  refine hok.world fun b hb => ?_
  obtain ⟨b', hb', hlt⟩ := hok.blk
  rw [hb] at hb'
  cases hb'
  refine ⟨hf.old hlt, fun o ho => ?_⟩
  rcases ho with ho | ⟨e, _⟩
  ·exact ho
  ·omega
theorem UB.world {nt : Nat} {w w' : World} {S : Stay} {β : Nat → Nat} {sl : Sl} {B : List Row} {a : Act} (_h : Mem w S β B) (hb : ∀ i, i < B.length → w'.heap[β i]? = w.heap[β i]?) {b : Nat}
  (hu : UB (Here nt sl a.tmps B β w') b) : UB (Here nt sl a.tmps B β w) b := by
 obtain ⟨l, x, v, hl, h1, h2⟩ := hu
 refine ⟨l, x, v, ?_, h1, h2⟩
 cases l with
 | slot t => exact hl
 | box id j =>
  obtain ⟨row, q1, q2, q3⟩ := hl
  exact ⟨row, q1, q2, (cell_of_heap (hb id (q1_.1 q1).1)) ▸ q3⟩
theorem UB.lt {nt : Nat} {w : World} {S : Stay} {β : Nat → Nat} {sl : Sl} {B : List Row} {a : Act} (h : Good nt w S β sl B a) {b : Nat} (hu : UB (Here nt sl a.tmps B β w) b) : b < w.heap.size := by
 obtain ⟨l, x, v, hl, h1, h2⟩ := hu
 obtain ⟨b', q1, q2⟩ := (h.uns.ok l x v hl h1).1.blk
 rw [h2] at q1
 cases q1
 exact q2
theorem Z3y {nt m0 : Nat} {o : Oper} {w w' : World} {S : Stay} {β : Nat → Nat} {sl sl' : Sl} {B : List Row} {a : Act} {K : AV → Sl → List Row → Option Res} {r : Res} {arr : Array Value} {ty : TypeId} {fr : Nat × Nat}
  (h : Good nt w S β sl B a) (hd : ∀ t, o.dst = some t → t < nt) (h' : Good nt w S β sl' B a) (hsl : ∀ t, t < nt → get sl' t = get sl t ∨ isUn (get sl' t) = false)
  (hf : Fresh w w' arr ty fr) (k : Nat) {x : AV} {v : Value} (hx : ARel w' (S.more w.heap.size k) β B.length x v)
  (hu : isUn x = true → UnOk w' (S.more w.heap.size k) x v ∧ Z1g v = some w.heap.size) (hk : K x sl' B = some r) :
  Leaves nt m0 o w S β sl B a K r (a.put o.dst v) w' := by
 have hg := h'.fresh hf k
 have hbx : ∀ i, i < B.length → w'.heap[β i]? = w.heap[β i]? := fun i hi => hf.old (h.mem.lt hi)
 have step : ∀ (U' : Nat → Prop), (∀ b, U' b → UB (Here nt sl a.tmps B β w) b ∨ w.heap.size ≤ b) → Step m0 w S β B.length (UB (Here nt sl a.tmps B β w)) w' (S.more w.heap.size k) β B.length U' := by
  intro U' hU
  refine ⟨hf.keeps h.mem.stay k, by rw [hf.size]; omega, hf.os, hf.tape, hf.output, fun hm => ⟨hm, fun _ _ => rfl⟩, fun i hi => .inl ⟨i, hi, rfl, id⟩, hU, ?_, ?_⟩
  ·intro b o' hs
   rcases hs with hs | ⟨e, _⟩
   ·exact .inl hs
   ·exact .inr (.inl (by omega))
  ·intro b hb _ _
   exact hf.old hb
 have hUB : ∀ b, UB (Here nt sl' a.tmps B β w') b → UB (Here nt sl a.tmps B β w) b := fun b hb => UB.reslot hsl b (UB.world h.mem hbx hb)
 refine ⟨x, sl', B, S.more w.heap.size k, β, hk, ?_, ?_⟩
 ·cases hdd : o.dst with
  | none => exact hg
  | some d =>
   refine hg.putUn (hd d hdd) hx ?_ ?_
   ·intro hx'
    obtain ⟨q1, q2⟩ := hu hx'
    refine ⟨q1, fun i hi e => ?_⟩
    rw [q2] at e
    have := h.mem.lt hi
    simp only [ZO] at e
    omega
   ·intro l y u hl hy hx' e
    rw [(hu hx').2] at e
    have : UB (Here nt sl a.tmps B β w) w.heap.size := hUB _ ⟨l, y, u, hl, hy, e⟩
    have := UB.lt h this
    omega
 ·refine step _ fun b hb => ?_
  cases hdd : o.dst with
  | none => rw [hdd] at hb; exact .inl (hUB b hb)
  | some d =>
   rw [hdd] at hb
   rcases UB.putUn h.size (hd d hdd) b hb with hb | ⟨q1, q2⟩
   ·exact .inl (hUB b hb)
   ·rw [(hu q1).2] at q2
    simp only [ZO] at q2
    exact .inr (by omega)
def newβ (β : Nat → Nat) (n c : Nat) : Nat → Nat := fun i => if i = n then c else β i
theorem Z2l {β : Nat → Nat} {n c i : Nat} (h : i < n) : newβ β n c i = β i := by simp [newβ, Nat.ne_of_lt h]
theorem Z1l {β : Nat → Nat} {n c : Nat} : newβ β n c n = c := by simp [newβ]
theorem Good.box {nt : Nat} {w w' : World} {S : Stay} {β : Nat → Nat} {sl : Sl} {B : List Row} {a : Act} {arr : Array Value} {ty : TypeId} {row : Row} (h : Good nt w S β sl B a) (hf : Fresh w w' arr ty)
  (hs : arr.size = row.length) (hr : ∀ (j : Nat) (x : AV) (v : Value), row[j]? = some x → arr[j]? = some v → ARel w S β B.length x v ∧ Z1k x = true ∧
   (isUn x = true → row.length = 1 ∧ UnOk w S x v ∧ (∀ i, i < B.length → Z1g v ≠ some (β i)) ∧ ∀ l y u, Here nt sl a.tmps B β w l y u → isUn y = true → Z1g u ≠ Z1g v)) :
  Good nt w' S (newβ β B.length w.heap.size) sl (B ++ [row]) a := by
 have hk : Keeps w S w' S := ⟨fun _ _ h => h, fun b o hb => cell_of_heap (hf.old (h.mem.stay b o hb))⟩
 have hn : B.length ≤ (B ++ [row]).length := by simp
 have hβ : ∀ i, i < B.length → newβ β B.length w.heap.size i = β i := fun i hi => Z2l hi
 have hcell : ∀ j, w'.cell? ⟨w.heap.size, j, none⟩ = arr[j]? := fun j => Z2v hf.new
 have hget : ∀ {id : Nat} {r : Row}, (B ++ [row])[id]? = some r → (B[id]? = some r ∧ id < B.length) ∨ (id = B.length ∧ r = row) := by
  intro id r hr
  rw [Z3M] at hr
  split at hr
  ·exact .inl ⟨hr, ‹_›⟩
  ·rename_i hlt
   right
   have : id - B.length = 0 := by
    rcases Z64 (id - B.length) with e | e
    ·exact e
    ·rw [Z3L (by simp; omega)] at hr; simp at hr
   rw [this] at hr
   simp at hr
   exact ⟨by omega, hr.symm⟩
 have back : ∀ l x v, Here nt sl a.tmps (B ++ [row]) (newβ β B.length w.heap.size) w' l x v → isUn x = true →
   Here nt sl a.tmps B β w l x v ∨ (l = .box B.length 0 ∧ row[0]? = some x ∧ arr[0]? = some v ∧ row.length = 1) := by
  intro l x v hl hu
  cases l with
  | slot t => exact .inl hl
  | box id j =>
   obtain ⟨r, q1, q2, q3⟩ := hl
   rcases hget q1 with ⟨q, hlt⟩ | ⟨rfl, rfl⟩
   ·left
    rw [hβ id hlt, cell_of_heap (hf.old (h.mem.lt hlt))] at q3
    exact ⟨r, q, q2, q3⟩
   ·right
    rw [Z1l, hcell] at q3
    obtain ⟨_, _, q5⟩ := hr j x v q2 q3
    obtain ⟨q6, _⟩ := q5 hu
    have : j < r.length := (q1_.1 q2).1
    have : j = 0 := by omega
    subst this
    exact ⟨rfl, q2, q3, q6⟩
 have ok' : ∀ x v, UnOk w S x v → UnOk w' S x v := by
  intro x v hok
  refine hok.world fun b hb => ?_
  obtain ⟨b', hb', hlt⟩ := hok.blk
  rw [hb] at hb'
  cases hb'
  exact ⟨hf.old hlt, fun _ h => h⟩
 have nb : ∀ x v, UnOk w S x v → (∀ i, i < B.length → Z1g v ≠ some (β i)) → ∀ i, i < (B ++ [row]).length → Z1g v ≠ some (newβ β B.length w.heap.size i) := by
  intro x v hok hb i hi e
  rcases Z22 i B.length with hlt | hge
  ·rw [hβ i hlt] at e; exact hb i hlt e
  ·have : i = B.length := by simp at hi; omega
   subst this
   rw [Z1l] at e
   obtain ⟨b', hb', hlt⟩ := hok.blk
   rw [e] at hb'
   simp only [ZO] at hb'
   omega
 refine ⟨h.size, h.defers, ?_, h.high, ?_, ?_⟩
 ·intro t ht
  exact (h.slots t ht).keeps hk hβ hn
 ·refine ⟨?_, ?_, ?_, ?_, ?_, ?_⟩
  ·intro id r hr' hm
   rcases hget hr' with ⟨q, hlt⟩ | ⟨rfl, rfl⟩
   ·obtain ⟨cs, ty, q1, q2⟩ := h.mem.row id r q hm
    exact ⟨cs, ty, by rw [hβ id hlt, hf.old (h.mem.lt hlt)]; exact q1, q2⟩
   ·exact ⟨arr, ty, by rw [Z1l]; exact hf.new, hs⟩
  ·intro id r j x hr' hm hx
   rcases hget hr' with ⟨q, hlt⟩ | ⟨rfl, rfl⟩
   ·obtain ⟨v, q1, q2, q3⟩ := h.mem.cell id r j x q hm hx
    exact ⟨v, by rw [hβ id hlt, cell_of_heap (hf.old (h.mem.lt hlt))]; exact q1, q2.keeps hk hβ hn, q3⟩
   ·have hj : j < arr.size := by rw [hs]; exact (q1_.1 hx).1
    obtain ⟨q1, q2, _⟩ := hr j x arr[j] hx (by simp [hj])
    exact ⟨arr[j], by rw [Z1l, hcell]; simp [hj], q1.keeps hk hβ hn, q2⟩
  ·intro i j hi hj e
   simp only [Z2J, Z38, Z3p] at hi hj
   rcases Z22 i B.length with hi' | hi' <;> rcases Z22 j B.length with hj' | hj'
   ·rw [hβ i hi', hβ j hj'] at e; exact h.mem.inj i j hi' hj' e
   ·have : j = B.length := by omega
    subst this
    rw [hβ i hi', Z1l] at e
    have := h.mem.lt hi'
    omega
   ·have : i = B.length := by omega
    subst this
    rw [hβ j hj', Z1l] at e
    have := h.mem.lt hj'
    omega
   ·omega
  ·intro i hi o ho
   simp only [Z2J, Z38, Z3p] at hi
   rcases Z22 i B.length with hi' | hi'
   ·rw [hβ i hi'] at ho; exact h.mem.apart i hi' o ho
   ·have : i = B.length := by omega
    subst this
    rw [Z1l] at ho
    have := h.mem.stay _ _ ho
    omega
  ·intro b o hb
   rw [hf.size]
   have := h.mem.stay b o hb
   omega
  ·intro id r es hr' hm
   rcases hget hr' with ⟨q, hlt⟩ | ⟨rfl, rfl⟩
   ·have := (h.mem.maps id r es q hm).keeps hk (hf.old (h.mem.lt hlt))
    rw [hβ id hlt]
    exact this
   ·have e := Z5u hm
    have h0 : 0 < arr.size := by rw [hs, e]; simp
    obtain ⟨_, q2, _⟩ := hr 0 (.md es) arr[0] (by rw [e]; rfl) (by simp [h0])
    simp [Z1k] at q2
 ·refine ⟨?_, ?_⟩
  ·intro l x v hl hu
   rcases back l x v hl hu with hb | ⟨rfl, q1, q2, q3⟩
   ·obtain ⟨q1, q2⟩ := h.uns.ok l x v hb hu
    exact ⟨ok' x v q1, nb x v q1 q2⟩
   ·obtain ⟨_, _, q4⟩ := hr 0 x v q1 q2
    obtain ⟨_, q5, q6, _⟩ := q4 hu
    exact ⟨ok' x v q5, nb x v q5 q6⟩
  ·intro l l' x x' v v' hl hl' hu hu' e
   rcases back l x v hl hu with hb | ⟨rfl, q1, q2, q3⟩ <;> rcases back l' x' v' hl' hu' with hb' | ⟨rfl, q1', q2', q3'⟩
   ·exact h.uns.inj l l' x x' v v' hb hb' hu hu' e
   ·obtain ⟨_, _, q4⟩ := hr 0 x' v' q1' q2'
    exact absurd e ((q4 hu').2.2.2 l x v hb hu)
   ·obtain ⟨_, _, q4⟩ := hr 0 x v q1 q2
    exact absurd e.symm ((q4 hu).2.2.2 l' x' v' hb' hu')
   ·rfl
theorem Z9s {nt m0 : Nat} {o : Oper} {w w' : World} {S : Stay} {β : Nat → Nat} {sl sl' : Sl} {B : List Row} {a : Act} {K : AV → Sl → List Row → Option Res} {r : Res} {arr : Array Value} {ty : TypeId} {row : Row}
  (h : Good nt w S β sl B a) (hd : ∀ t, o.dst = some t → t < nt) (h' : Good nt w S β sl' B a) (hsl : ∀ t, t < nt → get sl' t = get sl t ∨ isUn (get sl' t) = false)
  (hf : Fresh w w' arr ty) (hs : arr.size = row.length) (hr : ∀ (j : Nat) (x : AV) (v : Value), row[j]? = some x → arr[j]? = some v → ARel w S β B.length x v ∧ Z1k x = true ∧
   (isUn x = true → row.length = 1 ∧ UnOk w S x v ∧ (∀ i, i < B.length → Z1g v ≠ some (β i)) ∧ (∀ l y u, Here nt sl' a.tmps B β w l y u → isUn y = true → Z1g u ≠ Z1g v) ∧ ∃ b, Z1g v = some b ∧ UB (Here nt sl a.tmps B β w) b))
  (hk : K (.ptr B.length 0) sl' (B ++ [row]) = some r) :
  Leaves nt m0 o w S β sl B a K r (a.put o.dst (.pointer (some ⟨w.heap.size, 0, none⟩))) w' := by
 have hg := h'.box hf hs fun j x v hx hv => ⟨(hr j x v hx hv).1, (hr j x v hx hv).2.1, fun hu => ⟨((hr j x v hx hv).2.2 hu).1, ((hr j x v hx hv).2.2 hu).2.1, ((hr j x v hx hv).2.2 hu).2.2.1, ((hr j x v hx hv).2.2 hu).2.2.2.1⟩⟩
 have hv : ARel w' S (newβ β B.length w.heap.size) (B ++ [row]).length (.ptr B.length 0) (.pointer (some ⟨w.heap.size, 0, none⟩)) := by
  have := ARel.ptr (w := w') (S := S) (β := newβ β B.length w.heap.size) (n := (B ++ [row]).length) B.length 0 (by simp)
  rwa [Z1l] at this
 have hUB : ∀ b, UB (Here nt sl' a.tmps (B ++ [row]) (newβ β B.length w.heap.size) w') b → UB (Here nt sl a.tmps B β w) b := by
  intro b hb
  obtain ⟨l, x, v, hl, hu, hbb⟩ := hb
  cases l with
  | slot t => exact UB.reslot hsl b ⟨.slot t, x, v, hl, hu, hbb⟩
  | box id j =>
   obtain ⟨r', q1, q2, q3⟩ := hl
   rw [Z3M] at q1
   split at q1
   ·rename_i hlt
    rw [Z2l hlt, cell_of_heap (hf.old (h.mem.lt hlt))] at q3
    exact ⟨.box id j, x, v, ⟨r', q1, q2, q3⟩, hu, hbb⟩
   ·rename_i hlt
    have e0 : id - B.length = 0 := by
     rcases Z64 (id - B.length) with e | e
     ·exact e
     ·rw [Z3L (by simp; omega)] at q1; simp at q1
    rw [e0] at q1
    simp at q1
    subst q1
    have : id = B.length := by omega
    subst this
    rw [Z1l, Z2v hf.new] at q3
    obtain ⟨b', q5, q6⟩ := ((hr j x v q2 q3).2.2 hu).2.2.2.2
    rw [hbb] at q5
    cases q5
    exact q6
 refine ⟨.ptr B.length 0, sl', B ++ [row], S, newβ β B.length w.heap.size, hk, hg.put hd hv rfl, ?_⟩
 refine ⟨⟨fun _ _ h => h, fun b o hb => cell_of_heap (hf.old (h.mem.stay b o hb))⟩, by rw [hf.size]; omega, hf.os, hf.tape, hf.output, ?_, ?_, ?_, fun b o' hs => .inl hs, fun b hb _ _ => hf.old hb⟩
 ·intro hm
  refine ⟨by simp; omega, fun i hi => Z2l (by omega)⟩
 ·intro i hi
  simp only [Z2J, Z38, Z3p] at hi
  rcases Z22 i B.length with hi' | hi'
  ·exact .inl ⟨i, hi', Z2l hi', id⟩
  ·have : i = B.length := by omega
   subst this
   exact .inr (by rw [Z1l]; exact Z1y _)
 ·intro b hb
  exact .inl (hUB b (UB.put h.size hd rfl b hb))
end Go.Abs
end
section
namespace Go.Abs
open Go
theorem cells_one {v : Value} (h : cellV v = true) : v.cells = #[v] := by
 cases v <;> first | rfl | (simp [cellV] at h)
theorem ARel.cellV {w : World} {S : Stay} {β : Nat → Nat} {n : Nat} {x : AV} {v : Value} (h : ARel w S β n x v) (hx : Z1k x = true) : cellV v = true := by
 cases h with
 | p _ _ hp => exact hp.cellV hx
 | ptr => rfl
 | mp => rfl
 | cptr => rfl
 | clo => rfl
 | agg => simp [Z1k] at hx
 | tup => simp [Z1k] at hx
theorem Z2V {w : World} {S : Stay} {β : Nat → Nat} {n : Nat} {x : AV} {v : Value} (hr : ARel w S β n x v) (hx : Z1k x = true) (he : Z1h x = [x]) :
  v.cells.size = (Z1h x).length ∧ ∀ (j : Nat) (c : AV) (u : Value), (Z1h x)[j]? = some c → v.cells[j]? = some u → ARel w S β n c u ∧ Z1k c = true ∧ (isUn c = true → Z1h x = [x] ∧ c = x ∧ u = v) := by
 rw [he, cells_one (hr.cellV hx)]
 refine ⟨rfl, ?_⟩
 intro j c u hc hu
 cases j with
 | zero => simp at hc hu; subst hc; subst hu; exact ⟨hr, hx, fun _ => ⟨rfl, rfl, rfl⟩⟩
 | succ j => simp at hc
theorem Z2W {w : World} {S : Stay} {β : Nat → Nat} {n : Nat} {x : AV} {v : Value} (hr : ARel w S β n x v) (ht : Z1J x = false) :
  v.cells.size = (Z1h x).length ∧ ∀ (j : Nat) (c : AV) (u : Value), (Z1h x)[j]? = some c → v.cells[j]? = some u → ARel w S β n c u ∧ Z1k c = true ∧ (isUn c = true → Z1h x = [x] ∧ c = x ∧ u = v) := by
 cases x with
 | p x =>
  cases x with
  | v y => exact Z2V hr rfl rfl
  | lst o xs => exact Z2V hr rfl rfl
  | agg cs =>
   cases hr with
   | p _ _ hp =>
    cases hp with
    | agg _ arr h1 h2 h3 =>
     refine ⟨by simpa [Z1h, Value.cells] using h1, ?_⟩
     intro j c u hc hu
     simp only [Z1h, q6_] at hc
     obtain ⟨d, hd, rfl⟩ := q4_.1 hc
     have hok := Z74 (h2 d (q7_ hd))
     exact ⟨.p _ _ (h3 j d u hd hu), hok.1, fun hu => absurd hok.2 (by simp [hu])⟩
  | tup vs => simp [Z1J] at ht
  | junk => simp [Z1J] at ht
 | ptr => exact Z2V hr rfl rfl
 | mp => exact Z2V hr rfl rfl
 | md => simp [Z1J] at ht
 | cptr => exact Z2V hr rfl rfl
 | clo => exact Z2V hr rfl rfl
 | agg cs =>
  cases hr with
  | agg _ arr h1 h2 h3 =>
   refine ⟨by simpa [Z1h, Value.cells] using h1, ?_⟩
   intro j c u hc hu
   simp only [Z1h] at hc
   have hok := h2 c (q7_ hc)
   refine ⟨h3 j c u hc hu, hok.1, fun hun => ?_⟩
   obtain ⟨xs, rfl⟩ := Z5s hun
   exact absurd rfl (hok.2 xs)
 | tup vs => simp [Z1J] at ht
section
variable {P : Program} {H : Hints} {f : FuncId} {G : GF} {nt m0 : Nat} {o : Oper} {w : World} {S : Stay} {β : Nat → Nat} {sl : Sl} {B : List Row} {a : Act}
 {K : AV → Sl → List Row → Option Res} {r : Res} {next : Act → World → Prop} {Q : Exit → Act → World → Prop}
theorem Z2L (w : World) (arr : Array Value) (ty : TypeId) : Fresh w (w.alloc (.cells arr ty)) arr ty := ⟨rfl, rfl, rfl, rfl⟩
theorem Z3r (sl : Sl) (x : Operand) (t : Nat) : get (weak sl x) t = get sl t ∨ isUn (get (weak sl x) t) = false := by
 cases x with
 | tmp u =>
  show get ((u, shr (get sl u)) :: sl) t = _ ∨ isUn (get ((u, shr (get sl u)) :: sl) t) = false
  rw [Z10]
  by_cases e : u = t
  ·rw [if_pos e]; exact .inr (Z1w _)
  ·rw [if_neg e]; exact .inl rfl
 | _ => exact .inl rfl
theorem ZaO (l : List Operand) : ∀ (sl : Sl) (t : Nat), get (weakL sl l) t = get sl t ∨ isUn (get (weakL sl l) t) = false := by
 induction l with
 | nil => exact fun _ _ => .inl rfl
 | cons x r ih =>
  intro sl t
  rcases ih (weak sl x) t with e | e
  ·rcases Z3r sl x t with e' | e'
   ·exact .inl (e.trans e')
   ·exact .inr (by rw [show weakL sl (x :: r) = weakL (weak sl x) r from rfl, e]; exact e')
  ·exact .inr e
theorem Z3v (h : Good nt w S β sl B a) {x : Operand} (hu : isUn (ev sl x) = true) : ∃ t, x = .tmp t ∧ t < nt ∧ Here nt sl a.tmps B β w (.slot t) (ev sl x) (a.eval x) := by
 cases x with
 | tmp t =>
  have htn : t < nt := by
   rcases Z22 t nt with h1 | h1
   ·exact h1
   ·have := h.high t h1
    change isUn (get sl t) = true at hu
    rw [this] at hu; simp [isUn, jk] at hu
  exact ⟨t, rfl, htn, htn, rfl, rfl⟩
 | const v => rw [Z9p] at hu; simp at hu
 | global g => simp [ev, isUn, jk] at hu
 | func f => simp [ev, isUn] at hu
theorem Z6d (h : Good nt w S β sl B a) {x : Operand} (hu : isUn (ev sl x) = true) : ∀ l y u, Here nt (weak sl x) a.tmps B β w l y u → isUn y = true → Z1g u ≠ Z1g (a.eval x) := by
 obtain ⟨t, rfl, htn, here⟩ := Z3v h hu
 intro l y u hl hy hb
 have hold : Here nt sl a.tmps B β w l y u ∧ l ≠ .slot t := by
  cases l with
  | slot q =>
   obtain ⟨hq, rfl, rfl⟩ := hl
   change isUn (get ((t, shr (get sl t)) :: sl) q) = true at hy
   change Here nt sl a.tmps B β w (.slot q) (get ((t, shr (get sl t)) :: sl) q) _ ∧ _
   rw [Z10] at hy ⊢
   by_cases e : t = q
   ·rw [if_pos e, Z1w] at hy; simp at hy
   ·rw [if_neg e]; exact ⟨⟨hq, rfl, rfl⟩, fun h => e (by cases h; rfl)⟩
  | box id j => exact ⟨hl, by simp⟩
 exact hold.2 (h.uns.inj l (.slot t) y _ u _ hold.1 here hy hu hb)
theorem Z6a (t : TypeId) (v : Value) (w : World) : (newVar t v).run P w = .ok ⟨w.heap.size, 0, none⟩ (w.alloc (.cells v.cells t)) := by
 unfold newVar newRow
 simp
variable (h : Good nt w S β sl B a) (hd : ∀ t, o.dst = some t → t < nt)
include h hd
theorem Zm5 {t : TypeId} {x : Operand} (ho : o.op = .box t x) (hk : bx (ev sl x) B (fun v B => K v (weak sl x) B) = some r) : o.wp P a w (Leaves nt m0 o w S β sl B a K r) Q := by
 unfold bx at hk
 split at hk
 ·simp at hk
 ·rename_i ht
  have ht : Z1J (ev sl x) = false := by simpa using ht
  obtain ⟨c1, c2⟩ := Z2W (h.ev x) ht
  have hrun : (execOp a.eval o).run P w = .ok (.value (.pointer (some ⟨w.heap.size, 0, none⟩))) (w.alloc (.cells (a.eval x).cells t)) := by
   unfold execOp
   simp only [ho]
   show ((Instr.box t (a.eval x)).bind fun x => Sem.pure (Next.value x)).run P w = _
   rw [Sem.run_bind']
   unfold Instr.box
   simp [Z6a]
  refine Z1e hrun (Z9s h hd (h.weak x) (fun t _ => Z3r sl x t) (Z2L w _ t) c1 ?_ hk)
  intro j c u hc hu
  obtain ⟨q1, q2, q3⟩ := c2 j c u hc hu
  refine ⟨q1, q2, fun hun => ?_⟩
  obtain ⟨e1, e2, e3⟩ := q3 hun
  subst e2 e3
  obtain ⟨t', rfl, htn, here⟩ := Z3v h hun
  obtain ⟨k1, k2⟩ := h.uns.ok _ _ _ here hun
  refine ⟨by rw [e1]; rfl, k1, k2, Z6d h hun, ?_⟩
  obtain ⟨b, hb, _⟩ := k1.blk
  exact ⟨b, hb, _, _, _, here, hun, hb⟩
theorem Zi1 {t : TypeId} (ho : o.op = .alloc t) (hk : bz P t B (fun v B => K v sl B) = some r) : o.wp P a w (Leaves nt m0 o w S β sl B a K r) Q := by
 unfold bz at hk
 obtain ⟨z, hz, hk⟩ := ZH hk
 unfold zeroOf at hz
 split at hz
 ·rename_i i hi
  obtain ⟨zv, hzv, hzr⟩ := ZH hz
  have hrel : ARel w S β B.length z zv := Z2i hzr
  unfold bx at hk
  split at hk
  ·simp at hk
  ·rename_i ht
   have ht : Z1J z = false := by simpa using ht
   obtain ⟨c1, c2⟩ := Z2W hrel ht
   have hrun : (execOp a.eval o).run P w = .ok (.value (.pointer (some ⟨w.heap.size, 0, none⟩))) (w.alloc (.cells zv.cells t)) := by
    unfold execOp
    simp only [ho]
    show ((Instr.alloc t true (.tuple #[])).bind fun x => Sem.pure (Next.value x)).run P w = _
    rw [Sem.run_bind']
    unfold Instr.alloc
    simp [zeroValue, typeInfo, hi, hzv, Z6a]
   refine Z1e hrun (Z9s h hd h (fun t _ => .inl rfl) (Z2L w _ t) c1 ?_ hk)
   intro j c u hc hu
   obtain ⟨q1, q2, q3⟩ := c2 j c u hc hu
   refine ⟨q1, q2, fun hun => ?_⟩
   obtain ⟨_, e2, _⟩ := q3 hun
   subst e2
   rw [Z2e hzr] at hun
   simp at hun
 ·simp at hz
end
end Go.Abs
end
