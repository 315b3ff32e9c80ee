/- Ranges sorted and made normal, and put one behind the other: walked. Condition: none. -/
import Derived.RangeFuncNested
import Derived.RangeFuncBox
import Derived.RangeFuncLeaves
import Derived.Shelf.Abstract
import Derived.WalkKit
import Derived.OwnWalkIn
import Derived.TacticsInMore
import Derived.LoopNIn
import Derived.LoopIn
import Derived.Maps.AppendAt
import Derived.Test.YtocikhhkicahoaaDoorProg
import Derived.Shelf.SlSortCmp.NoneTotal
import Derived.Shelf.SlicesG.Cmp
import Derived.Test.YtocikhhkicahoaaDoorShelf
import Derived.Test.YtocikhhkicahoaaDoorEvD
import Derived.Deep.QuietTactic
import Derived.BigQuiet
import Derived.BigRegion
import Derived.LoopTactic
import Derived.ProofKit
import Derived.WalkMore
import Derived.Lib.AppendZeros

set_option linter.unusedSimpArgs false
set_option linter.unusedVariables false
set_option linter.defProp false
section
namespace Go.Proofs
open Go.RowKit Go.Shelf
attribute [local go_sem] Oper.semAt_some
def Tryd.encR (x:Int × Int):List Value:=[.int .i64 x.1,.int .i64 x.2]
def Tryd.Lies (n₀:Nat) (W:World) (sv:Value) (l:List (Int × Int)):Prop :=
 ∃ a cap,sv = .slice a l.length cap ∧ (l = [] ∨ ∃ b off,a = some ⟨b,off,none⟩ ∧ b < n₀ ∧ ∀ i x,l[i]? = some x → W.cell? ⟨b,off + i * 2,none⟩ = some (.int .i64 x.1) ∧ W.cell? ⟨b,off + i * 2 + 1,none⟩ = some (.int .i64 x.2))
theorem Tryd.Lies.below {n₀:Nat} {A B:World} (h:Below n₀ A B) {sv:Value} {l:List (Int × Int)}:Tryd.Lies n₀ A sv l → Tryd.Lies n₀ B sv l:=by
 rintro ⟨a,cap,rfl,hl⟩
 refine ⟨a,cap,rfl,hl.imp id ?_⟩
 rintro ⟨b,off,rfl,hb,hc⟩
 exact ⟨b,off,rfl,hb,fun i x hx => ⟨(h.cell (p:=⟨b,off + i * 2,none⟩) hb).trans (hc i x hx).1,(h.cell (p:=⟨b,off + i * 2 + 1,none⟩) hb).trans (hc i x hx).2⟩⟩
set_option maxRecDepth 100000 in
set_option maxHeartbeats 2000000 in
theorem Tryd.values1_in (F:Fence) (n:Nat) (h7:F.fn 53) (hro:F.round = none) (hn:1 ≤ n) (l Bs n₀:Nat) (a:Option Addr) (cap:Nat) (zs:List (Int × Int)) (hlen:zs.length ≤ 1099511627776) (J Jx:List (Int × Int) → World → Prop) (B0:Nat) (hJ:AbidesFrom B0 J) (hnB:n₀ ≤ B0)
  (hY:∀ pre x W,J pre W → pre.length < zs.length → YieldAt F (n - 1) Tryd.prog l #[.agg #[.int .i64 x.1,.int .i64 x.2]] W fun e W' =>
   (e = .returned (.bool true) ∧ J (pre ++ [x]) W' ∧ Below n₀ W W') ∨ (e = .returned (.bool false) ∧ Jx (pre ++ [x]) W'))
  (W:World) (hBn:Bs < n₀) (hn0:n₀ ≤ W.heap.size) (hBs:W.cell? ⟨Bs,0,none⟩ = some (.slice a zs.length cap)) (hc:Tryd.Lies n₀ W (.slice a zs.length cap) zs) (h0:J [] W) :
  CallsIn F n Tryd.prog 53 #[.func (.yield l) #[] #[],.pointer (some ⟨Bs,0,none⟩)] W fun e W' => (∃ v,e = .returned v) ∧
   ((∃ ys,ys = zs ∧ J ys W') ∨ (∃ pre,pre <+: zs ∧ Jx pre W')):=by
 refine callsIn_of_wp Tryd.func53 rfl h7 ?_ hro
 simp only [Tryd.ntmps53,Zpk,q5_,q8_,Nat.reduceAdd,Nat.reduceSub,Zw5,Zw6,Zrc,Zw7,ZbE,ZbD]
 gi_wp2
 gi_loopw [7] (fun p wr => ∃ k:Nat,k ≤ zs.length ∧ p = .int .i64 k ∧ J (zs.take k) wr ∧ Below n₀ W wr)
  (fun p _ => zs.length - (intOf p).toNat)
 case atStart => exact ⟨0,ZhD _,rfl,by simpa using h0,Below.refl _ _⟩
 case round =>
  obtain ⟨k,hk,rfl,hJs,hnx⟩:=hrel
  by_cases hlt:k < zs.length
  ·obtain ⟨a',cap',ha',hl⟩:=hc.below hnx
   obtain ⟨rfl,rfl⟩:a = a' ∧ cap = cap':=by simpa using ha'
   rcases hl with rfl | ⟨b,off,rfl,hb,hcs⟩
   ·simp at hlt
   have hx:zs[k]? = some zs[k]:=q4_ hlt
   obtain ⟨c1,c2⟩:=hcs k zs[k] hx
   have hsz:n₀ ≤ wr.heap.size:=ZhC hn0 hnx.size
   have hJ1:=hJ _ wr (wr.alloc (.cells #[.int .i64 zs[k].1,.int .i64 zs[k].2] 47)) none hJs (World.grownBy_alloc wr _ none) (fun r e => by cases e)
   have hb1:Below n₀ W (wr.alloc (.cells #[.int .i64 zs[k].1,.int .i64 zs[k].2] 47)):=hnx.alloc hsz _
   obtain ⟨fn,tmps,assign,body,hy,hR⟩:=hY _ zs[k] _ hJ1 (by rw [List.length_take]; omega)
   have htk:zs.take k ++ [zs[k]] = zs.take (k + 1):=(ZDM hlt).symm
   rw [htk] at hR
   gi_wp2
   refine hR.mono ?_
   rintro e W3 (⟨rfl,hJ3,hk3⟩ | ⟨rfl,hJx3⟩)
   ·gi_wp2
    go_roundw
    case rel => exact ⟨k + 1,by omega,by simp,hJ3,hb1.trans hk3⟩
    case measure => simp [intOf]; omega
   ·gi_wp2
    refine bodyPost_ret (results_none rfl _ _ _) rfl ?_
    exact ⟨⟨_,rfl⟩,.inr ⟨_,List.take_prefix _ _,hJx3⟩⟩
  ·obtain rfl:k = zs.length:=by omega
   gi_wp2
   go_end0
   exact ⟨⟨_,rfl⟩,.inl ⟨_,rfl,by simpa using hJs⟩⟩
set_option maxHeartbeats 1000000 in
theorem Tryd.values_in (F:Fence) (n:Nat) (h5:F.fn 35) (hro:F.round = none) (a:Option Addr) (len cap:Nat) (w:World) :
  CallsIn F n Tryd.prog 35 #[.slice a len cap] w fun e w' => e = .returned (.func (.func 53) #[] #[.pointer (some ⟨w.heap.size,0,none⟩)]) ∧ w' = w.alloc (.cells #[.slice a len cap] 27):=by
 refine callsIn_of_wp Tryd.func35 rfl h5 ?_ hro
 simp only [Tryd.ntmps35,Zpk,q5_,q8_,Nat.reduceAdd,Nat.reduceSub,Zw5,Zw6,Zrc,Zw7,ZbE,ZbD]
 gi_wp2
 go_ret
 exact ⟨rfl,rfl⟩
theorem Tryd.values_stops (F:Fence) (n:Nat) (h7:F.fn 53) (hro:F.round = none) (hn:1 ≤ n) (Bs n₀:Nat) (a:Option Addr) (cap:Nat) (zs:List (Int × Int)) (hlen:zs.length ≤ 1099511627776) (w:World) (hBs:Bs < n₀) (hn₀:n₀ ≤ w.heap.size)
  (hc:w.cell? ⟨Bs,0,none⟩ = some (.slice a zs.length cap)) (hI:Tryd.Lies n₀ w (.slice a zs.length cap) zs) :
  SeqStopsK F n Tryd.prog 53 #[.pointer (some ⟨Bs,0,none⟩)] (fun x:Int × Int => #[Value.agg #[.int .i64 x.1,.int .i64 x.2]]) (Below n₀) (fun ys => ys = zs) (fun pre => pre <+: zs) zs.length w:=fun l J Jx W hW hJ _ hY h0 =>
 Tryd.values1_in F n h7 hro hn l Bs n₀ a cap zs hlen J Jx W.heap.size hJ (ZhC hn₀ hW.size) hY W hBs (ZhC hn₀ hW.size) ((hW.cell (p:=⟨Bs,0,none⟩) (Znp hBs hn₀)).trans hc) (hI.below (hW.mono hn₀)) h0
theorem Tryd.info47:(Tryd.prog.info? 47).map (fun i => (i.zero,i.size,i.bytes)) = some (some (.agg #[.int .i64 0,.int .i64 0]),2,16):=by kernel_rfl
def Tryd.flat (l:List (Int × Int)):List Value:=l.flatMap Tryd.encR
theorem Tryd.flat_len (l:List (Int × Int)):(Tryd.flat l).length = l.length * 2:=by
 induction l with
 | nil => rfl
 | cons x r ih => show (Tryd.flat r).length + 1 + 1 = _; rw [ih,q5_]; omega
theorem Tryd.flat_snoc (l:List (Int × Int)) (x:Int × Int):Tryd.flat (l ++ [x]) = Tryd.flat l ++ [.int .i64 x.1,.int .i64 x.2]:=by simp [Tryd.flat,Tryd.encR]
theorem Tryd.cell_two_new (w:World) (x y:Value) (t:TypeId):∀ j u,[x,y][j]? = some u → (w.alloc (.cells #[x,y] t)).cell? ((⟨w.heap.size,0,none⟩:Addr).add j) = some u:=by
 intro j u hj
 match j,hj with
 | 0,hj => simp at hj; subst hj; simp [Addr.add]
 | 1,hj => simp at hj; subst hj; simp [Addr.add]
set_option maxRecDepth 100000 in
set_option maxHeartbeats 2000000 in
theorem Tryd.appendSeq_in (F:Fence) (n:Nat) (h83:F.fn 70) (h81:F.fn 53) (hro:F.round = none) (hn:3 ≤ n) (Bs:Nat) (a:Option Addr) (cap:Nat) (zs:List (Int × Int)) (hlen:zs.length ≤ 1099511627776) (w:World) (hBs:Bs < w.heap.size)
  (hc:w.cell? ⟨Bs,0,none⟩ = some (.slice a zs.length cap)) (hI:Tryd.Lies w.heap.size w (.slice a zs.length cap) zs) :
  CallsIn F n Tryd.prog 70 #[.slice none 0 0,.func (.func 53) #[] #[.pointer (some ⟨Bs,0,none⟩)]] w fun e W' => ∃ v,e = .returned v ∧ W'.ownsRow w.heap.size 47 2 v zs.length (Tryd.flat zs) ∧ (v = .slice none 0 0 ↔ zs = []) ∧ Below w.heap.size w W':=by
 have h1:1 ≤ n:=by omega
 obtain ⟨i0,hi,hz0,hz1,hz2⟩:=info_parts Tryd.info47
 refine callsIn_of_wp_marks Tryd.func70 rfl h83 ?_ hro
 simp only [Tryd.ntmps70,Zpk,q5_,q8_,Nat.reduceAdd,Nat.reduceSub,Zw5,Zw6,Zrc,Zw7,ZbE,ZbD]
 gi_wp2
 have bO:=Boxed.new w 27 (.slice none 0 0)
 have hB0:Below w.heap.size w (w.alloc (.cells #[.slice none 0 0] 27)):=(Below.refl _ w).alloc (Z2x _) _
 refine wpIn_rangeFunc_ownH hro h1 (gf:=53) (lb:=#[.pointer (some ⟨Bs,0,none⟩)]) rfl h81 (enters_of Tryd.func53 (by kernel_rfl) rfl)
  (Tryd.values_stops F (n - 1) h81 hro (by omega) Bs w.heap.size a cap zs hlen (w.alloc (.cells #[.slice none 0 0] 27)) hBs (by simp) ((hB0.cell (p:=⟨Bs,0,none⟩) hBs).trans hc) (hI.below hB0)) belowK_t (belowK_b (by simp)) (Below.refl _ _) (fun _ => rfl)
  (fun pre W => (∃ v,Boxed W w.heap.size 27 v ∧ W.ownsRow w.heap.size 47 2 v pre.length (Tryd.flat pre) ∧ (v = .slice none 0 0 ↔ pre = [])) ∧ Below w.heap.size w W)
  (fun _ _ _ => False)
  (OwnFrom.and (Own.from (holdsRow_own w.heap.size w.heap.size 27 47 2 (fun pre => pre.length) (fun pre => Tryd.flat pre) (fun pre v => v = .slice none 0 0 ↔ pre = [])) _) (ownFrom_below (Z2x _) (by simp)))
  (fun _ _ _ _ _ hs _ _ => hs)
  ⟨⟨_,bO,World.ownsRow_nil _ _ _ _,by simp⟩,hB0⟩
  (fun x a' W => ∃ Bx,w.heap.size < Bx ∧ W.heap[Bx]? = some (.cells #[.int .i64 x.1,.int .i64 x.2] 47 (0,0)) ∧ a' = { tmps:=#[.slice none 0 0,.func (.func 53) #[] #[.pointer (some ⟨Bs,0,none⟩)],.pointer (some ⟨w.heap.size,0,none⟩),undef,.slice none 0 0,.pointer (some ⟨Bx,0,none⟩),.func (.func 53) #[] #[.pointer (some ⟨Bs,0,none⟩)],.agg #[.int .i64 x.1,.int .i64 x.2],undef,undef,undef,undef,undef],defers:=[] })
  ?hAx ?assign ?body ?done ?stop
 case hAx =>
  rintro x a' _ X Y row ⟨Bx,q1,q2,q3⟩ hg hr
  refine ⟨Bx,q1,(hg.block Bx (Z8t.1 q2).1 (fun e => ?_)).trans q2,q3⟩
  obtain ⟨_,o,ho,hcc⟩:=hr Bx e.symm
  rw [q2] at ho
  cases ho
  cases hcc
 case assign =>
  rintro l pre x W K ⟨⟨v,hv,hrow,hnil⟩,hB⟩ hK
  gi_wp2
  exact hK _ _ ((KeepsOthers.alloc _ _).from _) ((Below.refl _ W).alloc hB.size _) ⟨⟨v,hv.alloc _,hrow.alloc _,hnil⟩,hB.alloc hB.size _⟩ ⟨W.heap.size,hv.lt,World.alloc_heap_new W _,rfl⟩
 case body =>
  rintro l pre x a' W hl ⟨r,hr⟩ ⟨⟨v,hv,hrow,hnil⟩,hB⟩ ⟨Bx,hBx,hbx,rfl⟩ hlt
  have hc:=hv.cell
  have c1:W.cell? ⟨Bx,0,none⟩ = some (.int .i64 x.1):=by simp [World.cell?,hbx]
  have c2:W.cell? ⟨Bx,0 + 1,none⟩ = some (.int .i64 x.2):=by simp [World.cell?,hbx]
  gi_wp2_with (gi_at_builtin; refine wpListIn_append_own _ rfl _ _ 27 rfl w.heap.size 47 i0 (.agg #[.int .i64 0,.int .i64 0]) 2 16 Tryd.underlying27 hi hz0 hz1 hz2 rfl (by decide) _ _ _ rfl (hrow.alloc _) ⟨W.heap.size,0,none⟩ 1 1 [.int .i64 x.1,.int .i64 x.2] rfl rfl (Tryd.cell_two_new _ _ _ _) (by simp [Value.oneCell']) (by unfold maxLen; omega) (by omega) (by have:=hB.size; simp; omega) ?_; intro v' w1 hown' hgrow _; obtain ⟨g',cap',rfl⟩:=ownsRow_succ hown'; obtain ⟨hv1,hv2,hr2,hk2,hb2⟩:=hv.appended (by decide) hrow hB.size (Z2x _) hown' hgrow; have hc1:=hv1.cell; have hf1:=hv1.frozen)
  exact ⟨hk2.from _,hb2,⟨_,hv2,by rw [Tryd.flat_snoc]; simpa using hr2,by simp⟩,hB.trans hb2⟩
 case done =>
  rintro D ys W hD rfl ⟨⟨v,hv,hrow,hnil⟩,hB⟩ hK
  have hc:=hv.cell
  gi_wp2
  refine ⟨by simp,.inl ⟨_,_,rfl,run_takeDeferred hK,?_⟩⟩
  exact ⟨_,results_tmp rfl _ _ _,v,rfl,ownsRow_putObj hrow _ hK rfl,hnil,hB.trans (belowK_b (w:=w) (Z2x _) W D _ _ (by simp at hD; omega) hK rfl rfl)⟩
 case stop =>
  rintro D c pre W _ _ h _
  exact h.elim
end Go.Proofs
end
section
namespace Go.Proofs
open Go.RowKit Go.Shelf Go.Lib Go.Sort
abbrev Tryd.cmpLo (x y:Int × Int):Int:=Lib.compareInt x.1 y.1
theorem Tryd.ltLo (x y:Int × Int):ltOf Tryd.cmpLo x y = decide (x.1 < y.1):=by
 unfold ltOf Tryd.cmpLo Lib.compareInt
 by_cases h1:x.1 < y.1
 ·simp [h1]
 ·by_cases h2:y.1 < x.1 <;> simp [h1,h2]
theorem Tryd.swoLo:SWO (ltOf Tryd.cmpLo) where
 irrefl x:=by rw [Tryd.ltLo]; simp
 trans x y z h1 h2:=by rw [Tryd.ltLo] at *; simp at *; omega
 ntrans x y z h1 h2:=by rw [Tryd.ltLo] at *; simp at *; omega
set_option maxHeartbeats 1000000 in
theorem Tryd.closure76 (x y:Int × Int) (W:World):Calls Tryd.prog 36 #[.agg #[.int .i64 x.1,.int .i64 x.2],.agg #[.int .i64 y.1,.int .i64 y.2]] W fun e w' => e = .returned (.int .i64 (Lib.compareInt x.1 y.1)) ∧ ∃ q os',w' = grow (W.drewN q) os':=by
 have hcon:=fun W' => AnyG.cmp_Compare_int Tryd.cmpInt x.1 y.1 W'
 change ∀ W',Calls Tryd.prog 37 _ _ _ at hcon
 generalize Lib.compareInt x.1 y.1 = r at hcon ⊢
 go_enter Tryd.func36,Tryd.ntmps36
 go_wp2_with (go_at_call 37; refine (hcon _).mono ?_; rintro e w' ⟨rfl,rfl⟩)
 go_ret
 exact ⟨rfl,0,_,by rw [alloc_eq_grow,alloc_eq_grow,grow_grow]; rfl⟩
theorem Tryd.cmpLays76 (blk off size:Nat) (w:World):CmpLays Tryd.prog 36 #[] Tryd.encR 2 Tryd.cmpLo blk off size w :=
 fun _ _ _ _ x y => Tryd.closure76 x y _
theorem Tryd.flat_get:∀ (l:List (Int × Int)) (t:Nat),t < l.length * 2 → (Tryd.flat l)[t]? = some ((Tryd.encR l.toArray[t / 2]!)[t % 2]!)
 | [],t,h => by simp at h
 | x :: r,0,_ => rfl
 | x :: r,1,_ => rfl
 | x :: r,t + 2,h => by
  have h':t < r.length * 2:=by simp at h; omega
  have e1:(t + 2) / 2 = t / 2 + 1:=by omega
  have e2:(t + 2) % 2 = t % 2:=by omega
  have e3:(Tryd.flat (x :: r))[t + 2]? = (Tryd.flat r)[t]?:=rfl
  rw [e3,Tryd.flat_get r t h',e1,e2]
  have h2:t / 2 < r.length:=by omega
  simp [h2]
theorem Tryd.flatK_eq (l:List (Int × Int)):flatK Tryd.encR 2 l.toArray = (Tryd.flat l).toArray:=by
 apply Array.ext_getElem?
 intro t
 by_cases h:t < l.length * 2
 ·have h':t < (flatK Tryd.encR 2 l.toArray).size:=by rw [size_flatK]; simpa using h
  have e:=get_flatK Tryd.encR 2 l.toArray t (by simpa using h)
  rw [getElem!_pos _ t h'] at e
  rw [Zfp h',e,Zt8,Tryd.flat_get l t h]
 ·rw [Array.getElem?_eq_none (by rw [size_flatK]; simp; omega),Zt8,ZcL (by rw [Tryd.flat_len]; omega)]
theorem Tryd.holds_flat {w:World} {g:Nat} {cur:Array Value} {e:TypeId} {l:List (Int × Int)} (hb:w.heap[g]? = some (.cells cur e (0,0))) (ht:cur.toList.take (l.length * 2) = Tryd.flat l):HoldsK Tryd.encR 2 w g 0 l.toArray:=by
 unfold HoldsK
 rw [Tryd.flatK_eq]
 intro j hj
 have hj':j < (Tryd.flat l).length:=by simpa using hj
 refine ⟨?_,by simp [World.frozen?,hb]⟩
 have h1:(cur.toList.take (l.length * 2))[j]? = (Tryd.flat l)[j]?:=by rw [ht]
 rw [List.getElem?_take_of_lt (by rw [Tryd.flat_len] at hj'; exact hj')] at h1
 simp only [World.cell?,hb,Zfq]
 simp only [Option.isSome_none,Zj4,if_false]
 rw [← Zsd,h1]
 simp [hj']
theorem Tryd.heap_sorted {w:World} {g n:Nat} {os:Array Obj} {cur:Array Value} {e:TypeId} {fr:Nat × Nat} (d:Array (Int × Int)) (hb:w.heap[g]? = some (.cells cur e fr)) :
  (sortWorldK Tryd.encR 2 w g 0 n d os).heap[g]? = some (.cells (putCells id 0 (flatK Tryd.encR 2 d) cur) e fr):=by
 have hg:g < w.heap.size:=(Z8t.1 hb).1
 unfold sortWorldK putRowK
 rw [heap_grow_old _ _ (by simpa [putRow,mapBlock,Sort.ahead] using hg)]
 simp [putRow,mapBlock,Sort.ahead,Zt9,hb,onCells]
theorem Tryd.grownBy_sorted {w:World} {g n:Nat} {os:Array Obj} (d:Array (Int × Int)):w.grownBy (sortWorldK Tryd.encR 2 w g 0 n d os) (some g):=by
 unfold sortWorldK putRowK
 refine ⟨rfl,rfl,rfl,by simp [putRow,mapBlock,Sort.ahead],fun k hk hne => ?_⟩
 rw [heap_grow_old _ _ (by simpa [putRow,mapBlock,Sort.ahead] using hk)]
 have:g ≠ k:=fun e => hne (by rw [e])
 simp [putRow,mapBlock,Sort.ahead,Zt9,this]
theorem Tryd.take_put (cur:Array Value) (F:List Value) (h:F.length ≤ cur.size):(putCells id 0 F.toArray cur).toList.take F.length = F:=by
 apply Zm0
 intro j
 by_cases hj:j < F.length
 ·rw [List.getElem?_take_of_lt hj,Zsd]
  simp [putCells,hj,show j < cur.size by omega]
 ·rw [List.getElem?_take_eq_none (by omega),ZcL (by omega)]
theorem Tryd.ownsRow_sorted {w:World} {base g cap n:Nat} {e:TypeId} {os:Array Obj} {cur:Array Value} {ss ts:List (Int × Int)} (hl:ts.length = ss.length) (hbase:base ≤ g) (hb:w.heap[g]? = some (.cells cur e (0,0)))
  (h1:ss.length ≤ cap) (h2:cap ≤ maxLen) (h3:cur.size = cap * 2) :
  (sortWorldK Tryd.encR 2 w g 0 n ts.toArray os).ownsRow base e 2 (.slice (some ⟨g,0,none⟩) ss.length cap) ss.length (Tryd.flat ts) :=
 ⟨by rw [Tryd.flat_len,hl],.inr ⟨g,cap,_,rfl,hbase,Tryd.heap_sorted _ hb,h1,h2,by simp [putCells,h3],by rw [Tryd.flatK_eq,← hl,← Tryd.flat_len]; exact Tryd.take_put cur _ (by rw [Tryd.flat_len,h3]; omega)⟩⟩
theorem Tryd.perm_all {d d':Array (Int × Int)} (h:PermIn 0 d.size d d'):d'.toList.Perm d.toList:=by
 obtain ⟨h1,_,h3⟩:=h
 have e1:(d'.extract 0 d.size) = d':=by rw [← h1]; simp
 have e2:(d.extract 0 d.size) = d:=by simp
 rwa [e1,e2] at h3
theorem Tryd.sorted_all {d:Array (Int × Int)} {n:Nat} (hn:n = d.size) (h:SortedIn (ltOf Tryd.cmpLo) 0 n d):d.toList.Pairwise (fun a b => a.1 ≤ b.1):=by
 rw [List.pairwise_iff_getElem]
 intro i j hi hj hij
 have hj':j < d.size:=by simpa using hj
 have:=h i j (ZhD _) hij (by omega)
 rw [Tryd.ltLo,getElem!_pos d j hj',getElem!_pos d i (by omega)] at this
 simp at this
 simpa using this
set_option maxRecDepth 100000 in
set_option maxHeartbeats 2000000 in
theorem Tryd.collect_in (F:Fence) (n:Nat) (h79:F.fn 51) (h83:F.fn 70) (h81:F.fn 53) (hro:F.round = none) (hn:4 ≤ n) (Bs:Nat) (a:Option Addr) (cap:Nat) (zs:List (Int × Int)) (hlen:zs.length ≤ 1099511627776) (w:World) (hBs:Bs < w.heap.size)
  (hc:w.cell? ⟨Bs,0,none⟩ = some (.slice a zs.length cap)) (hI:Tryd.Lies w.heap.size w (.slice a zs.length cap) zs) :
  CallsIn F n Tryd.prog 51 #[.func (.func 53) #[] #[.pointer (some ⟨Bs,0,none⟩)]] w fun e W' => ∃ v,e = .returned v ∧ W'.ownsRow w.heap.size 47 2 v zs.length (Tryd.flat zs) ∧ (v = .slice none 0 0 ↔ zs = []) ∧ Below w.heap.size w W':=by
 have h1:1 ≤ n:=by omega
 refine callsIn_of_wp Tryd.func51 rfl h79 ?_ hro
 simp only [Tryd.ntmps51,Zpk,q5_,q8_,Nat.reduceAdd,Nat.reduceSub,Zw5,Zw6,Zrc,Zw7,ZbE,ZbD]
 gi_wp2_with (gi_at_call 70; refine (Tryd.appendSeq_in F (n - 1) h83 h81 hro (by omega) Bs a cap zs hlen _ hBs hc hI).mono ?_; rintro e w' ⟨v,rfl,hrow,hnil,hb⟩)
 go_ret
 exact ⟨v,rfl,hrow,hnil,hb⟩
set_option maxRecDepth 100000 in
set_option maxHeartbeats 2000000 in
theorem Tryd.sortedFunc_in (F:Fence) (n:Nat) (h74:F.fn 34) (h79:F.fn 51) (h83:F.fn 70) (h81:F.fn 53) (h80:F.fn 52) (hw:F = Fence.wide) (hn:5 ≤ n) (Bs:Nat) (a:Option Addr) (cap:Nat) (zs:List (Int × Int)) (hlen:zs.length ≤ 1099511627776) (w:World) (hBs:Bs < w.heap.size)
  (hc:w.cell? ⟨Bs,0,none⟩ = some (.slice a zs.length cap)) (hI:Tryd.Lies w.heap.size w (.slice a zs.length cap) zs) :
  CallsIn F n Tryd.prog 34 #[.func (.func 53) #[] #[.pointer (some ⟨Bs,0,none⟩)],.func (.func 36) #[] #[]] w fun e W' => ∃ v ts,e = .returned v ∧ W'.ownsRow w.heap.size 47 2 v ts.length (Tryd.flat ts) ∧ ts.Perm zs ∧ ts.Pairwise (fun a b => a.1 ≤ b.1) ∧ Below w.heap.size w W':=by
 have h1:1 ≤ n:=by omega
 subst hw
 have hro:Fence.wide.round = none:=rfl
 refine callsIn_of_wp Tryd.func34 rfl h74 ?_ hro
 simp only [Tryd.ntmps34,Zpk,q5_,q8_,Nat.reduceAdd,Nat.reduceSub,Zw5,Zw6,Zrc,Zw7,ZbE,ZbD]
 gi_wp2_with (gi_at_call 51; refine (Tryd.collect_in Fence.wide (n - 1) h79 h83 h81 hro (by omega) Bs a cap zs hlen _ hBs hc hI).mono ?_; rintro e W ⟨v,rfl,hrow,hnil,hb⟩)
 rcases hrow.2 with ⟨rfl,hz⟩ | ⟨gb,cp,cur,rfl,hbase,hgb,r1,r2,r3,r4⟩
 ·have hss:zs = []:=Zfo hz
  subst hss
  have cS:=AnyF.slices_SortFunc_none Tryd.sortA none 0 (.func (.func 36) #[] #[]) W
  change Calls Tryd.prog 52 _ _ _ at cS
  gi_wp2_with (gi_at_call 52; refine (callsIn_wide.2 cS).mono ?_; rintro e w' ⟨rfl,rfl⟩)
  go_ret
  exact ⟨.slice none 0 0,[],rfl,by simpa using hrow,List.Perm.refl _,List.Pairwise.nil,hb⟩
 ·have hH:=Tryd.holds_flat hgb r4
  have hgl:gb < W.heap.size:=(Z8t.1 hgb).1
  have eg:∀ args w,(callFunc 36 args).run Tryd.prog w = .ok (.enter 36 args) w:=enters_of Tryd.func36 (by kernel_rfl) rfl
  have cS:=AnyQ.slices_SortFunc Tryd.sortA 2 Tryd.isAgg47 Tryd.sizeOf47 Tryd.encR (fun _ => rfl) (fun x v hv => by simp [Tryd.encR] at hv; rcases hv with rfl | rfl <;> rfl) Tryd.cmpLo Tryd.swoLo 36 #[] gb 0 cp zs.toArray W eg (Tryd.cmpLays76 gb 0 _ W) hH hgl (by simp; omega)
  change Calls Tryd.prog 52 _ _ _ at cS
  simp only [Zpk] at cS
  gi_wp2_with (gi_at_call 52; refine (callsIn_wide.2 cS).mono ?_; rintro e w' ⟨rfl,d',nn,os,hp,hs,rfl⟩)
  go_ret
  have hp':=Tryd.perm_all (d:=zs.toArray) (d':=d') (by simpa using hp)
  have hlen':d'.toList.length = zs.length:=hp'.length_eq
  refine ⟨_,d'.toList,rfl,?_,hp',Tryd.sorted_all (by simpa using hlen'.symm) hs,hb.grown (Tryd.grownBy_sorted _) hb.size (fun j hj => by cases hj; exact hbase)⟩
  have:=Tryd.ownsRow_sorted (n:=nn) (os:=os) (ts:=d'.toList) hlen' hbase hgb r1 r2 r3
  rw [hlen']
  simpa using this
end Go.Proofs
end
section
namespace Go.Proofs
open Go.RowKit Go.Shelf Go.Proofs.Norm
theorem Tryd.owns_lies {W:World} {base:Nat} {v:Value} {l:List (Int × Int)} (h:W.ownsRow base 47 2 v l.length (Tryd.flat l)):Tryd.Lies W.heap.size W v l:=by
 rcases h.2 with ⟨rfl,hz⟩ | ⟨g,cap,cur,rfl,hb,hg,h1,h2,h3,h4⟩
 ·have:l = []:=Zfo hz
  subst this
  exact ⟨none,0,rfl,.inl rfl⟩
 ·refine ⟨some ⟨g,0,none⟩,cap,rfl,.inr ⟨g,0,rfl,(Z8t.1 hg).1,fun i x hx => ?_⟩⟩
  have hi:=(q2_.1 hx).1
  have key:∀ t u,(Tryd.flat l)[t]? = some u → W.cell? ⟨g,0 + t,none⟩ = some u:=by
   intro t u ht
   have:=h.cells (g:=g) rfl t u ht
   rwa [show (⟨g,0,none⟩:Addr).add t = ⟨g,0 + t,none⟩ by unfold Addr.add; split <;> simp_all] at this
  have e:∀ (l:List (Int × Int)) (i:Nat) (x:Int × Int),l[i]? = some x → (Tryd.flat l)[i * 2]? = some (.int .i64 x.1) ∧ (Tryd.flat l)[i * 2 + 1]? = some (.int .i64 x.2):=by
   intro l
   induction l with
   | nil => intro i x h; simp at h
   | cons y r ih =>
    intro i x h
    cases i with
    | zero => simp at h; subst h; exact ⟨rfl,rfl⟩
    | succ i =>
     have:=ih i x (by simpa using h)
     rw [show (i + 1) * 2 = i * 2 + 2 by omega]
     exact this
  exact ⟨key _ _ (e l i x hx).1,by have:=key _ _ (e l i x hx).2; rwa [show 0 + (i * 2 + 1) = 0 + i * 2 + 1 by omega] at this⟩
theorem Tryd.mstep_cons (o:R2) (os:List R2) (x:R2):Z2O (o :: os) x = if x.1 ≤ o.2 + 1 then (o.1,max o.2 x.2) :: os else x :: o :: os:=rfl
theorem Tryd.mstep_all {Q:R2 → Prop} (hQ:∀ a b,Q a → Q b → Q (a.1,max a.2 b.2)) {acc:List R2} {x:R2} (ha:∀ r ∈ acc,Q r) (hx:Q x):∀ r ∈ Z2O acc x,Q r:=by
 intro r hr
 cases acc with
 | nil => simp [Z2O] at hr; subst hr; exact hx
 | cons o os =>
  rw [Tryd.mstep_cons] at hr
  split at hr
  ·rcases Z5G.1 hr with rfl | hr
   ·exact hQ _ _ (ha o (Z9C ..)) hx
   ·exact ha r (Zay _ hr)
  ·rcases Z5G.1 hr with rfl | hr
   ·exact hx
   ·exact ha r hr
theorem Tryd.fold_all {Q:R2 → Prop} (hQ:∀ a b,Q a → Q b → Q (a.1,max a.2 b.2)):∀ (l acc:List R2),(∀ r ∈ acc,Q r) → (∀ r ∈ l,Q r) → ∀ r ∈ l.foldl Z2O acc,Q r
 | [],acc,ha,_ => ha
 | x :: l,acc,ha,hl => Tryd.fold_all hQ l _ (Tryd.mstep_all hQ ha (hl x (Z9C ..))) (fun r h => hl r (Zay _ h))
theorem Tryd.mstep_len (acc:List R2) (x:R2):(Z2O acc x).length ≤ acc.length + 1:=by
 cases acc with
 | nil => simp [Z2O]
 | cons o os => rw [Tryd.mstep_cons]; split <;> simp
theorem Tryd.fold_len:∀ (l acc:List R2),(l.foldl Z2O acc).length ≤ acc.length + l.length
 | [],acc => by simp
 | x :: l,acc => by have:=Tryd.fold_len l (Z2O acc x); have:=Tryd.mstep_len acc x; simp; omega
def Tryd.Hid (p:Prop):Prop:=p
theorem Tryd.flat_last (l:List (Int × Int)) (o:Int × Int):(Tryd.flat (l ++ [o]))[l.length * 2 + 1]? = some (.int .i64 o.2):=by
 rw [Tryd.flat_snoc,ZbU (by rw [Tryd.flat_len]; omega),Tryd.flat_len,show l.length * 2 + 1 - l.length * 2 = 1 by omega]
 rfl
theorem Tryd.flat_set (l:List (Int × Int)) (o:Int × Int) (v:Int):(Tryd.flat (l ++ [o])).set (l.length * 2 + 1) (.int .i64 v) = Tryd.flat (l ++ [(o.1,v)]):=by
 rw [Tryd.flat_snoc,Tryd.flat_snoc,List.set_append_right _ _ (by rw [Tryd.flat_len]; omega),Tryd.flat_len,show l.length * 2 + 1 - l.length * 2 = 1 by omega]
 rfl
theorem Tryd.own_merge {W:World} {base g cp:Nat} {os:List R2} {o:R2} {cur:Array Value} (v:Int) (hb:base ≤ g) (hg:W.heap[g]? = some (.cells cur 47 (0,0))) (h1:os.length + 1 ≤ cp) (h2:cp ≤ maxLen) (h3:cur.size = cp * 2)
  (h4:cur.toList.take ((os.length + 1) * 2) = Tryd.flat (o :: os).reverse):(W.setCell ⟨g,os.length * 2 + 1,none⟩ (.int .i64 v)).ownsRow base 47 2 (.slice (some ⟨g,0,none⟩) (os.length + 1) cp) (os.length + 1) (Tryd.flat ((o.1,v) :: os).reverse):=by
 refine ⟨by rw [Tryd.flat_len]; simp,.inr ⟨g,cp,_,rfl,hb,heap_setCell_same W g _ cur 47 _ hg,h1,h2,by simpa using h3,?_⟩⟩
 rw [Array.toList_setIfInBounds,List.take_set,h4,Znr,Znr]
 have:=Tryd.flat_set os.reverse o v
 rwa [List.length_reverse] at this
set_option maxRecDepth 100000 in
set_option maxHeartbeats 4000000 in
theorem Tryd.normal_calls (zs:List (Int × Int)) (a:Option Addr) (cap:Nat) (w:World) (hr:∀ r ∈ zs,0 ≤ r.1 ∧ r.1 ≤ r.2 ∧ r.2 ≤ 1114367) (hlen:zs.length ≤ 1048576)
  (hS:∀ (W0:World) (Bs:Nat),Bs < W0.heap.size → W0.cell? ⟨Bs,0,none⟩ = some (.slice a zs.length cap) → Tryd.Lies W0.heap.size W0 (.slice a zs.length cap) zs →
   Calls Tryd.prog 34 #[.func (.func 53) #[] #[.pointer (some ⟨Bs,0,none⟩)],.func (.func 36) #[] #[]] W0 fun e W' => ∃ v ts,e = .returned v ∧ W'.ownsRow W0.heap.size 47 2 v ts.length (Tryd.flat ts) ∧ ts.Perm zs ∧ ts.Pairwise (fun a b => a.1 ≤ b.1) ∧ Below W0.heap.size W0 W')
  (hI:Tryd.Lies w.heap.size w (.slice a zs.length cap) zs) :
  Calls Tryd.prog 25 #[.slice a zs.length cap] w fun e W' => ∃ v,e = .returned v ∧ W'.ownsRow w.heap.size 47 2 v (Z5E zs).length (Tryd.flat (Z5E zs)) ∧ Below w.heap.size w W':=by
 obtain ⟨i0,hi,hz0,hz1,hz2⟩:=info_parts Tryd.info47
 have hV:=fun W => callsIn_wide.1 (Tryd.values_in Fence.wide 1 trivial rfl a zs.length cap W)
 have hb0:Below w.heap.size w (w.alloc (.cells #[.slice a zs.length cap] 27)):=(Below.refl _ w).alloc (Z2x _) _
 have hS1:=hS (w.alloc (.cells #[.slice a zs.length cap] 27)) w.heap.size (by simp) (by simp) (by
  obtain ⟨a',cap',h1,h2⟩:=hI.below hb0
  refine ⟨a',cap',h1,h2.imp id ?_⟩
  rintro ⟨b,off,q1,q2,q3⟩
  exact ⟨b,off,q1,by simp; omega,q3⟩)
 go_enter Tryd.func25,Tryd.ntmps25
 go_wp2
 go_step3
 go_wp2_with (first | (go_at_call 35; refine (hV _).mono ?_; rintro e w' ⟨rfl,rfl⟩) | (go_at_call 34; refine hS1.mono ?_; rintro e W ⟨v,ts,rfl,hrow,hperm,hsort,hbel⟩))
 have hW0:W.heap.size ≥ w.heap.size + 1:=by have:=hbel.size; simp at this; omega
 have hbw:Below w.heap.size w W:=hb0.trans (hbel.mono (by simp))
 have hts:ts.length = zs.length:=hperm.length_eq
 obtain ⟨pa,pc,hv,hl⟩:=Tryd.owns_lies hrow
 rw [hts] at hv
 subst hv
 have hnf:((ts.foldl Z2O []).reverse:List R2) = Z5E zs:=Zl3 hperm hsort (fun y hy => (hr y hy).2.1)
 have hrt:∀ r ∈ ts,0 ≤ r.1 ∧ r.1 ≤ r.2 ∧ r.2 ≤ 1114367:=fun r h => hr r (hperm.mem_iff.1 h)
 obtain ⟨N,hN⟩:∃ N,zs.length = N:=⟨_,rfl⟩
 rw [hN] at hlen hts hI ⊢
 clear hV hS hS1 hperm hsort hrow
 go_step3
 go_wp2
 go_loopw [4,13] (fun p4 p13 wr => ∃ k:Nat,k ≤ N ∧ p13 = .int .i64 k ∧ wr.ownsRow W.heap.size 47 2 p4 ((ts.take k).foldl Z2O []).length (Tryd.flat ((ts.take k).foldl Z2O []).reverse) ∧ Below W.heap.size W wr)
  (fun _ p13 _ => N - (intOf p13).toNat)
 case atStart => exact ⟨0,ZhD _,rfl,World.ownsRow_nil _ _ _ _,Below.refl _ _⟩
 case round =>
  obtain ⟨k,hk,rfl,hown,hbr⟩:=hrel
  by_cases hlt:k < N
  ·have hlt':k < ts.length:=by omega
   have hx:ts[k]? = some ts[k]:=q4_ hlt'
   rcases hl with rfl | ⟨b,off,rfl,hbW,hcs⟩
   ·simp at hlt'
   have c1:wr.cell? ⟨b,off + k * 2,none⟩ = some (.int .i64 ts[k].1):=(hbr.cell (p:=⟨b,off + k * 2,none⟩) hbW).trans (hcs k _ hx).1
   have c2:wr.cell? ⟨b,off + k * 2 + 1,none⟩ = some (.int .i64 ts[k].2):=(hbr.cell (p:=⟨b,off + k * 2 + 1,none⟩) hbW).trans (hcs k _ hx).2
   have hxr:=hrt ts[k] (Znm hlt')
   have hstep:(ts.take (k + 1)).foldl Z2O [] = Z2O ((ts.take k).foldl Z2O []) ts[k]:=by
    rw [ZDM hlt',List.foldl_append]; rfl
   have hall:∀ r ∈ (ts.take k).foldl Z2O [],0 ≤ r.1 ∧ 0 ≤ r.2 ∧ r.2 ≤ 1114367:=Tryd.fold_all (fun a b ha hb => by simp only []; omega) _ _ (by simp) (fun r h => by have:=hrt r (Zpi h); omega)
   have hlen2:=Tryd.fold_len (ts.take k) []
   rw [List.length_take] at hlen2
   simp only [q8_] at hlen2
   generalize (ts.take k).foldl Z2O [] = acc at hown hstep hall hlen2
   generalize ts[k] = x at *
   clear hx hcs hnf hrt hlt'
   cases acc with
   | nil =>
    obtain ⟨oa,oc,rfl,_⟩:=Tryd.owns_lies (l:=[]) hown
    go_wp2
    go_quiet (fail)
    have hown2:(((wr.alloc (.cells #[.int .i64 x.1,.int .i64 x.2] 47)).drewN nq).alloc (.cells #[.int .i64 x.1,.int .i64 x.2] 47)).ownsRow W.heap.size 47 2 (.slice oa 0 oc) 0 []:=World.ownsRow.alloc (show ((wr.alloc (.cells #[.int .i64 x.1,.int .i64 x.2] 47)).drewN nq).ownsRow W.heap.size 47 2 (.slice oa 0 oc) 0 [] from hown.alloc _) _
    have hnew2:∀ j u,[Value.int .i64 x.1,.int .i64 x.2][j]? = some u → (((wr.alloc (.cells #[.int .i64 x.1,.int .i64 x.2] 47)).drewN nq).alloc (.cells #[.int .i64 x.1,.int .i64 x.2] 47)).cell? ((⟨wr.heap.size + 1,0,none⟩:Addr).add j) = some u:=by
     have:=Tryd.cell_two_new ((wr.alloc (.cells #[.int .i64 x.1,.int .i64 x.2] 47)).drewN nq) (.int .i64 x.1) (.int .i64 x.2) 47
     simpa using this
    have hsz2:W.heap.size ≤ (((wr.alloc (.cells #[.int .i64 x.1,.int .i64 x.2] 47)).drewN nq).alloc (.cells #[.int .i64 x.1,.int .i64 x.2] 47)).heap.size:=by have:=hbr.size; simp; omega
    have hb2:Below W.heap.size W (((wr.alloc (.cells #[.int .i64 x.1,.int .i64 x.2] 47)).drewN nq).alloc (.cells #[.int .i64 x.1,.int .i64 x.2] 47)):=Below.alloc (show Below W.heap.size W ((wr.alloc (.cells #[.int .i64 x.1,.int .i64 x.2] 47)).drewN nq) from (Below.alloc hbr hbr.size (.cells #[.int .i64 x.1,.int .i64 x.2] 47)).trans ⟨rfl,rfl,rfl,Z2x _,fun _ _ => rfl⟩) (by have:=hbr.size; simp; omega) _
    go_wp2_with (at_builtin; refine wpList_append_own _ rfl (.tmp 45) (.tmp 47) 28 rfl W.heap.size 47 i0 (.agg #[.int .i64 0,.int .i64 0]) 2 16 Tryd.underlying28 hi hz0 hz1 hz2 rfl (by decide) (.slice oa 0 oc) 0 [] rfl hown2 ⟨wr.heap.size + 1,0,none⟩ 1 1 [.int .i64 x.1,.int .i64 x.2] rfl rfl hnew2 (by simp [Value.oneCell']) (by unfold maxLen; omega) (by omega) hsz2 ?_; intro v' w1 hown' hgrow _)
    exact ⟨⟨k + 1,by omega,by simp,by rw [hstep]; exact hown',hb2.grown hgrow hsz2 (fun k e => (hown2.lt k e).1)⟩,by simp [intOf]; omega⟩
   | cons o os =>
    obtain ⟨g,cp,cur,rfl,hbase,hg,r1,r2,r3,r4⟩:∃ g cp cur,u4 = .slice (some ⟨g,0,none⟩) (os.length + 1) cp ∧ W.heap.size ≤ g ∧ wr.heap[g]? = some (.cells cur 47 (0,0)) ∧ os.length + 1 ≤ cp ∧ cp ≤ maxLen ∧ cur.size = cp * 2 ∧ cur.toList.take ((os.length + 1) * 2) = Tryd.flat (o :: os).reverse:=by
     rcases hown.2 with ⟨_,h0⟩ | h'
     ·simp at h0
     ·exact h'
    have hor:=hall o (Z9C ..)
    have hgl:g < wr.heap.size:=(Z8t.1 hg).1
    have c3:wr.cell? ⟨g,os.length * 2 + 1,none⟩ = some (.int .i64 o.2):=by
     have e:=Tryd.flat_last os.reverse o
     rw [List.length_reverse,← Znr] at e
     have:=hown.cells (g:=g) rfl _ _ e
     rwa [show (⟨g,0,none⟩:Addr).add (os.length * 2 + 1) = ⟨g,os.length * 2 + 1,none⟩ by simp [Addr.add]] at this
    have c3':(wr.alloc (.cells #[.int .i64 x.1,.int .i64 x.2] 47)).cell? ⟨g,os.length * 2 + 1,none⟩ = some (.int .i64 o.2) :=
     (((Below.refl wr.heap.size wr).alloc (Z2x _) _).cell (p:=⟨g,os.length * 2 + 1,none⟩) hgl).trans c3
    have hfl:(Tryd.flat (o :: os).reverse).length = (os.length + 1) * 2:=by rw [Tryd.flat_len]; simp
    have hlenk:os.length + 1 ≤ k:=by simp at hlen2; omega
    have hownL:Tryd.Hid (wr.ownsRow W.heap.size 47 2 (.slice (some ⟨g,0,none⟩) (os.length + 1) cp) (os.length + 1) (Tryd.flat (o :: os).reverse)):=hown
    have hst:Tryd.Hid ((ts.take (k + 1)).foldl Z2O [] = Z2O (o :: os) x):=hstep
    have hbr':Tryd.Hid (Below W.heap.size W wr):=hbr
    have hg':Tryd.Hid (wr.heap[g]? = some (.cells cur 47 (0,0))):=hg
    have hnn:Tryd.Hid (∃ m,os.length = m):=⟨_,rfl⟩
    obtain ⟨n,hn⟩:∃ n,os.length = n:=⟨_,rfl⟩
    have hmerge:Tryd.Hid (∀ (w2:World) (v:Int),w2.heap[g]? = some (.cells cur 47 (0,0)) → (w2.setCell ⟨g,n * 2 + 1,none⟩ (.int .i64 v)).ownsRow W.heap.size 47 2 (.slice (some ⟨g,0,none⟩) (n + 1) cp) ((o.1,v) :: os).length (Tryd.flat ((o.1,v) :: os).reverse)):=by
     intro w2 v h2
     have:=Tryd.own_merge v hbase h2 r1 r2 r3 r4
     rw [hn] at this
     simpa [hn] using this
    rw [hn] at r1 r4 c3 c3' hlenk hownL ⊢
    have hnl:Tryd.Hid (os.length = n):=hn
    clear hown hlen2 hall r4 hfl hstep hbr hg hn hnn
    by_cases hc:x.1 ≤ o.2 + 1
    ·go_wp2
     go_quiet (fail)
     have hbr:Below W.heap.size W wr:=hbr'
     have hg:wr.heap[g]? = some (.cells cur 47 (0,0)):=hg'
     have e3:((wr.alloc (.cells #[.int .i64 x.1,.int .i64 x.2] 47)).drewN nq).cell? ⟨g,n * 2 + 1,none⟩ = some (.int .i64 o.2):=c3'
     have e4:((wr.alloc (.cells #[.int .i64 x.1,.int .i64 x.2] 47)).drewN nq).cell? ⟨wr.heap.size,1,none⟩ = some (.int .i64 x.2):=by simp
     have e5:((wr.alloc (.cells #[.int .i64 x.1,.int .i64 x.2] 47)).drewN nq).heap[g]? = some (.cells cur 47 (0,0)):=((Below.refl wr.heap.size wr).alloc (Z2x _) _).block g hgl |>.trans hg
     have e6:((wr.alloc (.cells #[.int .i64 x.1,.int .i64 x.2] 47)).drewN nq).frozen? ⟨g,n * 2 + 1,none⟩ = false:=frozen_of_row _ g _ cur 47 e5
     have e7:Below W.heap.size W ((wr.alloc (.cells #[.int .i64 x.1,.int .i64 x.2] 47)).drewN nq):=(Below.alloc hbr hbr.size (.cells #[.int .i64 x.1,.int .i64 x.2] 47)).trans ⟨rfl,rfl,rfl,Z2x _,fun _ _ => rfl⟩
     obtain ⟨w2,hw2⟩:∃ w2,(wr.alloc (.cells #[.int .i64 x.1,.int .i64 x.2] 47)).drewN nq = w2:=⟨_,rfl⟩
     rw [hw2] at e3 e4 e5 e6 e7
     go_wp2
     rw [hw2]
     clear hw2 c3' c3 c1 c2 hbr hg hgl
     go_region
     go_wp2
     refine ⟨⟨k + 1,by omega,by simp,?_,?_⟩,by simp [intOf]; omega⟩
     ·have hstep:(ts.take (k + 1)).foldl Z2O [] = Z2O (o :: os) x:=hst
      have hmerge':∀ (w2:World) (v:Int),w2.heap[g]? = some (.cells cur 47 (0,0)) → (w2.setCell ⟨g,n * 2 + 1,none⟩ (.int .i64 v)).ownsRow W.heap.size 47 2 (.slice (some ⟨g,0,none⟩) (n + 1) cp) ((o.1,v) :: os).length (Tryd.flat ((o.1,v) :: os).reverse):=hmerge
      rw [hstep,Tryd.mstep_cons,if_pos hc]
      have hmx:(if o.2 < x.2 then x.2 else o.2) = max o.2 x.2:=by split <;> omega
      first
       | exact hmerge' w2 (max o.2 x.2) e5
       | (rw [hmx]; exact hmerge' w2 (max o.2 x.2) e5)
     ·have key:∀ v,Below W.heap.size W (w2.setCell ⟨g,n * 2 + 1,none⟩ v).drew:=fun v =>
       have t:=e7.setCell (p:=⟨g,n * 2 + 1,none⟩) hbase v
       ⟨t.os,t.tape,t.output,t.size,t.block⟩
      exact key _
    ·go_wp2
     go_quiet (fail)
     have hbr:Below W.heap.size W wr:=hbr'
     have hstep:(ts.take (k + 1)).foldl Z2O [] = Z2O (o :: os) x:=hst
     have hown2:(((wr.alloc (.cells #[.int .i64 x.1,.int .i64 x.2] 47)).drewN nq).alloc (.cells #[.int .i64 x.1,.int .i64 x.2] 47)).ownsRow W.heap.size 47 2 (.slice (some ⟨g,0,none⟩) (n + 1) cp) (n + 1) (Tryd.flat (o :: os).reverse):=World.ownsRow.alloc (show ((wr.alloc (.cells #[.int .i64 x.1,.int .i64 x.2] 47)).drewN nq).ownsRow W.heap.size 47 2 (.slice (some ⟨g,0,none⟩) (n + 1) cp) (n + 1) (Tryd.flat (o :: os).reverse) from World.ownsRow.alloc (show wr.ownsRow W.heap.size 47 2 (.slice (some ⟨g,0,none⟩) (n + 1) cp) (n + 1) (Tryd.flat (o :: os).reverse) from hownL) _) _
     have hnew2:∀ j u,[Value.int .i64 x.1,.int .i64 x.2][j]? = some u → (((wr.alloc (.cells #[.int .i64 x.1,.int .i64 x.2] 47)).drewN nq).alloc (.cells #[.int .i64 x.1,.int .i64 x.2] 47)).cell? ((⟨wr.heap.size + 1,0,none⟩:Addr).add j) = some u:=by
      have:=Tryd.cell_two_new ((wr.alloc (.cells #[.int .i64 x.1,.int .i64 x.2] 47)).drewN nq) (.int .i64 x.1) (.int .i64 x.2) 47
      simpa using this
     have hsz2:W.heap.size ≤ (((wr.alloc (.cells #[.int .i64 x.1,.int .i64 x.2] 47)).drewN nq).alloc (.cells #[.int .i64 x.1,.int .i64 x.2] 47)).heap.size:=by have:=hbr.size; simp; omega
     have hb2:Below W.heap.size W (((wr.alloc (.cells #[.int .i64 x.1,.int .i64 x.2] 47)).drewN nq).alloc (.cells #[.int .i64 x.1,.int .i64 x.2] 47)):=Below.alloc (show Below W.heap.size W ((wr.alloc (.cells #[.int .i64 x.1,.int .i64 x.2] 47)).drewN nq) from (Below.alloc hbr hbr.size (.cells #[.int .i64 x.1,.int .i64 x.2] 47)).trans ⟨rfl,rfl,rfl,Z2x _,fun _ _ => rfl⟩) (by have:=hbr.size; simp; omega) _
     go_wp2_with (at_builtin; refine wpList_append_own _ rfl (.tmp 45) (.tmp 47) 28 rfl W.heap.size 47 i0 (.agg #[.int .i64 0,.int .i64 0]) 2 16 Tryd.underlying28 hi hz0 hz1 hz2 rfl (by decide) (.slice (some ⟨g,0,none⟩) (n + 1) cp) (n + 1) (Tryd.flat (o :: os).reverse) rfl hown2 ⟨wr.heap.size + 1,0,none⟩ 1 1 [.int .i64 x.1,.int .i64 x.2] rfl rfl hnew2 (by simp [Value.oneCell']) (by unfold maxLen; omega) (by omega) hsz2 ?_; intro v' w1 hown' hgrow _)
     exact ⟨⟨k + 1,by omega,by simp,by rw [hstep,Tryd.mstep_cons,if_neg (by omega),Znr,Tryd.flat_snoc]; have hn:os.length = n:=hnl; simpa [hn] using hown',hb2.grown hgrow hsz2 (fun k e => (hown2.lt k e).1)⟩,by simp [intOf]; omega⟩
  ·obtain rfl:k = N:=by omega
   go_wp2
   rw [Exit.noGoto_ret]
   go_ret
   rw [Zw0 (by omega)] at hown
   refine ⟨u4,rfl,?_,hbw.trans (hbr.mono (by omega))⟩
   rw [← hnf,List.length_reverse]
   exact ⟨hown.1,hown.2.imp id fun ⟨g,cp,cur,q1,q2,q3⟩ => ⟨g,cp,cur,q1,by omega,q3⟩⟩
set_option maxRecDepth 100000 in
set_option maxHeartbeats 4000000 in
theorem Tryd.grow_calls (n:Nat) (hn:n ≤ 1048576) (w:World) :
  Calls Tryd.prog 74 #[.slice none 0 0,.int .i64 n] w fun e W' => ∃ v,e = .returned v ∧ W'.ownsRow w.heap.size 47 2 v 0 [] ∧ Below w.heap.size w W':=by
 obtain ⟨i0,hi,hz0,hz1,hz2⟩:=info_parts Tryd.info47
 go_enter Tryd.func74,Tryd.ntmps74
 by_cases h0:0 < n
 ·have hr:=Lib.run_append_nil_zeros (P:=Tryd.prog) w 28 3 28 47 i0 (.agg #[.int .i64 0,.int .i64 0]) .i64 .i64 Tryd.underlying28 Tryd.underlying3 hi hz0 n h0 (by omega) (by omega) (by rw [hz2]; omega)
  have hge:=grownCap_ge w n 0 47
  have hle:=grownCap_le_maxLen w n 0 47 (by unfold maxLen; omega)
  go_wp2_with (at_builtin; refine Lib.wpList_append_run _ rfl (.tmp 20) (.tmp 21) 28 3 rfl (.slice none 0 0) (.int .i64 n) rfl rfl _ _ hr ?_)
  go_ret
  refine ⟨_,rfl,?_,?_⟩
  ·have:=World.ownsRow_made (base:=w.heap.size) (size:=2) w.drew (Builtin.zeroCells (Value.agg #[.int .i64 0,.int .i64 0]).cells n ++ Builtin.zeroCells (Value.agg #[.int .i64 0,.int .i64 0]).cells (grownCap w n 0 47 - n)) (grownCap w n 0 47) (e:=47) (Z2x _) hle (by
    simp [size_zeroCells,Value.cells]; omega)
   exact this
  ·have:=Below.alloc (Below.refl w.heap.size w) (Z2x _) (.cells (Builtin.zeroCells (Value.agg #[.int .i64 0,.int .i64 0]).cells n ++ Builtin.zeroCells (Value.agg #[.int .i64 0,.int .i64 0]).cells (grownCap w n 0 47 - n)) 47)
   exact ⟨this.os,this.tape,this.output,this.size,this.block⟩
 ·obtain rfl:n = 0:=by omega
  go_wp2
  go_ret
  exact ⟨_,rfl,World.ownsRow_nil _ _ _ _,Below.refl _ _⟩
def Tryd.Lists (n₀:Nat) (W:World) (sv:Value) (ls:List (List (Int × Int))):Prop :=
 ∃ a cap,sv = .slice a ls.length cap ∧ (ls = [] ∨ ∃ b off,a = some ⟨b,off,none⟩ ∧ b < n₀ ∧ ∀ i l,ls[i]? = some l → ∃ v,W.cell? ⟨b,off + i,none⟩ = some v ∧ Tryd.Lies n₀ W v l)
theorem Tryd.run_append_zero (w:World) (ty:TypeId) (b a:Option Addr) (n c cap:Nat) (hnc:n ≤ c):(Builtin.append_ #[28,28] ty #[.slice b n c,.slice a 0 cap]).run Tryd.prog w = .ok (.slice b n c) w:=by
 obtain ⟨i0,hi,hz0,hz1,hz2⟩:=info_parts Tryd.info47
 cases a <;> cases b <;> simp [Builtin.append_,run_underlying Tryd.underlying28,sizeOf,typeInfo,hi,hz1,Builtin.lenOf,Builtin.firstCells,loadCells,loadCellsFrom,hnc,storeCells]
theorem Tryd.lies_cells {W:World} {b:Nat}:∀ (l:List (Int × Int)) (off:Nat),(∀ i x,l[i]? = some x → W.cell? ⟨b,off + i * 2,none⟩ = some (.int .i64 x.1) ∧ W.cell? ⟨b,off + i * 2 + 1,none⟩ = some (.int .i64 x.2)) → ∀ t u,(Tryd.flat l)[t]? = some u → W.cell? ((⟨b,off,none⟩:Addr).add t) = some u:=by
 have e:∀ (off t:Nat),(⟨b,off,none⟩:Addr).add t = ⟨b,off + t,none⟩:=fun off t => by unfold Addr.add; split <;> simp_all
 intro l
 induction l with
 | nil => intro off _ t u h; simp [Tryd.flat] at h
 | cons x r ih =>
  intro off h t u ht
  rw [e]
  match t,ht with
  | 0,ht =>
   have h1:=(h 0 x rfl).1
   have:u = .int .i64 x.1:=by simpa [Tryd.flat,Tryd.encR] using ht.symm
   subst this
   simpa using h1
  | 1,ht =>
   have h1:=(h 0 x rfl).2
   have:u = .int .i64 x.2:=by simpa [Tryd.flat,Tryd.encR] using ht.symm
   subst this
   simpa using h1
  | t + 2,ht =>
   have:=ih (off + 2) (fun i y hy => by
    have:=h (i + 1) y (by simpa using hy)
    rwa [show off + (i + 1) * 2 = off + 2 + i * 2 by omega] at this) t u ht
   rw [e] at this
   rwa [show off + (t + 2) = off + 2 + t by omega]
theorem Tryd.flatten_take (ls:List (List (Int × Int))) {k:Nat} (h:k < ls.length):(ls.take (k + 1)).flatten = (ls.take k).flatten ++ ls[k]:=by
 rw [ZDM h,List.flatten_append]
 simp
theorem Tryd.flatten_take_le (ls:List (List (Int × Int))) (k:Nat):(ls.take k).flatten.length ≤ ls.flatten.length:=by
 have:ls.flatten = (ls.take k).flatten ++ (ls.drop k).flatten:=by rw [← List.flatten_append,ZEy]
 rw [this,q3_]
 omega
theorem Tryd.flat_append (l m:List (Int × Int)):Tryd.flat (l ++ m) = Tryd.flat l ++ Tryd.flat m:=by simp [Tryd.flat]
set_option maxRecDepth 100000 in
set_option maxHeartbeats 4000000 in
theorem Tryd.concat_calls (ls:List (List (Int × Int))) (a:Option Addr) (cap:Nat) (w:World) (hlen:ls.flatten.length ≤ 1048576) (hll:ls.length ≤ 1048576) (hI:Tryd.Lists w.heap.size w (.slice a ls.length cap) ls) :
  Calls Tryd.prog 57 #[.slice a ls.length cap] w fun e W' => ∃ v,e = .returned v ∧ W'.ownsRow w.heap.size 47 2 v ls.flatten.length (Tryd.flat ls.flatten) ∧ Below w.heap.size w W':=by
 obtain ⟨i0,hi,hz0,hz1,hz2⟩:=info_parts Tryd.info47
 obtain ⟨a',cap',he,hl⟩:=hI
 obtain ⟨rfl,rfl⟩:a = a' ∧ cap = cap':=by simpa using he
 obtain ⟨N,hN⟩:∃ N,ls.length = N:=⟨_,rfl⟩
 rw [hN] at hll ⊢
 clear he
 go_enter Tryd.func57,Tryd.ntmps57
 go_wp2
 go_loopw [3,11] (fun p3 p11 wr => ∃ k:Nat,k ≤ N ∧ p11 = .int .i64 k ∧ p3 = .int .i64 ((ls.take k).flatten.length:Nat) ∧ wr = w)
  (fun _ p11 _ => N - (intOf p11).toNat)
 case atStart => exact ⟨0,ZhD _,rfl,by simp,rfl⟩
 case round =>
  obtain ⟨k,hk,rfl,rfl,rfl⟩:=hrel
  by_cases hlt:k < N
  ·have hlt':k < ls.length:=by omega
   rcases hl with rfl | ⟨b,off,rfl,hb,hcs⟩
   ·simp at hlt'
   obtain ⟨v,c1,a2,cap2,rfl,_⟩:=hcs k ls[k] (q4_ hlt')
   have hft:=Tryd.flatten_take ls hlt'
   have h1:=Tryd.flatten_take_le ls (k + 1)
   rw [hft,q3_] at h1
   have hst:((ls.take (k + 1)).flatten.length:Nat) = (ls.take k).flatten.length + ls[k].length:=by rw [hft,q3_]
   generalize ls[k].length = m at *
   generalize (ls.take k).flatten.length = s at *
   clear hft hcs
   go_wp2
   exact ⟨⟨k + 1,by omega,by simp,by rw [hst]; simp,trivial⟩,by simp [intOf]; omega⟩
  ·obtain rfl:k = N:=by omega
   obtain ⟨w0,hw0⟩:∃ w0,w0 = wr:=⟨wr,rfl⟩
   subst hw0
   have hall:(ls.take k).flatten = ls.flatten:=by rw [Zw0 (by omega)]
   obtain ⟨T,hT⟩:∃ T,(ls.take k).flatten.length = T:=⟨_,rfl⟩
   have hg:=Tryd.grow_calls T (by rw [← hT,hall]; exact hlen) w0
   rw [hT]
   go_wp2_with (go_at_call 74; refine hg.mono ?_; rintro e W ⟨v,rfl,hown,hbel⟩)
   clear hg
   go_loopw [6,27] (fun p6 p27 wr => ∃ j:Nat,j ≤ k ∧ p27 = .int .i64 j ∧ wr.ownsRow w0.heap.size 47 2 p6 (ls.take j).flatten.length (Tryd.flat (ls.take j).flatten) ∧ Below w0.heap.size w0 wr)
    (fun _ p27 _ => k - (intOf p27).toNat)
   case atStart => exact ⟨0,ZhD _,rfl,by simpa [Tryd.flat] using hown,hbel⟩
   case round =>
    obtain ⟨j,hj,rfl,hown2,hb2⟩:=hrel
    by_cases hlt2:j < k
    ·have hlt':j < ls.length:=by omega
     rcases hl with rfl | ⟨b,off,rfl,hb,hcs⟩
     ·simp at hlt'
     obtain ⟨v2,c1,a2,cap2,rfl,hv2⟩:=hcs j ls[j] (q4_ hlt')
     have c2:=(hb2.cell (p:=⟨b,off + j,none⟩) hb).trans c1
     have hft:=Tryd.flatten_take ls hlt'
     have h1:=Tryd.flatten_take_le ls (j + 1)
     rw [hft,q3_] at h1
     have hfin:Tryd.Hid (∀ (v':Value) (w1:World),w1.ownsRow w0.heap.size 47 2 v' ((ls.take j).flatten.length + ls[j].length) (Tryd.flat (ls.take j).flatten ++ Tryd.flat ls[j]) → w1.ownsRow w0.heap.size 47 2 v' (ls.take (j + 1)).flatten.length (Tryd.flat (ls.take (j + 1)).flatten)):=by
      intro v' w1 h
      rw [hft,q3_,Tryd.flat_append]
      exact h
     obtain ⟨s,hs⟩:∃ s,(ls.take j).flatten.length = s:=⟨_,rfl⟩
     obtain ⟨m,hm⟩:∃ m,ls[j].length = m:=⟨_,rfl⟩
     rw [hs] at hown2 h1
     rw [hs,hm] at hfin
     rw [hm] at c2 h1
     obtain ⟨pb,pc,rfl,hpc⟩:∃ pb pc,u6 = .slice pb s pc ∧ s ≤ pc:=by
      rcases hown2.2 with ⟨rfl,h0⟩ | ⟨g,cp,cur,rfl,_,_,h2,_⟩
      ·exact ⟨none,0,by rw [h0],by omega⟩
      ·exact ⟨_,_,rfl,h2⟩
     have hsz2:=hb2.size
     have hb2':Tryd.Hid (Below w0.heap.size w0 wr):=hb2
     have hown2':Tryd.Hid (wr.ownsRow w0.heap.size 47 2 (.slice pb s pc) s (Tryd.flat (ls.take j).flatten)):=hown2
     rcases hv2 with hl3 | ⟨b3,off3,rfl,hb3,hcs3⟩
     ·have hm0:m = 0:=by rw [← hm,hl3]; rfl
      have hfl:Tryd.flat ls[j] = []:=by rw [hl3]; rfl
      subst hm0
      rw [hfl,Zkb] at hfin
      have hr:=Tryd.run_append_zero wr 28 pb a2 s pc cap2 hpc
      clear hft hcs hfl hl3 hm hs hown2 hb2 hbel hown
      go_wp2_with (at_builtin; refine Lib.wpList_append_run _ rfl (.tmp 31) (.tmp 32) 28 28 rfl _ _ rfl rfl _ _ hr ?_)
      exact ⟨⟨j + 1,by omega,by simp,hfin _ _ hown2',hb2'⟩,by simp [intOf]; omega⟩
     ·have hnew:=Tryd.lies_cells ls[j] off3 (fun i x hx => ⟨(hb2.cell (p:=⟨b3,off3 + i * 2,none⟩) hb3).trans (hcs3 i x hx).1,(hb2.cell (p:=⟨b3,off3 + i * 2 + 1,none⟩) hb3).trans (hcs3 i x hx).2⟩)
      have hnew':Tryd.Hid (∀ t u,(Tryd.flat ls[j])[t]? = some u → wr.cell? ((⟨b3,off3,none⟩:Addr).add t) = some u):=hnew
      have hfl:(Tryd.flat ls[j]).length = m * 2:=by rw [Tryd.flat_len,hm]
      have hone:Tryd.Hid (∀ u ∈ Tryd.flat ls[j],u.oneCell' = true):=by
       intro u hu
       obtain ⟨x,_,hx⟩:=List.mem_flatMap.1 hu
       simp [Tryd.encR] at hx
       rcases hx with rfl | rfl <;> rfl
      clear hft hcs hm hs hown2 hb2 hbel hown hcs3 hnew
      go_wp2_with (at_builtin; refine wpList_append_own _ rfl (.tmp 31) (.tmp 32) 28 rfl w0.heap.size 47 i0 (.agg #[.int .i64 0,.int .i64 0]) 2 16 Tryd.underlying28 hi hz0 hz1 hz2 rfl (by decide) (.slice pb s pc) s (Tryd.flat (ls.take j).flatten) rfl hown2' ⟨b3,off3,none⟩ m cap2 (Tryd.flat ls[j]) rfl hfl hnew' hone (by unfold maxLen; omega) (by omega) hsz2 ?_; intro v' w1 hown' hgrow _)
      have hown2:wr.ownsRow w0.heap.size 47 2 (.slice pb s pc) s (Tryd.flat (ls.take j).flatten):=hown2'
      exact ⟨⟨j + 1,by omega,by simp,hfin _ _ hown',Below.grown hb2' hgrow hsz2 (fun k e => (hown2.lt k e).1)⟩,by simp [intOf]; omega⟩
    ·obtain rfl:j = k:=by omega
     go_wp2
     go_ret
     rw [hall] at hown2
     exact ⟨_,rfl,hown2,hb2⟩
end Go.Proofs
end
