/- formula.shapes. No condition. -/
import Derived.Test.YtnclgkdpafhogaaGreatQe3
import Derived.Test.YtnclgkdpafhogaaGreatQe0
import Derived.WalkLawsBesides
import Derived.Deep.WholeRow
import Derived.Deep.CutRange
import Derived.Deep.CutBlock
set_option maxHeartbeats 16000000
set_option maxRecDepth 100000
namespace Go.Proofs.YtnclgkdpafhogaaGreat
open Go.ChangeShapes Go.WideShapes Go.ChangeAt Go.RowKit
def zli (op:Int):Value:=.agg #[.int .i64 ((za8 op).getD (0,0,0)).1,.int .i64 ((za8 op).getD (0,0,0)).2.1,.int .i64 ((za8 op).getD (0,0,0)).2.2]
theorem zun {op:Int}(h:op<1∨13≤op):za8 op=none:=by
 unfold za8
 repeat' rw[if_neg (by omega)]
theorem zg {P:Program}{Q:Exit→Act→World→Prop}{a:Act}{w:World}{ops:Array Oper}{rest:List Oper}{o:Oper}(hg:o.guard=none) (t:TypeId) (parts:Array (Nat×Operand)) (ho:o.op=.build t parts) (cells:Array Value)
  (hf:P.built t (parts.map fun (i,x)=>(i,a.eval x)).toList=some cells) (h:wpList P ops Q rest (a.put o.dst (.agg cells)) w):wpList P ops Q (o::rest) a w :=
 wpList_build hg t parts ho (by rw[hf];rfl) (by rw[hf];exact h)
def zev:Array Value:=#[.int .i64 0,.int .i64 0,.int .i64 0,.int .i64 0,.int .i64 0,.int .i64 0,.int .i64 0,.int .i64 0,.int .i64 0,.int .i64 0,.int .i64 1,.int .i64 0,.int .i64 0,.int .i64 2,.int .i64 0,.int .i64 0,.int .i64 0,.int .i64 1,.int .i64 0,.int .i64 0,.int .i64 (-2),.int .i64 0,.int .i64 0,.int .i64 (-2),.int .i64 0,.int .i64 0,.int .i64 2,.int .i64 0,.int .i64 0,.int .i64 2,.int .i64 0,.int .i64 0,.int .i64 2,.int .i64 (-1),.int .i64 0,.int .i64 1,.int .i64 (-1),.int .i64 0,.int .i64 1]
def zht:Array Value:=#[.int .i64 0,.int .i64 0,.int .i64 0,.int .i64 0,.int .i64 0,.int .i64 0,.int .i64 0,.int .i64 0,.int .i64 0,.int .i64 0,.int .i64 0,.int .i64 0,.int .i64 0,.int .i64 0,.int .i64 0,.int .i64 0,.int .i64 0,.int .i64 0,.int .i64 0,.int .i64 0,.int .i64 0,.int .i64 0,.int .i64 0,.int .i64 0,.int .i64 0,.int .i64 0,.int .i64 0,.int .i64 0,.int .i64 0,.int .i64 0,.int .i64 0,.int .i64 0,.int .i64 0,.int .i64 0,.int .i64 0,.int .i64 0,.int .i64 0,.int .i64 0,.int .i64 0]
theorem zb2 {w W:World}{nb:Nat}{z0 z1 z2:Value}(hx:Ext w W) (hn:Own W nb [z0,z1,z2]) (hnb:w.heap.size≤nb) (x0 x1 x2:Value){fn:Func}{R:Ending→World→Prop}{a:Act}{v:Value}
  (hr:∀W2:World,W2.cell? ⟨nb,0,none⟩=some x0→W2.cell? ⟨nb,1,none⟩=some x1→W2.cell? ⟨nb,2,none⟩=some x2→(results fn a.tmps).run Tryz.prog W2=.ok v W2) (hd:a.defers=[])
  (hR:∀W2,Ext w W2→R (.returned v) W2):bodyPost Tryz.prog fn R .ret a (((W.setCell ⟨nb,0,none⟩ x0).setCell ⟨nb,1,none⟩ x1).setCell ⟨nb,2,none⟩ x2):=by
 have hres:=zc8 hn x0 x1 x2
 exact bodyPost_ret (hr _ (hres 0 _ rfl).1 (hres 1 _ rfl).1 (hres 2 _ rfl).1) hd (hR _ (Below.setCell (Below.setCell (Below.setCell hx hnb _) hnb _) hnb _))
theorem zuo (op:Int) (w:World):Calls Tryz.prog 98 #[.int .i64 op] w fun e w'=>e=.returned (.tuple #[zli op,.bool (za8 op).isSome])∧Ext w w':=by
 go_enter Tryz.func98,Tryz.ntmps98
 go_upto_region 1 with fail
 refine wp_region_lit ?_
 refine zg rfl 134 _ rfl #[.int .i64 0,.int .i64 0,.int .i64 0] (by kernel_rfl) ?_
 simp only[Act.put,List.setIfInBounds_toArray,List.set_cons_zero,List.set_cons_succ]
 refine zg rfl 134 _ rfl #[.int .i64 0,.int .i64 0,.int .i64 0] (by kernel_rfl) ?_
 simp only[Act.put,List.setIfInBounds_toArray,List.set_cons_zero,List.set_cons_succ]
 refine zg rfl 134 _ rfl #[.int .i64 0,.int .i64 1,.int .i64 0] (by kernel_rfl) ?_
 simp only[Act.put,List.setIfInBounds_toArray,List.set_cons_zero,List.set_cons_succ]
 refine zg rfl 134 _ rfl #[.int .i64 0,.int .i64 2,.int .i64 0] (by kernel_rfl) ?_
 simp only[Act.put,List.setIfInBounds_toArray,List.set_cons_zero,List.set_cons_succ]
 refine zg rfl 134 _ rfl #[.int .i64 0,.int .i64 0,.int .i64 1] (by kernel_rfl) ?_
 simp only[Act.put,List.setIfInBounds_toArray,List.set_cons_zero,List.set_cons_succ]
 refine zg rfl 134 _ rfl #[.int .i64 0,.int .i64 0,.int .i64 (-2)] (by kernel_rfl) ?_
 simp only[Act.put,List.setIfInBounds_toArray,List.set_cons_zero,List.set_cons_succ]
 refine zg rfl 134 _ rfl #[.int .i64 0,.int .i64 0,.int .i64 (-2)] (by kernel_rfl) ?_
 simp only[Act.put,List.setIfInBounds_toArray,List.set_cons_zero,List.set_cons_succ]
 refine zg rfl 134 _ rfl #[.int .i64 0,.int .i64 0,.int .i64 2] (by kernel_rfl) ?_
 simp only[Act.put,List.setIfInBounds_toArray,List.set_cons_zero,List.set_cons_succ]
 refine zg rfl 134 _ rfl #[.int .i64 0,.int .i64 0,.int .i64 2] (by kernel_rfl) ?_
 simp only[Act.put,List.setIfInBounds_toArray,List.set_cons_zero,List.set_cons_succ]
 refine zg rfl 134 _ rfl #[.int .i64 0,.int .i64 0,.int .i64 2] (by kernel_rfl) ?_
 simp only[Act.put,List.setIfInBounds_toArray,List.set_cons_zero,List.set_cons_succ]
 refine zg rfl 134 _ rfl #[.int .i64 (-1),.int .i64 0,.int .i64 1] (by kernel_rfl) ?_
 simp only[Act.put,List.setIfInBounds_toArray,List.set_cons_zero,List.set_cons_succ]
 refine zg rfl 134 _ rfl #[.int .i64 (-1),.int .i64 0,.int .i64 1] (by kernel_rfl) ?_
 simp only[Act.put,List.setIfInBounds_toArray,List.set_cons_zero,List.set_cons_succ]
 refine zg rfl 170 _ rfl zev (by kernel_rfl) ?_
 simp only[Act.put,List.setIfInBounds_toArray,List.set_cons_zero,List.set_cons_succ]
 refine wpList_plain rfl fun K hK=>?_
 go_simp
 refine hK _ _ ?_
 clear hK K
 have hrow:=World.setRow_alloc_new (w.alloc (.cells #[.int .i64 0,.int .i64 0,.int .i64 0] 134)) zht zev 170
 rw[World.size_alloc]at hrow
 unfold zht at hrow
 refine wpList_store_row rfl 170 _ _ rfl (w.heap.size+1) zev rfl rfl 170 zht (by have:=heap_alloc_new (w.alloc (.cells #[.int .i64 0,.int .i64 0,.int .i64 0] 134)) (.cells zht 170);rw[World.size_alloc]at this;exact this) (by kernel_rfl) rfl (by decide +kernel) ?_
 rw[hrow]
 clear hrow
 simp only[Act.put]
 obtain⟨W,hW⟩:∃W,W=(w.alloc (.cells #[.int .i64 0,.int .i64 0,.int .i64 0] 134)).alloc (.cells zev 170):=⟨_,rfl⟩
 have hx:Ext w W:=by rw[hW];exact(zb _ _).alloc _
 have hn:Own W w.heap.size [.int .i64 0,.int .i64 0,.int .i64 0]:=by rw[hW];exact(own3 w _ _ _ _).ext (zb _ _)
 have hcell:∀i v,zev[i]?=some v→W.cell? ⟨w.heap.size+1,i,none⟩=some v:=by
  intro i v hv
  have h1:W.heap[w.heap.size+1]?=some (.cells zev 170):=by rw[hW];have:=heap_alloc_new (w.alloc (.cells #[.int .i64 0,.int .i64 0,.int .i64 0] 134)) (.cells zev 170);rw[World.size_alloc]at this;exact this
  unfold World.cell?
  rw[h1]
  exact hv
 rw[←hW]
 clear hW
 have HC:=Lib.hid hcell
 clear hcell
 obtain⟨n0,g0⟩:=hn 0 _ rfl
 obtain⟨n1,g1⟩:=hn 1 _ rfl
 obtain⟨n2,g2⟩:=hn 2 _ rfl
 by_cases h:op<1∨13≤op
 ·have HS:=Lib.hid (zun h)
  have hb:op<1∨(¬op<1∧13≤op):=by omega
  clear h
  rcases hb with hb|⟨hb,hb'⟩
  all_goals
   go_wp2
   exact zb2 hx hn (Nat.le_refl _) _ _ _ (v:=.tuple #[.agg #[.int .i64 0,.int .i64 0,.int .i64 0],.bool false]) (fun W2 r0 r1 r2=>by simp[results,Tryz.results98,go_sem,r0,r1,r2]) rfl fun W2 hx2=>⟨by unfold zli;rw[HS.out];rfl,hx2⟩
 ·have hc:op=1∨op=2∨op=3∨op=4∨op=5∨op=6∨op=7∨op=8∨op=9∨op=10∨op=11∨op=12:=by omega
  clear h
  rcases hc with rfl|rfl|rfl|rfl|rfl|rfl|rfl|rfl|rfl|rfl|rfl|rfl
  ·have c0:=HC.out 3 (.int .i64 0) rfl
   have c1:=HC.out 4 (.int .i64 0) rfl
   have c2:=HC.out 5 (.int .i64 0) rfl
   go_wp2
   exact zb2 hx hn (Nat.le_refl _) _ _ _ (v:=.tuple #[.agg #[.int .i64 0,.int .i64 0,.int .i64 0],.bool true]) (fun W2 r0 r1 r2=>by simp[results,Tryz.results98,go_sem,r0,r1,r2]) rfl fun W2 hx2=>⟨rfl,hx2⟩
  ·have c0:=HC.out 6 (.int .i64 0) rfl
   have c1:=HC.out 7 (.int .i64 0) rfl
   have c2:=HC.out 8 (.int .i64 0) rfl
   go_wp2
   exact zb2 hx hn (Nat.le_refl _) _ _ _ (v:=.tuple #[.agg #[.int .i64 0,.int .i64 0,.int .i64 0],.bool true]) (fun W2 r0 r1 r2=>by simp[results,Tryz.results98,go_sem,r0,r1,r2]) rfl fun W2 hx2=>⟨rfl,hx2⟩
  ·have c0:=HC.out 9 (.int .i64 0) rfl
   have c1:=HC.out 10 (.int .i64 1) rfl
   have c2:=HC.out 11 (.int .i64 0) rfl
   go_wp2
   exact zb2 hx hn (Nat.le_refl _) _ _ _ (v:=.tuple #[.agg #[.int .i64 0,.int .i64 1,.int .i64 0],.bool true]) (fun W2 r0 r1 r2=>by simp[results,Tryz.results98,go_sem,r0,r1,r2]) rfl fun W2 hx2=>⟨rfl,hx2⟩
  ·have c0:=HC.out 12 (.int .i64 0) rfl
   have c1:=HC.out 13 (.int .i64 2) rfl
   have c2:=HC.out 14 (.int .i64 0) rfl
   go_wp2
   exact zb2 hx hn (Nat.le_refl _) _ _ _ (v:=.tuple #[.agg #[.int .i64 0,.int .i64 2,.int .i64 0],.bool true]) (fun W2 r0 r1 r2=>by simp[results,Tryz.results98,go_sem,r0,r1,r2]) rfl fun W2 hx2=>⟨rfl,hx2⟩
  ·have c0:=HC.out 15 (.int .i64 0) rfl
   have c1:=HC.out 16 (.int .i64 0) rfl
   have c2:=HC.out 17 (.int .i64 1) rfl
   go_wp2
   exact zb2 hx hn (Nat.le_refl _) _ _ _ (v:=.tuple #[.agg #[.int .i64 0,.int .i64 0,.int .i64 1],.bool true]) (fun W2 r0 r1 r2=>by simp[results,Tryz.results98,go_sem,r0,r1,r2]) rfl fun W2 hx2=>⟨rfl,hx2⟩
  ·have c0:=HC.out 18 (.int .i64 0) rfl
   have c1:=HC.out 19 (.int .i64 0) rfl
   have c2:=HC.out 20 (.int .i64 (-2)) rfl
   go_wp2
   exact zb2 hx hn (Nat.le_refl _) _ _ _ (v:=.tuple #[.agg #[.int .i64 0,.int .i64 0,.int .i64 (-2)],.bool true]) (fun W2 r0 r1 r2=>by simp[results,Tryz.results98,go_sem,r0,r1,r2]) rfl fun W2 hx2=>⟨rfl,hx2⟩
  ·have c0:=HC.out 21 (.int .i64 0) rfl
   have c1:=HC.out 22 (.int .i64 0) rfl
   have c2:=HC.out 23 (.int .i64 (-2)) rfl
   go_wp2
   exact zb2 hx hn (Nat.le_refl _) _ _ _ (v:=.tuple #[.agg #[.int .i64 0,.int .i64 0,.int .i64 (-2)],.bool true]) (fun W2 r0 r1 r2=>by simp[results,Tryz.results98,go_sem,r0,r1,r2]) rfl fun W2 hx2=>⟨rfl,hx2⟩
  ·have c0:=HC.out 24 (.int .i64 0) rfl
   have c1:=HC.out 25 (.int .i64 0) rfl
   have c2:=HC.out 26 (.int .i64 2) rfl
   go_wp2
   exact zb2 hx hn (Nat.le_refl _) _ _ _ (v:=.tuple #[.agg #[.int .i64 0,.int .i64 0,.int .i64 2],.bool true]) (fun W2 r0 r1 r2=>by simp[results,Tryz.results98,go_sem,r0,r1,r2]) rfl fun W2 hx2=>⟨rfl,hx2⟩
  ·have c0:=HC.out 27 (.int .i64 0) rfl
   have c1:=HC.out 28 (.int .i64 0) rfl
   have c2:=HC.out 29 (.int .i64 2) rfl
   go_wp2
   exact zb2 hx hn (Nat.le_refl _) _ _ _ (v:=.tuple #[.agg #[.int .i64 0,.int .i64 0,.int .i64 2],.bool true]) (fun W2 r0 r1 r2=>by simp[results,Tryz.results98,go_sem,r0,r1,r2]) rfl fun W2 hx2=>⟨rfl,hx2⟩
  ·have c0:=HC.out 30 (.int .i64 0) rfl
   have c1:=HC.out 31 (.int .i64 0) rfl
   have c2:=HC.out 32 (.int .i64 2) rfl
   go_wp2
   exact zb2 hx hn (Nat.le_refl _) _ _ _ (v:=.tuple #[.agg #[.int .i64 0,.int .i64 0,.int .i64 2],.bool true]) (fun W2 r0 r1 r2=>by simp[results,Tryz.results98,go_sem,r0,r1,r2]) rfl fun W2 hx2=>⟨rfl,hx2⟩
  ·have c0:=HC.out 33 (.int .i64 (-1)) rfl
   have c1:=HC.out 34 (.int .i64 0) rfl
   have c2:=HC.out 35 (.int .i64 1) rfl
   go_wp2
   exact zb2 hx hn (Nat.le_refl _) _ _ _ (v:=.tuple #[.agg #[.int .i64 (-1),.int .i64 0,.int .i64 1],.bool true]) (fun W2 r0 r1 r2=>by simp[results,Tryz.results98,go_sem,r0,r1,r2]) rfl fun W2 hx2=>⟨rfl,hx2⟩
  ·have c0:=HC.out 36 (.int .i64 (-1)) rfl
   have c1:=HC.out 37 (.int .i64 0) rfl
   have c2:=HC.out 38 (.int .i64 1) rfl
   go_wp2
   exact zb2 hx hn (Nat.le_refl _) _ _ _ (v:=.tuple #[.agg #[.int .i64 (-1),.int .i64 0,.int .i64 1],.bool true]) (fun W2 r0 r1 r2=>by simp[results,Tryz.results98,go_sem,r0,r1,r2]) rfl fun W2 hx2=>⟨rfl,hx2⟩
end Go.Proofs.YtnclgkdpafhogaaGreat
