/- formula.writer's form, from what it does on the parts. Conditions: formulas that may be, of at most 4194304 parts; the text is shorter than 2^47. -/
import Derived.Test.YtnclgkdpafhogaaGreatQe29
set_option maxHeartbeats 16000000
set_option maxRecDepth 100000
namespace Go.Proofs.YtnclgkdpafhogaaGreat
open Go.ChangeShapes Go.WideShapes Go.ChangeAt Go.RowKit
theorem zb5:∀(l:List Fm) (first:Bool) (sep:List UInt8) (k:Nat),(Fm.units first sep (l.take k)).length≤(Fm.units first sep l).length
 |[],_,_,_=>by simp[Fm.units]
 |e::l,first,sep,0=>by simp[Fm.units]
 |e::l,first,sep,k+1=>by
  have:=zb5 l false sep k
  simp only[List.take_succ_cons,Fm.units,List.length_append];omega
def zk:Array Value:=#[.string ⟨#[]⟩,.string ⟨#[]⟩,.string ⟨#[]⟩,.string ⟨#[]⟩,.string ⟨#[]⟩,.string ⟨#[]⟩,.string ⟨#[32,38,32]⟩,.string ⟨#[32,124,32]⟩,.string ⟨#[32,61,62,32]⟩,.string ⟨#[32,60,61,62,32]⟩,.string ⟨#[32,60,126,62,32]⟩,.string ⟨#[33,32,91]⟩,.string ⟨#[63,32,91]⟩]
def zi:Array Value:=#[.string ⟨#[]⟩,.string ⟨#[]⟩,.string ⟨#[]⟩,.string ⟨#[]⟩,.string ⟨#[]⟩,.string ⟨#[]⟩,.string ⟨#[]⟩,.string ⟨#[]⟩,.string ⟨#[]⟩,.string ⟨#[]⟩,.string ⟨#[]⟩,.string ⟨#[]⟩,.string ⟨#[]⟩]
theorem zw1 {P:Nat→Prop}{w0 w:World}{b:Nat}{acc:List UInt8}{x y z u:Value}{v:List ByteArray}{t:List Ex}{l:List Fm}(ht:IsFm P w0 x y z u (.mk 1 v t l)) (hx0:Ext w0 w) (hb0:w0.heap.size≤b) (hbw:b<w.heap.size) (hbld:BldT 84 b acc w)
  (hlen:acc.length+(Fm.mk 1 v t l).text.length≤140737488355328) :
  Calls Tryz.prog 46 #[.pointer (some ⟨b,0,none⟩),.agg #[x,y,z,u]] w (zdf b acc (Fm.mk 1 v t l).text w):=by
 obtain⟨b1,c1,b2,c2,b3,c3,rfl,rfl,rfl,rfl,-,-,hvc,htc,hlc,hvs,hts,hls⟩:=ht.form
 simp only[Fm.op,Fm.vars,Fm.terms,Fm.args]at hvc htc hlc hvs hts hls ⊢
 obtain⟨W,hW⟩:∃W,W=w.alloc (.cells #[.int .i64 1,.slice b1 v.length c1,.slice b2 t.length c2,.slice b3 l.length c3] 29):=⟨_,rfl⟩
 have hfW:BFr b w W:=by rw[hW];exact(BFr.refl b w).alloc' (Nat.le_of_lt hbw) _
 have hbW:BldT 84 b acc W:=by rw[hW];exact hbld.alloc _
 have hoW:W.heap[w.heap.size]?=some (.cells #[.int .i64 1,.slice b1 v.length c1,.slice b2 t.length c2,.slice b3 l.length c3] 29 (0,0)):=by rw[hW];exact zal _ _
 have hsW:b<W.heap.size:=by rw[hW];simp;omega
 obtain⟨V,hV⟩:∃V,V=W.alloc (.cells zk 126):=⟨_,rfl⟩
 have hfV:BFr b w V:=by rw[hV];exact hfW.alloc' (Nat.le_of_lt hsW) _
 have hbV:BldT 84 b acc V:=by rw[hV];exact hbW.alloc _
 have hoV:V.heap[w.heap.size]?=some (.cells #[.int .i64 1,.slice b1 v.length c1,.slice b2 t.length c2,.slice b3 l.length c3] 29 (0,0)):=by rw[hV];exact zej hoW _
 have hrV:V.heap[W.heap.size]?=some (.cells zk 126 (0,0)):=by rw[hV];exact zal _ _
 have hsV:b<V.heap.size:=by rw[hV];simp;omega
 have hx0V:Ext w0 V:=hfV.ext' hx0 hb0
 have k0:=zd hoV 0
 have k1:=zd hoV 1
 have k2:=zd hoV 2
 have k3:=zd hoV 3
 simp only[List.getElem?_toArray,List.getElem?_cons_succ,List.getElem?_cons_zero]at k0 k1 k2 k3
 clear ht hbW hoW
 have HT:=Lib.hid (show(Fm.mk 1 v t l).text=(⟨#[36,116,114,117,101]⟩:ByteArray).data.toList by rw[Fm.text1.1];rfl)
 rw[HT.out]at hlen
 have HW:=Lib.hid (zn zah b acc ⟨#[36,116,114,117,101]⟩ V hbV (by have h:ByteArray.size ⟨#[36,116,114,117,101]⟩=5:=rfl;simp at hlen;omega) (Nat.le_of_lt hsV))
 clear hlen
 go_enter Tryz.func46,Tryz.ntmps46
 go_upto_region 1 with fail
 rw[←hW]
 clear hW
 refine wp_region_lit ?_
 refine zg rfl 126 _ rfl zk (by kernel_rfl) ?_
 simp only[Act.put,List.setIfInBounds_toArray,List.set_cons_zero,List.set_cons_succ]
 refine wpList_plain rfl fun K hK=>?_
 go_simp
 refine hK _ _ ?_
 clear hK K
 have hrow:=World.setRow_alloc_new W zi zk 126
 unfold zi at hrow
 refine wpList_store_row rfl 126 _ _ rfl W.heap.size zk rfl rfl 126 zi (heap_alloc_new W (.cells zi 126)) (by kernel_rfl) rfl (by decide +kernel) ?_
 rw[hrow]
 clear hrow
 simp only[Act.put]
 rw[←hV]
 clear hV
 go_wp2_with (go_at_call 76;refine(HW.out).mono ?_;rintro e w3 ⟨rfl,hb3,hf3⟩)
 go_returns
 exact⟨rfl,by rw[HT.out];exact hb3,hfV.trans hf3⟩
theorem zw2 {P:Nat→Prop}{w0 w:World}{b:Nat}{acc:List UInt8}{x y z u:Value}{v:List ByteArray}{t:List Ex}{l:List Fm}(ht:IsFm P w0 x y z u (.mk 2 v t l)) (hx0:Ext w0 w) (hb0:w0.heap.size≤b) (hbw:b<w.heap.size) (hbld:BldT 84 b acc w)
  (hlen:acc.length+(Fm.mk 2 v t l).text.length≤140737488355328) :
  Calls Tryz.prog 46 #[.pointer (some ⟨b,0,none⟩),.agg #[x,y,z,u]] w (zdf b acc (Fm.mk 2 v t l).text w):=by
 obtain⟨b1,c1,b2,c2,b3,c3,rfl,rfl,rfl,rfl,-,-,hvc,htc,hlc,hvs,hts,hls⟩:=ht.form
 simp only[Fm.op,Fm.vars,Fm.terms,Fm.args]at hvc htc hlc hvs hts hls ⊢
 obtain⟨W,hW⟩:∃W,W=w.alloc (.cells #[.int .i64 2,.slice b1 v.length c1,.slice b2 t.length c2,.slice b3 l.length c3] 29):=⟨_,rfl⟩
 have hfW:BFr b w W:=by rw[hW];exact(BFr.refl b w).alloc' (Nat.le_of_lt hbw) _
 have hbW:BldT 84 b acc W:=by rw[hW];exact hbld.alloc _
 have hoW:W.heap[w.heap.size]?=some (.cells #[.int .i64 2,.slice b1 v.length c1,.slice b2 t.length c2,.slice b3 l.length c3] 29 (0,0)):=by rw[hW];exact zal _ _
 have hsW:b<W.heap.size:=by rw[hW];simp;omega
 obtain⟨V,hV⟩:∃V,V=W.alloc (.cells zk 126):=⟨_,rfl⟩
 have hfV:BFr b w V:=by rw[hV];exact hfW.alloc' (Nat.le_of_lt hsW) _
 have hbV:BldT 84 b acc V:=by rw[hV];exact hbW.alloc _
 have hoV:V.heap[w.heap.size]?=some (.cells #[.int .i64 2,.slice b1 v.length c1,.slice b2 t.length c2,.slice b3 l.length c3] 29 (0,0)):=by rw[hV];exact zej hoW _
 have hrV:V.heap[W.heap.size]?=some (.cells zk 126 (0,0)):=by rw[hV];exact zal _ _
 have hsV:b<V.heap.size:=by rw[hV];simp;omega
 have hx0V:Ext w0 V:=hfV.ext' hx0 hb0
 have k0:=zd hoV 0
 have k1:=zd hoV 1
 have k2:=zd hoV 2
 have k3:=zd hoV 3
 simp only[List.getElem?_toArray,List.getElem?_cons_succ,List.getElem?_cons_zero]at k0 k1 k2 k3
 clear ht hbW hoW
 have HT:=Lib.hid (show(Fm.mk 2 v t l).text=(⟨#[36,102,97,108,115,101]⟩:ByteArray).data.toList by rw[Fm.text2.1];rfl)
 rw[HT.out]at hlen
 have HW:=Lib.hid (zn zah b acc ⟨#[36,102,97,108,115,101]⟩ V hbV (by have h:ByteArray.size ⟨#[36,102,97,108,115,101]⟩=6:=rfl;simp at hlen;omega) (Nat.le_of_lt hsV))
 clear hlen
 go_enter Tryz.func46,Tryz.ntmps46
 go_upto_region 1 with fail
 rw[←hW]
 clear hW
 refine wp_region_lit ?_
 refine zg rfl 126 _ rfl zk (by kernel_rfl) ?_
 simp only[Act.put,List.setIfInBounds_toArray,List.set_cons_zero,List.set_cons_succ]
 refine wpList_plain rfl fun K hK=>?_
 go_simp
 refine hK _ _ ?_
 clear hK K
 have hrow:=World.setRow_alloc_new W zi zk 126
 unfold zi at hrow
 refine wpList_store_row rfl 126 _ _ rfl W.heap.size zk rfl rfl 126 zi (heap_alloc_new W (.cells zi 126)) (by kernel_rfl) rfl (by decide +kernel) ?_
 rw[hrow]
 clear hrow
 simp only[Act.put]
 rw[←hV]
 clear hV
 go_wp2_with (go_at_call 76;refine(HW.out).mono ?_;rintro e w3 ⟨rfl,hb3,hf3⟩)
 go_returns
 exact⟨rfl,by rw[HT.out];exact hb3,hfV.trans hf3⟩
theorem zw3 {P:Nat→Prop}{w0 w:World}{b:Nat}{acc:List UInt8}{x y z u:Value}{v:List ByteArray}{t:List Ex}{l:List Fm}(ht:IsFm P w0 x y z u (.mk 3 v t l)) (hx0:Ext w0 w) (hb0:w0.heap.size≤b) (hbw:b<w.heap.size) (hbld:BldT 84 b acc w)
  (hlen:acc.length+(Fm.mk 3 v t l).text.length≤140737488355328) (h1:t.length=1) (hm:∀x∈t,x.may=true) (hs:Ex.sizes t≤4194304) :
  Calls Tryz.prog 46 #[.pointer (some ⟨b,0,none⟩),.agg #[x,y,z,u]] w (zdf b acc (Fm.mk 3 v t l).text w):=by
 obtain⟨b1,c1,b2,c2,b3,c3,rfl,rfl,rfl,rfl,-,-,hvc,htc,hlc,hvs,hts,hls⟩:=ht.form
 simp only[Fm.op,Fm.vars,Fm.terms,Fm.args]at hvc htc hlc hvs hts hls ⊢
 obtain⟨e,rfl⟩:∃e,t=[e]:=by match t,h1 with|[e],_=>exact⟨e,rfl⟩
 obtain⟨W,hW⟩:∃W,W=w.alloc (.cells #[.int .i64 3,.slice b1 v.length c1,.slice b2 [e].length c2,.slice b3 l.length c3] 29):=⟨_,rfl⟩
 have hfW:BFr b w W:=by rw[hW];exact(BFr.refl b w).alloc' (Nat.le_of_lt hbw) _
 have hbW:BldT 84 b acc W:=by rw[hW];exact hbld.alloc _
 have hoW:W.heap[w.heap.size]?=some (.cells #[.int .i64 3,.slice b1 v.length c1,.slice b2 [e].length c2,.slice b3 l.length c3] 29 (0,0)):=by rw[hW];exact zal _ _
 have hsW:b<W.heap.size:=by rw[hW];simp;omega
 obtain⟨V,hV⟩:∃V,V=W.alloc (.cells zk 126):=⟨_,rfl⟩
 have hfV:BFr b w V:=by rw[hV];exact hfW.alloc' (Nat.le_of_lt hsW) _
 have hbV:BldT 84 b acc V:=by rw[hV];exact hbW.alloc _
 have hoV:V.heap[w.heap.size]?=some (.cells #[.int .i64 3,.slice b1 v.length c1,.slice b2 [e].length c2,.slice b3 l.length c3] 29 (0,0)):=by rw[hV];exact zej hoW _
 have hrV:V.heap[W.heap.size]?=some (.cells zk 126 (0,0)):=by rw[hV];exact zal _ _
 have hsV:b<V.heap.size:=by rw[hV];simp;omega
 have hx0V:Ext w0 V:=hfV.ext' hx0 hb0
 have k0:=zd hoV 0
 have k1:=zd hoV 1
 have k2:=zd hoV 2
 have k3:=zd hoV 3
 simp only[List.getElem?_toArray,List.getElem?_cons_succ,List.getElem?_cons_zero]at k0 k1 k2 k3
 clear ht hbW hoW
 have HT:=Lib.hid (show(Fm.mk 3 v [e] l).text=e.text by rw[Fm.text3.1];rfl)
 rw[HT.out]at hlen
 obtain⟨b',o',a',c',rfl,-,g1,g2,g3,hi⟩:=hts.look (i:=0) (by simp)
 simp only[List.getElem_cons_zero,Nat.zero_mul,Nat.add_zero]at g1 g2 g3 hi
 have g1':=hx0V.cell g1
 have g2':=hx0V.cell g2
 have g3':=hx0V.cell g3
 have HX:=Lib.hid (zlc e (hm e (by simp)) P w0 V b acc _ _ _ hi (by simp only[Ex.sizes]at hs;omega) hx0V hb0 hsV hbV hlen)
 clear hi hts hlen hm
 simp only[List.length_cons,List.length_nil,Nat.zero_add]at hW hoV k2 ⊢
 go_enter Tryz.func46,Tryz.ntmps46
 go_upto_region 1 with fail
 rw[←hW]
 clear hW
 refine wp_region_lit ?_
 refine zg rfl 126 _ rfl zk (by kernel_rfl) ?_
 simp only[Act.put,List.setIfInBounds_toArray,List.set_cons_zero,List.set_cons_succ]
 refine wpList_plain rfl fun K hK=>?_
 go_simp
 refine hK _ _ ?_
 clear hK K
 have hrow:=World.setRow_alloc_new W zi zk 126
 unfold zi at hrow
 refine wpList_store_row rfl 126 _ _ rfl W.heap.size zk rfl rfl 126 zi (heap_alloc_new W (.cells zi 126)) (by kernel_rfl) rfl (by decide +kernel) ?_
 rw[hrow]
 clear hrow
 simp only[Act.put]
 rw[←hV]
 clear hV
 go_wp2_with (go_at_call 89;refine(HX.out).mono ?_;rintro e w3 ⟨rfl,hb3,hf3⟩)
 go_returns
 exact⟨rfl,by rw[HT.out];exact hb3,hfV.trans hf3⟩
theorem zw4 {P:Nat→Prop}{w0 w:World}{b:Nat}{acc:List UInt8}{x y z u:Value}{v:List ByteArray}{t:List Ex}{l:List Fm}(ht:IsFm P w0 x y z u (.mk 4 v t l)) (hx0:Ext w0 w) (hb0:w0.heap.size≤b) (hbw:b<w.heap.size) (hbld:BldT 84 b acc w)
  (hlen:acc.length+(Fm.mk 4 v t l).text.length≤140737488355328) (h1:t.length=2) (hm:∀x∈t,x.may=true) (hs:Ex.sizes t≤4194304) :
  Calls Tryz.prog 46 #[.pointer (some ⟨b,0,none⟩),.agg #[x,y,z,u]] w (zdf b acc (Fm.mk 4 v t l).text w):=by
 obtain⟨b1,c1,b2,c2,b3,c3,rfl,rfl,rfl,rfl,-,-,hvc,htc,hlc,hvs,hts,hls⟩:=ht.form
 simp only[Fm.op,Fm.vars,Fm.terms,Fm.args]at hvc htc hlc hvs hts hls ⊢
 obtain⟨e1,e2,rfl⟩:∃e1 e2,t=[e1,e2]:=by match t,h1 with|[e1,e2],_=>exact⟨e1,e2,rfl⟩
 obtain⟨W,hW⟩:∃W,W=w.alloc (.cells #[.int .i64 4,.slice b1 v.length c1,.slice b2 [e1,e2].length c2,.slice b3 l.length c3] 29):=⟨_,rfl⟩
 have hfW:BFr b w W:=by rw[hW];exact(BFr.refl b w).alloc' (Nat.le_of_lt hbw) _
 have hbW:BldT 84 b acc W:=by rw[hW];exact hbld.alloc _
 have hoW:W.heap[w.heap.size]?=some (.cells #[.int .i64 4,.slice b1 v.length c1,.slice b2 [e1,e2].length c2,.slice b3 l.length c3] 29 (0,0)):=by rw[hW];exact zal _ _
 have hsW:b<W.heap.size:=by rw[hW];simp;omega
 obtain⟨V,hV⟩:∃V,V=W.alloc (.cells zk 126):=⟨_,rfl⟩
 have hfV:BFr b w V:=by rw[hV];exact hfW.alloc' (Nat.le_of_lt hsW) _
 have hbV:BldT 84 b acc V:=by rw[hV];exact hbW.alloc _
 have hoV:V.heap[w.heap.size]?=some (.cells #[.int .i64 4,.slice b1 v.length c1,.slice b2 [e1,e2].length c2,.slice b3 l.length c3] 29 (0,0)):=by rw[hV];exact zej hoW _
 have hrV:V.heap[W.heap.size]?=some (.cells zk 126 (0,0)):=by rw[hV];exact zal _ _
 have hsV:b<V.heap.size:=by rw[hV];simp;omega
 have hx0V:Ext w0 V:=hfV.ext' hx0 hb0
 have k0:=zd hoV 0
 have k1:=zd hoV 1
 have k2:=zd hoV 2
 have k3:=zd hoV 3
 simp only[List.getElem?_toArray,List.getElem?_cons_succ,List.getElem?_cons_zero]at k0 k1 k2 k3
 clear hbW hoW
 have HT:=Lib.hid (show(Fm.mk 4 v [e1,e2] l).text=e1.text++((⟨#[32,61,32]⟩:ByteArray).data.toList++e2.text) by rw[Fm.text4.1];rfl)
 rw[HT.out]at hlen
 have HX:=Lib.hid (zho (f:=.mk 4 v [e1,e2] l) rfl (hm e1 (by simp)) (hm e2 (by simp)) (by simp only[Ex.sizes]at hs;omega) (by simp only[Ex.sizes]at hs;omega) ⟨#[32,61,32]⟩ ht hx0V hb0 hsV hbV (by have h:ByteArray.size ⟨#[32,61,32]⟩=3:=rfl;simp only[List.length_append,List.length_cons,List.length_nil]at hlen;omega))
 clear hlen hm ht
 simp only[List.length_cons,List.length_nil,Nat.zero_add,Nat.reduceAdd]at hW hoV k2 HX ⊢
 go_enter Tryz.func46,Tryz.ntmps46
 go_upto_region 1 with fail
 rw[←hW]
 clear hW
 refine wp_region_lit ?_
 refine zg rfl 126 _ rfl zk (by kernel_rfl) ?_
 simp only[Act.put,List.setIfInBounds_toArray,List.set_cons_zero,List.set_cons_succ]
 refine wpList_plain rfl fun K hK=>?_
 go_simp
 refine hK _ _ ?_
 clear hK K
 have hrow:=World.setRow_alloc_new W zi zk 126
 unfold zi at hrow
 refine wpList_store_row rfl 126 _ _ rfl W.heap.size zk rfl rfl 126 zi (heap_alloc_new W (.cells zi 126)) (by kernel_rfl) rfl (by decide +kernel) ?_
 rw[hrow]
 clear hrow
 simp only[Act.put]
 rw[←hV]
 clear hV
 go_wp2_with (go_at_call 90;refine(HX.out).mono ?_;rintro e w3 ⟨rfl,hb3,hf3⟩)
 go_returns
 exact⟨rfl,by rw[HT.out];exact hb3,hfV.trans hf3⟩
theorem zsg {P:Nat→Prop}{w0 w:World}{b:Nat}{acc:List UInt8}{x y z u:Value}{v:List ByteArray}{t:List Ex}{l:List Fm}(ht:IsFm P w0 x y z u (.mk 5 v t l)) (hx0:Ext w0 w) (hb0:w0.heap.size≤b) (hbw:b<w.heap.size) (hbld:BldT 84 b acc w)
  (hlen:acc.length+(Fm.mk 5 v t l).text.length≤140737488355328){vg:List ByteArray}{tg:List Ex}{lg:List Fm}(h1:l=[.mk 4 vg tg lg]) (h2:tg.length=2) (hm:∀x∈tg,x.may=true) (hs:Ex.sizes tg≤4194304) :
  Calls Tryz.prog 46 #[.pointer (some ⟨b,0,none⟩),.agg #[x,y,z,u]] w (zdf b acc (Fm.mk 5 v t l).text w):=by
 obtain⟨b1,c1,b2,c2,b3,c3,rfl,rfl,rfl,rfl,-,-,hvc,htc,hlc,hvs,hts,hls⟩:=ht.form
 simp only[Fm.op,Fm.vars,Fm.terms,Fm.args]at hvc htc hlc hvs hts hls ⊢
 subst h1
 obtain⟨e1,e2,rfl⟩:∃e1 e2,tg=[e1,e2]:=by match tg,h2 with|[e1,e2],_=>exact⟨e1,e2,rfl⟩
 obtain⟨W,hW⟩:∃W,W=w.alloc (.cells #[.int .i64 5,.slice b1 v.length c1,.slice b2 t.length c2,.slice b3 [Fm.mk 4 vg [e1,e2] lg].length c3] 29):=⟨_,rfl⟩
 have hfW:BFr b w W:=by rw[hW];exact(BFr.refl b w).alloc' (Nat.le_of_lt hbw) _
 have hbW:BldT 84 b acc W:=by rw[hW];exact hbld.alloc _
 have hoW:W.heap[w.heap.size]?=some (.cells #[.int .i64 5,.slice b1 v.length c1,.slice b2 t.length c2,.slice b3 [Fm.mk 4 vg [e1,e2] lg].length c3] 29 (0,0)):=by rw[hW];exact zal _ _
 have hsW:b<W.heap.size:=by rw[hW];simp;omega
 obtain⟨V,hV⟩:∃V,V=W.alloc (.cells zk 126):=⟨_,rfl⟩
 have hfV:BFr b w V:=by rw[hV];exact hfW.alloc' (Nat.le_of_lt hsW) _
 have hbV:BldT 84 b acc V:=by rw[hV];exact hbW.alloc _
 have hoV:V.heap[w.heap.size]?=some (.cells #[.int .i64 5,.slice b1 v.length c1,.slice b2 t.length c2,.slice b3 [Fm.mk 4 vg [e1,e2] lg].length c3] 29 (0,0)):=by rw[hV];exact zej hoW _
 have hrV:V.heap[W.heap.size]?=some (.cells zk 126 (0,0)):=by rw[hV];exact zal _ _
 have hsV:b<V.heap.size:=by rw[hV];simp;omega
 have hx0V:Ext w0 V:=hfV.ext' hx0 hb0
 have k0:=zd hoV 0
 have k1:=zd hoV 1
 have k2:=zd hoV 2
 have k3:=zd hoV 3
 simp only[List.getElem?_toArray,List.getElem?_cons_succ,List.getElem?_cons_zero]at k0 k1 k2 k3
 clear ht hbW hoW
 have HT:=Lib.hid (show(Fm.mk 5 v t [.mk 4 vg [e1,e2] lg]).text=e1.text++((⟨#[32,33,61,32]⟩:ByteArray).data.toList++e2.text) by rw[Fm.text5.1,if_pos (show Option.map Fm.op [Fm.mk 4 vg [e1,e2] lg].head?=some 4 from rfl)];rfl)
 rw[HT.out]at hlen
 obtain⟨gb,go',a1,d1,a2,d2,a3,d3,rfl,-,f0,f1,f2,f3,hg⟩:=hls.look (i:=0) (by simp)
 simp only[List.getElem_cons_zero,Nat.zero_mul,Nat.add_zero]at f0 f1 f2 f3 hg
 have HX:=Lib.hid (zho (f:=.mk 4 vg [e1,e2] lg) rfl (hm e1 (by simp)) (hm e2 (by simp)) (by simp only[Ex.sizes]at hs;omega) (by simp only[Ex.sizes]at hs;omega) ⟨#[32,33,61,32]⟩ hg hx0V hb0 hsV hbV (by have h:ByteArray.size ⟨#[32,33,61,32]⟩=4:=rfl;simp only[List.length_append,List.length_cons,List.length_nil]at hlen;omega))
 have f0':=hx0V.cell f0
 have f1':=hx0V.cell f1
 have f2':=hx0V.cell f2
 have f3':=hx0V.cell f3
 clear hlen hm hg f0 f1 f2 f3 hls
 simp only[Fm.op,Fm.vars,Fm.terms,Fm.args,List.length_cons,List.length_nil,Nat.zero_add,Nat.reduceAdd]at hW hoV k3 f0' f1' f2' f3' HX ⊢
 go_enter Tryz.func46,Tryz.ntmps46
 go_upto_region 1 with fail
 rw[←hW]
 clear hW
 refine wp_region_lit ?_
 refine zg rfl 126 _ rfl zk (by kernel_rfl) ?_
 simp only[Act.put,List.setIfInBounds_toArray,List.set_cons_zero,List.set_cons_succ]
 refine wpList_plain rfl fun K hK=>?_
 go_simp
 refine hK _ _ ?_
 clear hK K
 have hrow:=World.setRow_alloc_new W zi zk 126
 unfold zi at hrow
 refine wpList_store_row rfl 126 _ _ rfl W.heap.size zk rfl rfl 126 zi (heap_alloc_new W (.cells zi 126)) (by kernel_rfl) rfl (by decide +kernel) ?_
 rw[hrow]
 clear hrow
 simp only[Act.put]
 rw[←hV]
 clear hV
 go_wp2_with (go_at_call 90;refine(HX.out).mono ?_;rintro e w3 ⟨rfl,hb3,hf3⟩)
 go_returns
 exact⟨rfl,by rw[HT.out];exact hb3,hfV.trans hf3⟩
theorem zw5 {P:Nat→Prop}{w0 w:World}{b:Nat}{acc:List UInt8}{x y z u:Value}{v:List ByteArray}{t:List Ex}{l:List Fm}(ht:IsFm P w0 x y z u (.mk 5 v t l)) (hx0:Ext w0 w) (hb0:w0.heap.size≤b) (hbw:b<w.heap.size) (hbld:BldT 84 b acc w)
  (hlen:acc.length+(Fm.mk 5 v t l).text.length≤140737488355328) (h1:l.length=1) (hF:∀e∈l,zml e) (hm:∀e∈l,e.may=true) (hs:Fm.sizes l≤4194304) (h4:l.head?.map Fm.op≠some 4) :
  Calls Tryz.prog 46 #[.pointer (some ⟨b,0,none⟩),.agg #[x,y,z,u]] w (zdf b acc (Fm.mk 5 v t l).text w):=by
 obtain⟨b1,c1,b2,c2,b3,c3,rfl,rfl,rfl,rfl,-,-,hvc,htc,hlc,hvs,hts,hls⟩:=ht.form
 simp only[Fm.op,Fm.vars,Fm.terms,Fm.args]at hvc htc hlc hvs hts hls ⊢
 obtain⟨g,rfl⟩:∃g,l=[g]:=by match l,h1 with|[g],_=>exact⟨g,rfl⟩
 obtain⟨W,hW⟩:∃W,W=w.alloc (.cells #[.int .i64 5,.slice b1 v.length c1,.slice b2 t.length c2,.slice b3 [g].length c3] 29):=⟨_,rfl⟩
 have hfW:BFr b w W:=by rw[hW];exact(BFr.refl b w).alloc' (Nat.le_of_lt hbw) _
 have hbW:BldT 84 b acc W:=by rw[hW];exact hbld.alloc _
 have hoW:W.heap[w.heap.size]?=some (.cells #[.int .i64 5,.slice b1 v.length c1,.slice b2 t.length c2,.slice b3 [g].length c3] 29 (0,0)):=by rw[hW];exact zal _ _
 have hsW:b<W.heap.size:=by rw[hW];simp;omega
 obtain⟨V,hV⟩:∃V,V=W.alloc (.cells zk 126):=⟨_,rfl⟩
 have hfV:BFr b w V:=by rw[hV];exact hfW.alloc' (Nat.le_of_lt hsW) _
 have hbV:BldT 84 b acc V:=by rw[hV];exact hbW.alloc _
 have hoV:V.heap[w.heap.size]?=some (.cells #[.int .i64 5,.slice b1 v.length c1,.slice b2 t.length c2,.slice b3 [g].length c3] 29 (0,0)):=by rw[hV];exact zej hoW _
 have hrV:V.heap[W.heap.size]?=some (.cells zk 126 (0,0)):=by rw[hV];exact zal _ _
 have hsV:b<V.heap.size:=by rw[hV];simp;omega
 have hx0V:Ext w0 V:=hfV.ext' hx0 hb0
 have k0:=zd hoV 0
 have k1:=zd hoV 1
 have k2:=zd hoV 2
 have k3:=zd hoV 3
 simp only[List.getElem?_toArray,List.getElem?_cons_succ,List.getElem?_cons_zero]at k0 k1 k2 k3
 clear ht hbW hoW
 have HT:=Lib.hid (show(Fm.mk 5 v t [g]).text=(⟨#[126,32]⟩:ByteArray).data.toList++zbe g.op g.text by rw[Fm.text5.1,if_neg h4];simp only[Fm.units,if_true,List.nil_append,List.append_nil];rfl)
 rw[HT.out,List.length_append]at hlen
 obtain⟨gb,go',a1,d1,a2,d2,a3,d3,rfl,-,f0,f1,f2,f3,hg⟩:=hls.look (i:=0) (by simp)
 simp only[List.getElem_cons_zero,Nat.zero_mul,Nat.add_zero]at f0 f1 f2 f3 hg
 have h4':¬g.op=4:=fun h=>h4 (by simp[h])
 have h4'':(g.op==4)=false:=by rw[beq_eq_false_iff_ne];exact h4'
 have hsep:((⟨#[126,32]⟩:ByteArray).data.toList).length=2:=rfl
 have HW:=Lib.hid (zn zah b acc ⟨#[126,32]⟩ V hbV (by have h:ByteArray.size ⟨#[126,32]⟩=2:=rfl;omega) (Nat.le_of_lt hsV))
 have HU:=Lib.hid (fun w' (hx:Ext w0 w') (hb:b<w'.heap.size) (hbl:BldT 84 b (acc++(⟨#[126,32]⟩:ByteArray).data.toList) w')=>zdg (hF g (by simp)) (hm g (by simp)) (by simp only[Fm.sizes]at hs;omega) hg hx hb0 hb hbl (by simp only[List.length_append,List.length_cons,List.length_nil];omega))
 have Hg:=Lib.hid (And.intro f0 (And.intro f1 (And.intro f2 f3)))
 have f0':=hx0V.cell f0
 have f1':=hx0V.cell f1
 have f2':=hx0V.cell f2
 have f3':=hx0V.cell f3
 clear hlen hm hg f0 f1 f2 f3 hls hF h4 hsep
 generalize zbe g.op g.text=ut at HT HU
 simp only[List.length_cons,List.length_nil,Nat.zero_add]at hW hoV k3 ⊢
 go_enter Tryz.func46,Tryz.ntmps46
 go_upto_region 1 with fail
 rw[←hW]
 clear hW
 refine wp_region_lit ?_
 refine zg rfl 126 _ rfl zk (by kernel_rfl) ?_
 simp only[Act.put,List.setIfInBounds_toArray,List.set_cons_zero,List.set_cons_succ]
 refine wpList_plain rfl fun K hK=>?_
 go_simp
 refine hK _ _ ?_
 clear hK K
 have hrow:=World.setRow_alloc_new W zi zk 126
 unfold zi at hrow
 refine wpList_store_row rfl 126 _ _ rfl W.heap.size zk rfl rfl 126 zi (heap_alloc_new W (.cells zi 126)) (by kernel_rfl) rfl (by decide +kernel) ?_
 rw[hrow]
 clear hrow
 simp only[Act.put]
 rw[←hV]
 clear hV
 go_wp2_with (first
  |(go_at_call 76;refine(HW.out).mono ?_;rintro e w3 ⟨rfl,hb3,hf3⟩;have hoW3:=hf3.obj hoV (by omega) (by decide);have m3:=zd hoW3 3;simp only[List.getElem?_toArray,List.getElem?_cons_succ,List.getElem?_cons_zero]at m3;have hx3:=hf3.ext' hx0V hb0;have n0:=hx3.cell Hg.out.1;have n1:=hx3.cell Hg.out.2.1;have n2:=hx3.cell Hg.out.2.2.1;have n3:=hx3.cell Hg.out.2.2.2;have hs3:=hf3.below.size)
  |(go_at_call 91;refine(HU.out w3 hx3 (by omega) hb3).mono ?_;rintro e w4 ⟨rfl,hb4,hf4⟩))
 go_returns
 exact⟨rfl,by rw[HT.out];simpa[List.append_assoc]using hb4,hfV.trans (hf3.trans hf4)⟩
theorem zw6 {P:Nat→Prop}{w0 w:World}{b:Nat}{acc:List UInt8}{x y z u:Value}{v:List ByteArray}{t:List Ex}{l:List Fm}(ht:IsFm P w0 x y z u (.mk 6 v t l)) (hx0:Ext w0 w) (hb0:w0.heap.size≤b) (hbw:b<w.heap.size) (hbld:BldT 84 b acc w)
  (hlen:acc.length+(Fm.mk 6 v t l).text.length≤140737488355328) (hF:∀e∈l,zml e) (hm:∀e∈l,e.may=true) (hs:Fm.sizes l≤4194304) :
  Calls Tryz.prog 46 #[.pointer (some ⟨b,0,none⟩),.agg #[x,y,z,u]] w (zdf b acc (Fm.mk 6 v t l).text w):=by
 obtain⟨b1,c1,b2,c2,b3,c3,rfl,rfl,rfl,rfl,-,-,hvc,htc,hlc,hvs,hts,hls⟩:=ht.form
 simp only[Fm.op,Fm.vars,Fm.terms,Fm.args]at hvc htc hlc hvs hts hls ⊢
 obtain⟨W,hW⟩:∃W,W=w.alloc (.cells #[.int .i64 6,.slice b1 v.length c1,.slice b2 t.length c2,.slice b3 l.length c3] 29):=⟨_,rfl⟩
 have hfW:BFr b w W:=by rw[hW];exact(BFr.refl b w).alloc' (Nat.le_of_lt hbw) _
 have hbW:BldT 84 b acc W:=by rw[hW];exact hbld.alloc _
 have hoW:W.heap[w.heap.size]?=some (.cells #[.int .i64 6,.slice b1 v.length c1,.slice b2 t.length c2,.slice b3 l.length c3] 29 (0,0)):=by rw[hW];exact zal _ _
 have hsW:b<W.heap.size:=by rw[hW];simp;omega
 obtain⟨V,hV⟩:∃V,V=W.alloc (.cells zk 126):=⟨_,rfl⟩
 have hfV:BFr b w V:=by rw[hV];exact hfW.alloc' (Nat.le_of_lt hsW) _
 have hbV:BldT 84 b acc V:=by rw[hV];exact hbW.alloc _
 have hoV:V.heap[w.heap.size]?=some (.cells #[.int .i64 6,.slice b1 v.length c1,.slice b2 t.length c2,.slice b3 l.length c3] 29 (0,0)):=by rw[hV];exact zej hoW _
 have hrV:V.heap[W.heap.size]?=some (.cells zk 126 (0,0)):=by rw[hV];exact zal _ _
 have hsV:b<V.heap.size:=by rw[hV];simp;omega
 have hx0V:Ext w0 V:=hfV.ext' hx0 hb0
 have k0:=zd hoV 0
 have k1:=zd hoV 1
 have k2:=zd hoV 2
 have k3:=zd hoV 3
 simp only[List.getElem?_toArray,List.getElem?_cons_succ,List.getElem?_cons_zero]at k0 k1 k2 k3
 clear ht hbW hoW
 have HT:=Lib.hid (show(Fm.mk 6 v t l).text=Fm.units true (⟨#[32,38,32]⟩:ByteArray).data.toList l by rw[(Fm.text6 (by decide) (by decide)).1];rfl)
 rw[HT.out]at hlen
 have hsep:((⟨#[32,38,32]⟩:ByteArray).data.toList).length=3:=rfl
 have hsp:ByteArray.size ⟨#[32,38,32]⟩=3:=rfl
 have HWS:=Lib.hid (fun (acc':List UInt8) w' (hb:BldT 84 b acc' w') (hl:acc'.length+3≤140737488355328) (hs:b≤w'.heap.size)=>zn zah b acc' ⟨#[32,38,32]⟩ w' hb (by omega) hs)
 generalize hsl:(⟨#[32,38,32]⟩:ByteArray).data.toList=sl at HT HWS hlen hsep
 have hkl:=Fm.length_le_sizes l
 have HU:=Lib.hid (fun (k:Nat) (hk:k<l.length) w' (hx:Ext w0 w') (hb:b<w'.heap.size) (acc':List UInt8) (hbl:BldT 84 b acc' w') (hac:acc'.length+(zbe l[k].op l[k].text).length≤140737488355328) x0 x1 x2 x3 (hi:IsFm P w0 x0 x1 x2 x3 l[k]) =>
  zdg (hF _ (List.getElem_mem hk)) (hm _ (List.getElem_mem hk)) (by have:=Fm.size_le_sizes hk;omega) hi hx hb0 hb hbl hac)
 have hr0:=zd hrV 6
 have Hlen:=Lib.hid hlen
 have Hsep:=Lib.hid hsep
 clear hF hm hlen hsl hsp hsep hr0
 go_enter Tryz.func46,Tryz.ntmps46
 go_upto_region 1 with fail
 rw[←hW]
 clear hW
 refine wp_region_lit ?_
 refine zg rfl 126 _ rfl zk (by kernel_rfl) ?_
 simp only[Act.put,List.setIfInBounds_toArray,List.set_cons_zero,List.set_cons_succ]
 refine wpList_plain rfl fun K hK=>?_
 go_simp
 refine hK _ _ ?_
 clear hK K
 have hrow:=World.setRow_alloc_new W zi zk 126
 unfold zi at hrow
 refine wpList_store_row rfl 126 _ _ rfl W.heap.size zk rfl rfl 126 zi (heap_alloc_new W (.cells zi 126)) (by kernel_rfl) rfl (by decide +kernel) ?_
 rw[hrow]
 clear hrow
 simp only[Act.put]
 rw[←hV]
 clear hV
 go_wp2_with fail
 clear k0 k1 k2 k3
 go_loopw [13] (fun iv wr=>∃k:Nat,k≤l.length∧iv=.int .i64 k∧BldT 84 b (acc++Fm.units true sl (l.take k)) wr∧BFr b V wr) (fun i _=>l.length-(intOf i).toNat)
 case atStart=>exact⟨0,Nat.zero_le _,rfl,by simpa[Fm.units]using hbV,BFr.refl _ _⟩
 case round =>
  obtain⟨k,hkk,rfl,hbr,hfr⟩:=hrel
  have hor:=hfr.obj hoV (by omega) (by decide)
  have hrr:=hfr.obj hrV (by omega) (by decide)
  have hsr:=hfr.below.size
  have hWV:W.heap.size<V.heap.size:=zbg hrV
  have hww:w.heap.size<V.heap.size:=zbg hoV
  by_cases hlt:k<l.length
  ·have hk1:(k:Int)<l.length:=by omega
   have hxr:=hfr.ext' hx0V hb0
   obtain⟨b',o',a1,d1,a2,d2,a',c',rfl,-,g1,g2,g3,g4,hi⟩:=hls.look hlt
   have g1':=hxr.cell g1
   have g2':=hxr.cell g2
   have g3':=hxr.cell g3
   have g4':=hxr.cell g4
   have hst:=zc3 l true sl k hlt
   have htl:=zb5 l true sl (k+1)
   have hl0:=Hlen.out
   rw[hst,List.length_append,List.length_append]at htl
   have Hst:=Lib.hid hst;clear hst
   obtain⟨V2,hV2⟩:∃V2,V2=wr.alloc (.cells #[.int .i64 l[k].op,.slice a1 l[k].vars.length d1,.slice a2 l[k].terms.length d2,.slice a' l[k].args.length c'] 29):=⟨_,rfl⟩
   have hbV2:BldT 84 b (acc++Fm.units true sl (l.take k)) V2:=by rw[hV2];exact hbr.alloc _
   have hfV2:BFr b V V2:=by rw[hV2];exact hfr.alloc' (by omega) _
   have hoV2:V2.heap[wr.heap.size]?=some (.cells #[.int .i64 l[k].op,.slice a1 l[k].vars.length d1,.slice a2 l[k].terms.length d2,.slice a' l[k].args.length c'] 29 (0,0)):=by rw[hV2];exact zal _ _
   have hsV2:b<V2.heap.size:=by have:=hfV2.below.size;omega
   by_cases hz:k=0
   ·have hzb:decide ((0:Int)<(k:Nat))=false:=decide_eq_false (by omega)
    have hz2:¬(0:Int)<(k:Nat):=by omega
    have Hcb:=Lib.hid (show(if k=0∧true=true then []else sl)=[] by rw[if_pos ⟨hz,rfl⟩])
    rw[Hcb.out,List.length_nil]at htl
    have hx2:=hfV2.ext' hx0V hb0
    have HX:=Lib.hid (HU.out k hlt V2 hx2 hsV2 _ hbV2 (by simp only[List.length_append];omega) _ _ _ _ hi)
    have n0:=zd hoV2 0;have n1:=zd hoV2 1;have n2:=zd hoV2 2;have n3:=zd hoV2 3
    simp only[List.getElem?_toArray,List.getElem?_cons_succ,List.getElem?_cons_zero]at n0 n1 n2 n3
    clear hz htl hl0 hi HU
    go_wp2_with (rw[←hV2];clear hV2;go_at_call 91;refine(HX.out).mono ?_;rintro e w6 ⟨rfl,hb6,hf6⟩)
    go_roundw
    case rel=>exact⟨k+1,by omega,by go_num,by rw[Hst.out,Hcb.out];simpa[List.append_assoc]using hb6,hfV2.trans hf6⟩
    case measure=>simp[intOf];omega
   ·have hzb:decide ((0:Int)<(k:Nat))=true:=decide_eq_true (by omega)
    have hz2:(0:Int)<(k:Nat):=by omega
    have Hcb:=Lib.hid (show(if k=0∧true=true then []else sl)=sl by rw[if_neg (fun h=>hz h.1)])
    rw[Hcb.out,Hsep.out]at htl
    have hq1:(acc++Fm.units true sl (l.take k)).length+3≤140737488355328:=by simp only[List.length_append];omega
    have hq2:(acc++Fm.units true sl (l.take k)++sl).length+(zbe l[k].op l[k].text).length≤140737488355328:=by have:=Hsep.out;simp only[List.length_append];omega
    have hoV3:=(BFr.refl b wr).alloc' (by omega) (.cells #[.int .i64 l[k].op,.slice a1 l[k].vars.length d1,.slice a2 l[k].terms.length d2,.slice a' l[k].args.length c'] 29)
    rw[←hV2]at hoV3
    have hp0:=zd (hoV3.obj hor (by omega) (by decide)) 0
    have hp1:=zd (hoV3.obj hrr (by omega) (by decide)) 6
    simp only[List.getElem?_toArray,List.getElem?_cons_zero]at hp0
    replace hp1:V2.cell? ⟨W.heap.size,6,none⟩=some (.string ⟨#[32,38,32]⟩):=hp1
    clear hz htl hl0
    go_wp2_with fail
    rw[←hV2]
    clear hV2
    go_still_tail 7,(by kernel_rfl)
    change wpList _ _ _ _ _ V2.drew
    go_wp2_with (first
     |(go_at_call 76;refine(HWS.out _ _ hbV2.drew hq1 (Nat.le_of_lt hsV2)).mono ?_;rintro e w4 ⟨rfl,hb4,hf4⟩;have ho4:=hf4.obj (show V2.drew.heap[wr.heap.size]?=_ from hoV2) (by omega) (by decide);have n0:=zd ho4 0;have n1:=zd ho4 1;have n2:=zd ho4 2;have n3:=zd ho4 3;simp only[List.getElem?_toArray,List.getElem?_cons_succ,List.getElem?_cons_zero]at n0 n1 n2 n3;have hf5:=hfV2.drew.trans hf4;have hx5:=hf5.ext' hx0V hb0;have hs5:=hf4.below.size)
     |(go_at_call 91;refine(HU.out k hlt w4 hx5 (by have:V2.drew.heap.size=V2.heap.size:=rfl;omega) _ hb4 hq2 _ _ _ _ hi).mono ?_;rintro e w6 ⟨rfl,hb6,hf6⟩))
    go_roundw
    case rel=>exact⟨k+1,by omega,by go_num,by rw[Hst.out,Hcb.out];simpa[List.append_assoc]using hb6,hf5.trans hf6⟩
    case measure=>simp[intOf];omega
  ·have hk1:¬(k:Int)<l.length:=by omega
   have hke:k=l.length:=by omega
   rw[hke,List.take_length]at hbr
   clear hke
   go_wp2_with fail
   go_returns
   exact⟨rfl,by rw[HT.out];exact hbr,hfV.trans hfr⟩
theorem zw7 {P:Nat→Prop}{w0 w:World}{b:Nat}{acc:List UInt8}{x y z u:Value}{v:List ByteArray}{t:List Ex}{l:List Fm}(ht:IsFm P w0 x y z u (.mk 7 v t l)) (hx0:Ext w0 w) (hb0:w0.heap.size≤b) (hbw:b<w.heap.size) (hbld:BldT 84 b acc w)
  (hlen:acc.length+(Fm.mk 7 v t l).text.length≤140737488355328) (hF:∀e∈l,zml e) (hm:∀e∈l,e.may=true) (hs:Fm.sizes l≤4194304) :
  Calls Tryz.prog 46 #[.pointer (some ⟨b,0,none⟩),.agg #[x,y,z,u]] w (zdf b acc (Fm.mk 7 v t l).text w):=by
 obtain⟨b1,c1,b2,c2,b3,c3,rfl,rfl,rfl,rfl,-,-,hvc,htc,hlc,hvs,hts,hls⟩:=ht.form
 simp only[Fm.op,Fm.vars,Fm.terms,Fm.args]at hvc htc hlc hvs hts hls ⊢
 obtain⟨W,hW⟩:∃W,W=w.alloc (.cells #[.int .i64 7,.slice b1 v.length c1,.slice b2 t.length c2,.slice b3 l.length c3] 29):=⟨_,rfl⟩
 have hfW:BFr b w W:=by rw[hW];exact(BFr.refl b w).alloc' (Nat.le_of_lt hbw) _
 have hbW:BldT 84 b acc W:=by rw[hW];exact hbld.alloc _
 have hoW:W.heap[w.heap.size]?=some (.cells #[.int .i64 7,.slice b1 v.length c1,.slice b2 t.length c2,.slice b3 l.length c3] 29 (0,0)):=by rw[hW];exact zal _ _
 have hsW:b<W.heap.size:=by rw[hW];simp;omega
 obtain⟨V,hV⟩:∃V,V=W.alloc (.cells zk 126):=⟨_,rfl⟩
 have hfV:BFr b w V:=by rw[hV];exact hfW.alloc' (Nat.le_of_lt hsW) _
 have hbV:BldT 84 b acc V:=by rw[hV];exact hbW.alloc _
 have hoV:V.heap[w.heap.size]?=some (.cells #[.int .i64 7,.slice b1 v.length c1,.slice b2 t.length c2,.slice b3 l.length c3] 29 (0,0)):=by rw[hV];exact zej hoW _
 have hrV:V.heap[W.heap.size]?=some (.cells zk 126 (0,0)):=by rw[hV];exact zal _ _
 have hsV:b<V.heap.size:=by rw[hV];simp;omega
 have hx0V:Ext w0 V:=hfV.ext' hx0 hb0
 have k0:=zd hoV 0
 have k1:=zd hoV 1
 have k2:=zd hoV 2
 have k3:=zd hoV 3
 simp only[List.getElem?_toArray,List.getElem?_cons_succ,List.getElem?_cons_zero]at k0 k1 k2 k3
 clear ht hbW hoW
 have HT:=Lib.hid (show(Fm.mk 7 v t l).text=Fm.units true (⟨#[32,124,32]⟩:ByteArray).data.toList l by rw[(Fm.text6 (by decide) (by decide)).1];rfl)
 rw[HT.out]at hlen
 have hsep:((⟨#[32,124,32]⟩:ByteArray).data.toList).length=3:=rfl
 have hsp:ByteArray.size ⟨#[32,124,32]⟩=3:=rfl
 have HWS:=Lib.hid (fun (acc':List UInt8) w' (hb:BldT 84 b acc' w') (hl:acc'.length+3≤140737488355328) (hs:b≤w'.heap.size)=>zn zah b acc' ⟨#[32,124,32]⟩ w' hb (by omega) hs)
 generalize hsl:(⟨#[32,124,32]⟩:ByteArray).data.toList=sl at HT HWS hlen hsep
 have hkl:=Fm.length_le_sizes l
 have HU:=Lib.hid (fun (k:Nat) (hk:k<l.length) w' (hx:Ext w0 w') (hb:b<w'.heap.size) (acc':List UInt8) (hbl:BldT 84 b acc' w') (hac:acc'.length+(zbe l[k].op l[k].text).length≤140737488355328) x0 x1 x2 x3 (hi:IsFm P w0 x0 x1 x2 x3 l[k]) =>
  zdg (hF _ (List.getElem_mem hk)) (hm _ (List.getElem_mem hk)) (by have:=Fm.size_le_sizes hk;omega) hi hx hb0 hb hbl hac)
 have hr0:=zd hrV 7
 have Hlen:=Lib.hid hlen
 have Hsep:=Lib.hid hsep
 clear hF hm hlen hsl hsp hsep hr0
 go_enter Tryz.func46,Tryz.ntmps46
 go_upto_region 1 with fail
 rw[←hW]
 clear hW
 refine wp_region_lit ?_
 refine zg rfl 126 _ rfl zk (by kernel_rfl) ?_
 simp only[Act.put,List.setIfInBounds_toArray,List.set_cons_zero,List.set_cons_succ]
 refine wpList_plain rfl fun K hK=>?_
 go_simp
 refine hK _ _ ?_
 clear hK K
 have hrow:=World.setRow_alloc_new W zi zk 126
 unfold zi at hrow
 refine wpList_store_row rfl 126 _ _ rfl W.heap.size zk rfl rfl 126 zi (heap_alloc_new W (.cells zi 126)) (by kernel_rfl) rfl (by decide +kernel) ?_
 rw[hrow]
 clear hrow
 simp only[Act.put]
 rw[←hV]
 clear hV
 go_wp2_with fail
 clear k0 k1 k2 k3
 go_loopw [13] (fun iv wr=>∃k:Nat,k≤l.length∧iv=.int .i64 k∧BldT 84 b (acc++Fm.units true sl (l.take k)) wr∧BFr b V wr) (fun i _=>l.length-(intOf i).toNat)
 case atStart=>exact⟨0,Nat.zero_le _,rfl,by simpa[Fm.units]using hbV,BFr.refl _ _⟩
 case round =>
  obtain⟨k,hkk,rfl,hbr,hfr⟩:=hrel
  have hor:=hfr.obj hoV (by omega) (by decide)
  have hrr:=hfr.obj hrV (by omega) (by decide)
  have hsr:=hfr.below.size
  have hWV:W.heap.size<V.heap.size:=zbg hrV
  have hww:w.heap.size<V.heap.size:=zbg hoV
  by_cases hlt:k<l.length
  ·have hk1:(k:Int)<l.length:=by omega
   have hxr:=hfr.ext' hx0V hb0
   obtain⟨b',o',a1,d1,a2,d2,a',c',rfl,-,g1,g2,g3,g4,hi⟩:=hls.look hlt
   have g1':=hxr.cell g1
   have g2':=hxr.cell g2
   have g3':=hxr.cell g3
   have g4':=hxr.cell g4
   have hst:=zc3 l true sl k hlt
   have htl:=zb5 l true sl (k+1)
   have hl0:=Hlen.out
   rw[hst,List.length_append,List.length_append]at htl
   have Hst:=Lib.hid hst;clear hst
   obtain⟨V2,hV2⟩:∃V2,V2=wr.alloc (.cells #[.int .i64 l[k].op,.slice a1 l[k].vars.length d1,.slice a2 l[k].terms.length d2,.slice a' l[k].args.length c'] 29):=⟨_,rfl⟩
   have hbV2:BldT 84 b (acc++Fm.units true sl (l.take k)) V2:=by rw[hV2];exact hbr.alloc _
   have hfV2:BFr b V V2:=by rw[hV2];exact hfr.alloc' (by omega) _
   have hoV2:V2.heap[wr.heap.size]?=some (.cells #[.int .i64 l[k].op,.slice a1 l[k].vars.length d1,.slice a2 l[k].terms.length d2,.slice a' l[k].args.length c'] 29 (0,0)):=by rw[hV2];exact zal _ _
   have hsV2:b<V2.heap.size:=by have:=hfV2.below.size;omega
   by_cases hz:k=0
   ·have hzb:decide ((0:Int)<(k:Nat))=false:=decide_eq_false (by omega)
    have hz2:¬(0:Int)<(k:Nat):=by omega
    have Hcb:=Lib.hid (show(if k=0∧true=true then []else sl)=[] by rw[if_pos ⟨hz,rfl⟩])
    rw[Hcb.out,List.length_nil]at htl
    have hx2:=hfV2.ext' hx0V hb0
    have HX:=Lib.hid (HU.out k hlt V2 hx2 hsV2 _ hbV2 (by simp only[List.length_append];omega) _ _ _ _ hi)
    have n0:=zd hoV2 0;have n1:=zd hoV2 1;have n2:=zd hoV2 2;have n3:=zd hoV2 3
    simp only[List.getElem?_toArray,List.getElem?_cons_succ,List.getElem?_cons_zero]at n0 n1 n2 n3
    clear hz htl hl0 hi HU
    go_wp2_with (rw[←hV2];clear hV2;go_at_call 91;refine(HX.out).mono ?_;rintro e w6 ⟨rfl,hb6,hf6⟩)
    go_roundw
    case rel=>exact⟨k+1,by omega,by go_num,by rw[Hst.out,Hcb.out];simpa[List.append_assoc]using hb6,hfV2.trans hf6⟩
    case measure=>simp[intOf];omega
   ·have hzb:decide ((0:Int)<(k:Nat))=true:=decide_eq_true (by omega)
    have hz2:(0:Int)<(k:Nat):=by omega
    have Hcb:=Lib.hid (show(if k=0∧true=true then []else sl)=sl by rw[if_neg (fun h=>hz h.1)])
    rw[Hcb.out,Hsep.out]at htl
    have hq1:(acc++Fm.units true sl (l.take k)).length+3≤140737488355328:=by simp only[List.length_append];omega
    have hq2:(acc++Fm.units true sl (l.take k)++sl).length+(zbe l[k].op l[k].text).length≤140737488355328:=by have:=Hsep.out;simp only[List.length_append];omega
    have hoV3:=(BFr.refl b wr).alloc' (by omega) (.cells #[.int .i64 l[k].op,.slice a1 l[k].vars.length d1,.slice a2 l[k].terms.length d2,.slice a' l[k].args.length c'] 29)
    rw[←hV2]at hoV3
    have hp0:=zd (hoV3.obj hor (by omega) (by decide)) 0
    have hp1:=zd (hoV3.obj hrr (by omega) (by decide)) 7
    simp only[List.getElem?_toArray,List.getElem?_cons_zero]at hp0
    replace hp1:V2.cell? ⟨W.heap.size,7,none⟩=some (.string ⟨#[32,124,32]⟩):=hp1
    clear hz htl hl0
    go_wp2_with fail
    rw[←hV2]
    clear hV2
    go_still_tail 7,(by kernel_rfl)
    change wpList _ _ _ _ _ V2.drew
    go_wp2_with (first
     |(go_at_call 76;refine(HWS.out _ _ hbV2.drew hq1 (Nat.le_of_lt hsV2)).mono ?_;rintro e w4 ⟨rfl,hb4,hf4⟩;have ho4:=hf4.obj (show V2.drew.heap[wr.heap.size]?=_ from hoV2) (by omega) (by decide);have n0:=zd ho4 0;have n1:=zd ho4 1;have n2:=zd ho4 2;have n3:=zd ho4 3;simp only[List.getElem?_toArray,List.getElem?_cons_succ,List.getElem?_cons_zero]at n0 n1 n2 n3;have hf5:=hfV2.drew.trans hf4;have hx5:=hf5.ext' hx0V hb0;have hs5:=hf4.below.size)
     |(go_at_call 91;refine(HU.out k hlt w4 hx5 (by have:V2.drew.heap.size=V2.heap.size:=rfl;omega) _ hb4 hq2 _ _ _ _ hi).mono ?_;rintro e w6 ⟨rfl,hb6,hf6⟩))
    go_roundw
    case rel=>exact⟨k+1,by omega,by go_num,by rw[Hst.out,Hcb.out];simpa[List.append_assoc]using hb6,hf5.trans hf6⟩
    case measure=>simp[intOf];omega
  ·have hk1:¬(k:Int)<l.length:=by omega
   have hke:k=l.length:=by omega
   rw[hke,List.take_length]at hbr
   clear hke
   go_wp2_with fail
   go_returns
   exact⟨rfl,by rw[HT.out];exact hbr,hfV.trans hfr⟩
theorem zw8 {P:Nat→Prop}{w0 w:World}{b:Nat}{acc:List UInt8}{x y z u:Value}{v:List ByteArray}{t:List Ex}{l:List Fm}(ht:IsFm P w0 x y z u (.mk 8 v t l)) (hx0:Ext w0 w) (hb0:w0.heap.size≤b) (hbw:b<w.heap.size) (hbld:BldT 84 b acc w)
  (hlen:acc.length+(Fm.mk 8 v t l).text.length≤140737488355328) (hF:∀e∈l,zml e) (hm:∀e∈l,e.may=true) (hs:Fm.sizes l≤4194304) :
  Calls Tryz.prog 46 #[.pointer (some ⟨b,0,none⟩),.agg #[x,y,z,u]] w (zdf b acc (Fm.mk 8 v t l).text w):=by
 obtain⟨b1,c1,b2,c2,b3,c3,rfl,rfl,rfl,rfl,-,-,hvc,htc,hlc,hvs,hts,hls⟩:=ht.form
 simp only[Fm.op,Fm.vars,Fm.terms,Fm.args]at hvc htc hlc hvs hts hls ⊢
 obtain⟨W,hW⟩:∃W,W=w.alloc (.cells #[.int .i64 8,.slice b1 v.length c1,.slice b2 t.length c2,.slice b3 l.length c3] 29):=⟨_,rfl⟩
 have hfW:BFr b w W:=by rw[hW];exact(BFr.refl b w).alloc' (Nat.le_of_lt hbw) _
 have hbW:BldT 84 b acc W:=by rw[hW];exact hbld.alloc _
 have hoW:W.heap[w.heap.size]?=some (.cells #[.int .i64 8,.slice b1 v.length c1,.slice b2 t.length c2,.slice b3 l.length c3] 29 (0,0)):=by rw[hW];exact zal _ _
 have hsW:b<W.heap.size:=by rw[hW];simp;omega
 obtain⟨V,hV⟩:∃V,V=W.alloc (.cells zk 126):=⟨_,rfl⟩
 have hfV:BFr b w V:=by rw[hV];exact hfW.alloc' (Nat.le_of_lt hsW) _
 have hbV:BldT 84 b acc V:=by rw[hV];exact hbW.alloc _
 have hoV:V.heap[w.heap.size]?=some (.cells #[.int .i64 8,.slice b1 v.length c1,.slice b2 t.length c2,.slice b3 l.length c3] 29 (0,0)):=by rw[hV];exact zej hoW _
 have hrV:V.heap[W.heap.size]?=some (.cells zk 126 (0,0)):=by rw[hV];exact zal _ _
 have hsV:b<V.heap.size:=by rw[hV];simp;omega
 have hx0V:Ext w0 V:=hfV.ext' hx0 hb0
 have k0:=zd hoV 0
 have k1:=zd hoV 1
 have k2:=zd hoV 2
 have k3:=zd hoV 3
 simp only[List.getElem?_toArray,List.getElem?_cons_succ,List.getElem?_cons_zero]at k0 k1 k2 k3
 clear ht hbW hoW
 have HT:=Lib.hid (show(Fm.mk 8 v t l).text=Fm.units true (⟨#[32,61,62,32]⟩:ByteArray).data.toList l by rw[(Fm.text6 (by decide) (by decide)).1];rfl)
 rw[HT.out]at hlen
 have hsep:((⟨#[32,61,62,32]⟩:ByteArray).data.toList).length=4:=rfl
 have hsp:ByteArray.size ⟨#[32,61,62,32]⟩=4:=rfl
 have HWS:=Lib.hid (fun (acc':List UInt8) w' (hb:BldT 84 b acc' w') (hl:acc'.length+4≤140737488355328) (hs:b≤w'.heap.size)=>zn zah b acc' ⟨#[32,61,62,32]⟩ w' hb (by omega) hs)
 generalize hsl:(⟨#[32,61,62,32]⟩:ByteArray).data.toList=sl at HT HWS hlen hsep
 have hkl:=Fm.length_le_sizes l
 have HU:=Lib.hid (fun (k:Nat) (hk:k<l.length) w' (hx:Ext w0 w') (hb:b<w'.heap.size) (acc':List UInt8) (hbl:BldT 84 b acc' w') (hac:acc'.length+(zbe l[k].op l[k].text).length≤140737488355328) x0 x1 x2 x3 (hi:IsFm P w0 x0 x1 x2 x3 l[k]) =>
  zdg (hF _ (List.getElem_mem hk)) (hm _ (List.getElem_mem hk)) (by have:=Fm.size_le_sizes hk;omega) hi hx hb0 hb hbl hac)
 have hr0:=zd hrV 8
 have Hlen:=Lib.hid hlen
 have Hsep:=Lib.hid hsep
 clear hF hm hlen hsl hsp hsep hr0
 go_enter Tryz.func46,Tryz.ntmps46
 go_upto_region 1 with fail
 rw[←hW]
 clear hW
 refine wp_region_lit ?_
 refine zg rfl 126 _ rfl zk (by kernel_rfl) ?_
 simp only[Act.put,List.setIfInBounds_toArray,List.set_cons_zero,List.set_cons_succ]
 refine wpList_plain rfl fun K hK=>?_
 go_simp
 refine hK _ _ ?_
 clear hK K
 have hrow:=World.setRow_alloc_new W zi zk 126
 unfold zi at hrow
 refine wpList_store_row rfl 126 _ _ rfl W.heap.size zk rfl rfl 126 zi (heap_alloc_new W (.cells zi 126)) (by kernel_rfl) rfl (by decide +kernel) ?_
 rw[hrow]
 clear hrow
 simp only[Act.put]
 rw[←hV]
 clear hV
 go_wp2_with fail
 clear k0 k1 k2 k3
 go_loopw [13] (fun iv wr=>∃k:Nat,k≤l.length∧iv=.int .i64 k∧BldT 84 b (acc++Fm.units true sl (l.take k)) wr∧BFr b V wr) (fun i _=>l.length-(intOf i).toNat)
 case atStart=>exact⟨0,Nat.zero_le _,rfl,by simpa[Fm.units]using hbV,BFr.refl _ _⟩
 case round =>
  obtain⟨k,hkk,rfl,hbr,hfr⟩:=hrel
  have hor:=hfr.obj hoV (by omega) (by decide)
  have hrr:=hfr.obj hrV (by omega) (by decide)
  have hsr:=hfr.below.size
  have hWV:W.heap.size<V.heap.size:=zbg hrV
  have hww:w.heap.size<V.heap.size:=zbg hoV
  by_cases hlt:k<l.length
  ·have hk1:(k:Int)<l.length:=by omega
   have hxr:=hfr.ext' hx0V hb0
   obtain⟨b',o',a1,d1,a2,d2,a',c',rfl,-,g1,g2,g3,g4,hi⟩:=hls.look hlt
   have g1':=hxr.cell g1
   have g2':=hxr.cell g2
   have g3':=hxr.cell g3
   have g4':=hxr.cell g4
   have hst:=zc3 l true sl k hlt
   have htl:=zb5 l true sl (k+1)
   have hl0:=Hlen.out
   rw[hst,List.length_append,List.length_append]at htl
   have Hst:=Lib.hid hst;clear hst
   obtain⟨V2,hV2⟩:∃V2,V2=wr.alloc (.cells #[.int .i64 l[k].op,.slice a1 l[k].vars.length d1,.slice a2 l[k].terms.length d2,.slice a' l[k].args.length c'] 29):=⟨_,rfl⟩
   have hbV2:BldT 84 b (acc++Fm.units true sl (l.take k)) V2:=by rw[hV2];exact hbr.alloc _
   have hfV2:BFr b V V2:=by rw[hV2];exact hfr.alloc' (by omega) _
   have hoV2:V2.heap[wr.heap.size]?=some (.cells #[.int .i64 l[k].op,.slice a1 l[k].vars.length d1,.slice a2 l[k].terms.length d2,.slice a' l[k].args.length c'] 29 (0,0)):=by rw[hV2];exact zal _ _
   have hsV2:b<V2.heap.size:=by have:=hfV2.below.size;omega
   by_cases hz:k=0
   ·have hzb:decide ((0:Int)<(k:Nat))=false:=decide_eq_false (by omega)
    have hz2:¬(0:Int)<(k:Nat):=by omega
    have Hcb:=Lib.hid (show(if k=0∧true=true then []else sl)=[] by rw[if_pos ⟨hz,rfl⟩])
    rw[Hcb.out,List.length_nil]at htl
    have hx2:=hfV2.ext' hx0V hb0
    have HX:=Lib.hid (HU.out k hlt V2 hx2 hsV2 _ hbV2 (by simp only[List.length_append];omega) _ _ _ _ hi)
    have n0:=zd hoV2 0;have n1:=zd hoV2 1;have n2:=zd hoV2 2;have n3:=zd hoV2 3
    simp only[List.getElem?_toArray,List.getElem?_cons_succ,List.getElem?_cons_zero]at n0 n1 n2 n3
    clear hz htl hl0 hi HU
    go_wp2_with (rw[←hV2];clear hV2;go_at_call 91;refine(HX.out).mono ?_;rintro e w6 ⟨rfl,hb6,hf6⟩)
    go_roundw
    case rel=>exact⟨k+1,by omega,by go_num,by rw[Hst.out,Hcb.out];simpa[List.append_assoc]using hb6,hfV2.trans hf6⟩
    case measure=>simp[intOf];omega
   ·have hzb:decide ((0:Int)<(k:Nat))=true:=decide_eq_true (by omega)
    have hz2:(0:Int)<(k:Nat):=by omega
    have Hcb:=Lib.hid (show(if k=0∧true=true then []else sl)=sl by rw[if_neg (fun h=>hz h.1)])
    rw[Hcb.out,Hsep.out]at htl
    have hq1:(acc++Fm.units true sl (l.take k)).length+4≤140737488355328:=by simp only[List.length_append];omega
    have hq2:(acc++Fm.units true sl (l.take k)++sl).length+(zbe l[k].op l[k].text).length≤140737488355328:=by have:=Hsep.out;simp only[List.length_append];omega
    have hoV3:=(BFr.refl b wr).alloc' (by omega) (.cells #[.int .i64 l[k].op,.slice a1 l[k].vars.length d1,.slice a2 l[k].terms.length d2,.slice a' l[k].args.length c'] 29)
    rw[←hV2]at hoV3
    have hp0:=zd (hoV3.obj hor (by omega) (by decide)) 0
    have hp1:=zd (hoV3.obj hrr (by omega) (by decide)) 8
    simp only[List.getElem?_toArray,List.getElem?_cons_zero]at hp0
    replace hp1:V2.cell? ⟨W.heap.size,8,none⟩=some (.string ⟨#[32,61,62,32]⟩):=hp1
    clear hz htl hl0
    go_wp2_with fail
    rw[←hV2]
    clear hV2
    go_still_tail 7,(by kernel_rfl)
    change wpList _ _ _ _ _ V2.drew
    go_wp2_with (first
     |(go_at_call 76;refine(HWS.out _ _ hbV2.drew hq1 (Nat.le_of_lt hsV2)).mono ?_;rintro e w4 ⟨rfl,hb4,hf4⟩;have ho4:=hf4.obj (show V2.drew.heap[wr.heap.size]?=_ from hoV2) (by omega) (by decide);have n0:=zd ho4 0;have n1:=zd ho4 1;have n2:=zd ho4 2;have n3:=zd ho4 3;simp only[List.getElem?_toArray,List.getElem?_cons_succ,List.getElem?_cons_zero]at n0 n1 n2 n3;have hf5:=hfV2.drew.trans hf4;have hx5:=hf5.ext' hx0V hb0;have hs5:=hf4.below.size)
     |(go_at_call 91;refine(HU.out k hlt w4 hx5 (by have:V2.drew.heap.size=V2.heap.size:=rfl;omega) _ hb4 hq2 _ _ _ _ hi).mono ?_;rintro e w6 ⟨rfl,hb6,hf6⟩))
    go_roundw
    case rel=>exact⟨k+1,by omega,by go_num,by rw[Hst.out,Hcb.out];simpa[List.append_assoc]using hb6,hf5.trans hf6⟩
    case measure=>simp[intOf];omega
  ·have hk1:¬(k:Int)<l.length:=by omega
   have hke:k=l.length:=by omega
   rw[hke,List.take_length]at hbr
   clear hke
   go_wp2_with fail
   go_returns
   exact⟨rfl,by rw[HT.out];exact hbr,hfV.trans hfr⟩
theorem zw9 {P:Nat→Prop}{w0 w:World}{b:Nat}{acc:List UInt8}{x y z u:Value}{v:List ByteArray}{t:List Ex}{l:List Fm}(ht:IsFm P w0 x y z u (.mk 9 v t l)) (hx0:Ext w0 w) (hb0:w0.heap.size≤b) (hbw:b<w.heap.size) (hbld:BldT 84 b acc w)
  (hlen:acc.length+(Fm.mk 9 v t l).text.length≤140737488355328) (hF:∀e∈l,zml e) (hm:∀e∈l,e.may=true) (hs:Fm.sizes l≤4194304) :
  Calls Tryz.prog 46 #[.pointer (some ⟨b,0,none⟩),.agg #[x,y,z,u]] w (zdf b acc (Fm.mk 9 v t l).text w):=by
 obtain⟨b1,c1,b2,c2,b3,c3,rfl,rfl,rfl,rfl,-,-,hvc,htc,hlc,hvs,hts,hls⟩:=ht.form
 simp only[Fm.op,Fm.vars,Fm.terms,Fm.args]at hvc htc hlc hvs hts hls ⊢
 obtain⟨W,hW⟩:∃W,W=w.alloc (.cells #[.int .i64 9,.slice b1 v.length c1,.slice b2 t.length c2,.slice b3 l.length c3] 29):=⟨_,rfl⟩
 have hfW:BFr b w W:=by rw[hW];exact(BFr.refl b w).alloc' (Nat.le_of_lt hbw) _
 have hbW:BldT 84 b acc W:=by rw[hW];exact hbld.alloc _
 have hoW:W.heap[w.heap.size]?=some (.cells #[.int .i64 9,.slice b1 v.length c1,.slice b2 t.length c2,.slice b3 l.length c3] 29 (0,0)):=by rw[hW];exact zal _ _
 have hsW:b<W.heap.size:=by rw[hW];simp;omega
 obtain⟨V,hV⟩:∃V,V=W.alloc (.cells zk 126):=⟨_,rfl⟩
 have hfV:BFr b w V:=by rw[hV];exact hfW.alloc' (Nat.le_of_lt hsW) _
 have hbV:BldT 84 b acc V:=by rw[hV];exact hbW.alloc _
 have hoV:V.heap[w.heap.size]?=some (.cells #[.int .i64 9,.slice b1 v.length c1,.slice b2 t.length c2,.slice b3 l.length c3] 29 (0,0)):=by rw[hV];exact zej hoW _
 have hrV:V.heap[W.heap.size]?=some (.cells zk 126 (0,0)):=by rw[hV];exact zal _ _
 have hsV:b<V.heap.size:=by rw[hV];simp;omega
 have hx0V:Ext w0 V:=hfV.ext' hx0 hb0
 have k0:=zd hoV 0
 have k1:=zd hoV 1
 have k2:=zd hoV 2
 have k3:=zd hoV 3
 simp only[List.getElem?_toArray,List.getElem?_cons_succ,List.getElem?_cons_zero]at k0 k1 k2 k3
 clear ht hbW hoW
 have HT:=Lib.hid (show(Fm.mk 9 v t l).text=Fm.units true (⟨#[32,60,61,62,32]⟩:ByteArray).data.toList l by rw[(Fm.text6 (by decide) (by decide)).1];rfl)
 rw[HT.out]at hlen
 have hsep:((⟨#[32,60,61,62,32]⟩:ByteArray).data.toList).length=5:=rfl
 have hsp:ByteArray.size ⟨#[32,60,61,62,32]⟩=5:=rfl
 have HWS:=Lib.hid (fun (acc':List UInt8) w' (hb:BldT 84 b acc' w') (hl:acc'.length+5≤140737488355328) (hs:b≤w'.heap.size)=>zn zah b acc' ⟨#[32,60,61,62,32]⟩ w' hb (by omega) hs)
 generalize hsl:(⟨#[32,60,61,62,32]⟩:ByteArray).data.toList=sl at HT HWS hlen hsep
 have hkl:=Fm.length_le_sizes l
 have HU:=Lib.hid (fun (k:Nat) (hk:k<l.length) w' (hx:Ext w0 w') (hb:b<w'.heap.size) (acc':List UInt8) (hbl:BldT 84 b acc' w') (hac:acc'.length+(zbe l[k].op l[k].text).length≤140737488355328) x0 x1 x2 x3 (hi:IsFm P w0 x0 x1 x2 x3 l[k]) =>
  zdg (hF _ (List.getElem_mem hk)) (hm _ (List.getElem_mem hk)) (by have:=Fm.size_le_sizes hk;omega) hi hx hb0 hb hbl hac)
 have hr0:=zd hrV 9
 have Hlen:=Lib.hid hlen
 have Hsep:=Lib.hid hsep
 clear hF hm hlen hsl hsp hsep hr0
 go_enter Tryz.func46,Tryz.ntmps46
 go_upto_region 1 with fail
 rw[←hW]
 clear hW
 refine wp_region_lit ?_
 refine zg rfl 126 _ rfl zk (by kernel_rfl) ?_
 simp only[Act.put,List.setIfInBounds_toArray,List.set_cons_zero,List.set_cons_succ]
 refine wpList_plain rfl fun K hK=>?_
 go_simp
 refine hK _ _ ?_
 clear hK K
 have hrow:=World.setRow_alloc_new W zi zk 126
 unfold zi at hrow
 refine wpList_store_row rfl 126 _ _ rfl W.heap.size zk rfl rfl 126 zi (heap_alloc_new W (.cells zi 126)) (by kernel_rfl) rfl (by decide +kernel) ?_
 rw[hrow]
 clear hrow
 simp only[Act.put]
 rw[←hV]
 clear hV
 go_wp2_with fail
 clear k0 k1 k2 k3
 go_loopw [13] (fun iv wr=>∃k:Nat,k≤l.length∧iv=.int .i64 k∧BldT 84 b (acc++Fm.units true sl (l.take k)) wr∧BFr b V wr) (fun i _=>l.length-(intOf i).toNat)
 case atStart=>exact⟨0,Nat.zero_le _,rfl,by simpa[Fm.units]using hbV,BFr.refl _ _⟩
 case round =>
  obtain⟨k,hkk,rfl,hbr,hfr⟩:=hrel
  have hor:=hfr.obj hoV (by omega) (by decide)
  have hrr:=hfr.obj hrV (by omega) (by decide)
  have hsr:=hfr.below.size
  have hWV:W.heap.size<V.heap.size:=zbg hrV
  have hww:w.heap.size<V.heap.size:=zbg hoV
  by_cases hlt:k<l.length
  ·have hk1:(k:Int)<l.length:=by omega
   have hxr:=hfr.ext' hx0V hb0
   obtain⟨b',o',a1,d1,a2,d2,a',c',rfl,-,g1,g2,g3,g4,hi⟩:=hls.look hlt
   have g1':=hxr.cell g1
   have g2':=hxr.cell g2
   have g3':=hxr.cell g3
   have g4':=hxr.cell g4
   have hst:=zc3 l true sl k hlt
   have htl:=zb5 l true sl (k+1)
   have hl0:=Hlen.out
   rw[hst,List.length_append,List.length_append]at htl
   have Hst:=Lib.hid hst;clear hst
   obtain⟨V2,hV2⟩:∃V2,V2=wr.alloc (.cells #[.int .i64 l[k].op,.slice a1 l[k].vars.length d1,.slice a2 l[k].terms.length d2,.slice a' l[k].args.length c'] 29):=⟨_,rfl⟩
   have hbV2:BldT 84 b (acc++Fm.units true sl (l.take k)) V2:=by rw[hV2];exact hbr.alloc _
   have hfV2:BFr b V V2:=by rw[hV2];exact hfr.alloc' (by omega) _
   have hoV2:V2.heap[wr.heap.size]?=some (.cells #[.int .i64 l[k].op,.slice a1 l[k].vars.length d1,.slice a2 l[k].terms.length d2,.slice a' l[k].args.length c'] 29 (0,0)):=by rw[hV2];exact zal _ _
   have hsV2:b<V2.heap.size:=by have:=hfV2.below.size;omega
   by_cases hz:k=0
   ·have hzb:decide ((0:Int)<(k:Nat))=false:=decide_eq_false (by omega)
    have hz2:¬(0:Int)<(k:Nat):=by omega
    have Hcb:=Lib.hid (show(if k=0∧true=true then []else sl)=[] by rw[if_pos ⟨hz,rfl⟩])
    rw[Hcb.out,List.length_nil]at htl
    have hx2:=hfV2.ext' hx0V hb0
    have HX:=Lib.hid (HU.out k hlt V2 hx2 hsV2 _ hbV2 (by simp only[List.length_append];omega) _ _ _ _ hi)
    have n0:=zd hoV2 0;have n1:=zd hoV2 1;have n2:=zd hoV2 2;have n3:=zd hoV2 3
    simp only[List.getElem?_toArray,List.getElem?_cons_succ,List.getElem?_cons_zero]at n0 n1 n2 n3
    clear hz htl hl0 hi HU
    go_wp2_with (rw[←hV2];clear hV2;go_at_call 91;refine(HX.out).mono ?_;rintro e w6 ⟨rfl,hb6,hf6⟩)
    go_roundw
    case rel=>exact⟨k+1,by omega,by go_num,by rw[Hst.out,Hcb.out];simpa[List.append_assoc]using hb6,hfV2.trans hf6⟩
    case measure=>simp[intOf];omega
   ·have hzb:decide ((0:Int)<(k:Nat))=true:=decide_eq_true (by omega)
    have hz2:(0:Int)<(k:Nat):=by omega
    have Hcb:=Lib.hid (show(if k=0∧true=true then []else sl)=sl by rw[if_neg (fun h=>hz h.1)])
    rw[Hcb.out,Hsep.out]at htl
    have hq1:(acc++Fm.units true sl (l.take k)).length+5≤140737488355328:=by simp only[List.length_append];omega
    have hq2:(acc++Fm.units true sl (l.take k)++sl).length+(zbe l[k].op l[k].text).length≤140737488355328:=by have:=Hsep.out;simp only[List.length_append];omega
    have hoV3:=(BFr.refl b wr).alloc' (by omega) (.cells #[.int .i64 l[k].op,.slice a1 l[k].vars.length d1,.slice a2 l[k].terms.length d2,.slice a' l[k].args.length c'] 29)
    rw[←hV2]at hoV3
    have hp0:=zd (hoV3.obj hor (by omega) (by decide)) 0
    have hp1:=zd (hoV3.obj hrr (by omega) (by decide)) 9
    simp only[List.getElem?_toArray,List.getElem?_cons_zero]at hp0
    replace hp1:V2.cell? ⟨W.heap.size,9,none⟩=some (.string ⟨#[32,60,61,62,32]⟩):=hp1
    clear hz htl hl0
    go_wp2_with fail
    rw[←hV2]
    clear hV2
    go_still_tail 7,(by kernel_rfl)
    change wpList _ _ _ _ _ V2.drew
    go_wp2_with (first
     |(go_at_call 76;refine(HWS.out _ _ hbV2.drew hq1 (Nat.le_of_lt hsV2)).mono ?_;rintro e w4 ⟨rfl,hb4,hf4⟩;have ho4:=hf4.obj (show V2.drew.heap[wr.heap.size]?=_ from hoV2) (by omega) (by decide);have n0:=zd ho4 0;have n1:=zd ho4 1;have n2:=zd ho4 2;have n3:=zd ho4 3;simp only[List.getElem?_toArray,List.getElem?_cons_succ,List.getElem?_cons_zero]at n0 n1 n2 n3;have hf5:=hfV2.drew.trans hf4;have hx5:=hf5.ext' hx0V hb0;have hs5:=hf4.below.size)
     |(go_at_call 91;refine(HU.out k hlt w4 hx5 (by have:V2.drew.heap.size=V2.heap.size:=rfl;omega) _ hb4 hq2 _ _ _ _ hi).mono ?_;rintro e w6 ⟨rfl,hb6,hf6⟩))
    go_roundw
    case rel=>exact⟨k+1,by omega,by go_num,by rw[Hst.out,Hcb.out];simpa[List.append_assoc]using hb6,hf5.trans hf6⟩
    case measure=>simp[intOf];omega
  ·have hk1:¬(k:Int)<l.length:=by omega
   have hke:k=l.length:=by omega
   rw[hke,List.take_length]at hbr
   clear hke
   go_wp2_with fail
   go_returns
   exact⟨rfl,by rw[HT.out];exact hbr,hfV.trans hfr⟩
theorem zus {P:Nat→Prop}{w0 w:World}{b:Nat}{acc:List UInt8}{x y z u:Value}{v:List ByteArray}{t:List Ex}{l:List Fm}(ht:IsFm P w0 x y z u (.mk 10 v t l)) (hx0:Ext w0 w) (hb0:w0.heap.size≤b) (hbw:b<w.heap.size) (hbld:BldT 84 b acc w)
  (hlen:acc.length+(Fm.mk 10 v t l).text.length≤140737488355328) (hF:∀e∈l,zml e) (hm:∀e∈l,e.may=true) (hs:Fm.sizes l≤4194304) :
  Calls Tryz.prog 46 #[.pointer (some ⟨b,0,none⟩),.agg #[x,y,z,u]] w (zdf b acc (Fm.mk 10 v t l).text w):=by
 obtain⟨b1,c1,b2,c2,b3,c3,rfl,rfl,rfl,rfl,-,-,hvc,htc,hlc,hvs,hts,hls⟩:=ht.form
 simp only[Fm.op,Fm.vars,Fm.terms,Fm.args]at hvc htc hlc hvs hts hls ⊢
 obtain⟨W,hW⟩:∃W,W=w.alloc (.cells #[.int .i64 10,.slice b1 v.length c1,.slice b2 t.length c2,.slice b3 l.length c3] 29):=⟨_,rfl⟩
 have hfW:BFr b w W:=by rw[hW];exact(BFr.refl b w).alloc' (Nat.le_of_lt hbw) _
 have hbW:BldT 84 b acc W:=by rw[hW];exact hbld.alloc _
 have hoW:W.heap[w.heap.size]?=some (.cells #[.int .i64 10,.slice b1 v.length c1,.slice b2 t.length c2,.slice b3 l.length c3] 29 (0,0)):=by rw[hW];exact zal _ _
 have hsW:b<W.heap.size:=by rw[hW];simp;omega
 obtain⟨V,hV⟩:∃V,V=W.alloc (.cells zk 126):=⟨_,rfl⟩
 have hfV:BFr b w V:=by rw[hV];exact hfW.alloc' (Nat.le_of_lt hsW) _
 have hbV:BldT 84 b acc V:=by rw[hV];exact hbW.alloc _
 have hoV:V.heap[w.heap.size]?=some (.cells #[.int .i64 10,.slice b1 v.length c1,.slice b2 t.length c2,.slice b3 l.length c3] 29 (0,0)):=by rw[hV];exact zej hoW _
 have hrV:V.heap[W.heap.size]?=some (.cells zk 126 (0,0)):=by rw[hV];exact zal _ _
 have hsV:b<V.heap.size:=by rw[hV];simp;omega
 have hx0V:Ext w0 V:=hfV.ext' hx0 hb0
 have k0:=zd hoV 0
 have k1:=zd hoV 1
 have k2:=zd hoV 2
 have k3:=zd hoV 3
 simp only[List.getElem?_toArray,List.getElem?_cons_succ,List.getElem?_cons_zero]at k0 k1 k2 k3
 clear ht hbW hoW
 have HT:=Lib.hid (show(Fm.mk 10 v t l).text=Fm.units true (⟨#[32,60,126,62,32]⟩:ByteArray).data.toList l by rw[(Fm.text6 (by decide) (by decide)).1];rfl)
 rw[HT.out]at hlen
 have hsep:((⟨#[32,60,126,62,32]⟩:ByteArray).data.toList).length=5:=rfl
 have hsp:ByteArray.size ⟨#[32,60,126,62,32]⟩=5:=rfl
 have HWS:=Lib.hid (fun (acc':List UInt8) w' (hb:BldT 84 b acc' w') (hl:acc'.length+5≤140737488355328) (hs:b≤w'.heap.size)=>zn zah b acc' ⟨#[32,60,126,62,32]⟩ w' hb (by omega) hs)
 generalize hsl:(⟨#[32,60,126,62,32]⟩:ByteArray).data.toList=sl at HT HWS hlen hsep
 have hkl:=Fm.length_le_sizes l
 have HU:=Lib.hid (fun (k:Nat) (hk:k<l.length) w' (hx:Ext w0 w') (hb:b<w'.heap.size) (acc':List UInt8) (hbl:BldT 84 b acc' w') (hac:acc'.length+(zbe l[k].op l[k].text).length≤140737488355328) x0 x1 x2 x3 (hi:IsFm P w0 x0 x1 x2 x3 l[k]) =>
  zdg (hF _ (List.getElem_mem hk)) (hm _ (List.getElem_mem hk)) (by have:=Fm.size_le_sizes hk;omega) hi hx hb0 hb hbl hac)
 have hr0:=zd hrV 10
 have Hlen:=Lib.hid hlen
 have Hsep:=Lib.hid hsep
 clear hF hm hlen hsl hsp hsep hr0
 go_enter Tryz.func46,Tryz.ntmps46
 go_upto_region 1 with fail
 rw[←hW]
 clear hW
 refine wp_region_lit ?_
 refine zg rfl 126 _ rfl zk (by kernel_rfl) ?_
 simp only[Act.put,List.setIfInBounds_toArray,List.set_cons_zero,List.set_cons_succ]
 refine wpList_plain rfl fun K hK=>?_
 go_simp
 refine hK _ _ ?_
 clear hK K
 have hrow:=World.setRow_alloc_new W zi zk 126
 unfold zi at hrow
 refine wpList_store_row rfl 126 _ _ rfl W.heap.size zk rfl rfl 126 zi (heap_alloc_new W (.cells zi 126)) (by kernel_rfl) rfl (by decide +kernel) ?_
 rw[hrow]
 clear hrow
 simp only[Act.put]
 rw[←hV]
 clear hV
 go_wp2_with fail
 clear k0 k1 k2 k3
 go_loopw [13] (fun iv wr=>∃k:Nat,k≤l.length∧iv=.int .i64 k∧BldT 84 b (acc++Fm.units true sl (l.take k)) wr∧BFr b V wr) (fun i _=>l.length-(intOf i).toNat)
 case atStart=>exact⟨0,Nat.zero_le _,rfl,by simpa[Fm.units]using hbV,BFr.refl _ _⟩
 case round =>
  obtain⟨k,hkk,rfl,hbr,hfr⟩:=hrel
  have hor:=hfr.obj hoV (by omega) (by decide)
  have hrr:=hfr.obj hrV (by omega) (by decide)
  have hsr:=hfr.below.size
  have hWV:W.heap.size<V.heap.size:=zbg hrV
  have hww:w.heap.size<V.heap.size:=zbg hoV
  by_cases hlt:k<l.length
  ·have hk1:(k:Int)<l.length:=by omega
   have hxr:=hfr.ext' hx0V hb0
   obtain⟨b',o',a1,d1,a2,d2,a',c',rfl,-,g1,g2,g3,g4,hi⟩:=hls.look hlt
   have g1':=hxr.cell g1
   have g2':=hxr.cell g2
   have g3':=hxr.cell g3
   have g4':=hxr.cell g4
   have hst:=zc3 l true sl k hlt
   have htl:=zb5 l true sl (k+1)
   have hl0:=Hlen.out
   rw[hst,List.length_append,List.length_append]at htl
   have Hst:=Lib.hid hst;clear hst
   obtain⟨V2,hV2⟩:∃V2,V2=wr.alloc (.cells #[.int .i64 l[k].op,.slice a1 l[k].vars.length d1,.slice a2 l[k].terms.length d2,.slice a' l[k].args.length c'] 29):=⟨_,rfl⟩
   have hbV2:BldT 84 b (acc++Fm.units true sl (l.take k)) V2:=by rw[hV2];exact hbr.alloc _
   have hfV2:BFr b V V2:=by rw[hV2];exact hfr.alloc' (by omega) _
   have hoV2:V2.heap[wr.heap.size]?=some (.cells #[.int .i64 l[k].op,.slice a1 l[k].vars.length d1,.slice a2 l[k].terms.length d2,.slice a' l[k].args.length c'] 29 (0,0)):=by rw[hV2];exact zal _ _
   have hsV2:b<V2.heap.size:=by have:=hfV2.below.size;omega
   by_cases hz:k=0
   ·have hzb:decide ((0:Int)<(k:Nat))=false:=decide_eq_false (by omega)
    have hz2:¬(0:Int)<(k:Nat):=by omega
    have Hcb:=Lib.hid (show(if k=0∧true=true then []else sl)=[] by rw[if_pos ⟨hz,rfl⟩])
    rw[Hcb.out,List.length_nil]at htl
    have hx2:=hfV2.ext' hx0V hb0
    have HX:=Lib.hid (HU.out k hlt V2 hx2 hsV2 _ hbV2 (by simp only[List.length_append];omega) _ _ _ _ hi)
    have n0:=zd hoV2 0;have n1:=zd hoV2 1;have n2:=zd hoV2 2;have n3:=zd hoV2 3
    simp only[List.getElem?_toArray,List.getElem?_cons_succ,List.getElem?_cons_zero]at n0 n1 n2 n3
    clear hz htl hl0 hi HU
    go_wp2_with (rw[←hV2];clear hV2;go_at_call 91;refine(HX.out).mono ?_;rintro e w6 ⟨rfl,hb6,hf6⟩)
    go_roundw
    case rel=>exact⟨k+1,by omega,by go_num,by rw[Hst.out,Hcb.out];simpa[List.append_assoc]using hb6,hfV2.trans hf6⟩
    case measure=>simp[intOf];omega
   ·have hzb:decide ((0:Int)<(k:Nat))=true:=decide_eq_true (by omega)
    have hz2:(0:Int)<(k:Nat):=by omega
    have Hcb:=Lib.hid (show(if k=0∧true=true then []else sl)=sl by rw[if_neg (fun h=>hz h.1)])
    rw[Hcb.out,Hsep.out]at htl
    have hq1:(acc++Fm.units true sl (l.take k)).length+5≤140737488355328:=by simp only[List.length_append];omega
    have hq2:(acc++Fm.units true sl (l.take k)++sl).length+(zbe l[k].op l[k].text).length≤140737488355328:=by have:=Hsep.out;simp only[List.length_append];omega
    have hoV3:=(BFr.refl b wr).alloc' (by omega) (.cells #[.int .i64 l[k].op,.slice a1 l[k].vars.length d1,.slice a2 l[k].terms.length d2,.slice a' l[k].args.length c'] 29)
    rw[←hV2]at hoV3
    have hp0:=zd (hoV3.obj hor (by omega) (by decide)) 0
    have hp1:=zd (hoV3.obj hrr (by omega) (by decide)) 10
    simp only[List.getElem?_toArray,List.getElem?_cons_zero]at hp0
    replace hp1:V2.cell? ⟨W.heap.size,10,none⟩=some (.string ⟨#[32,60,126,62,32]⟩):=hp1
    clear hz htl hl0
    go_wp2_with fail
    rw[←hV2]
    clear hV2
    go_still_tail 7,(by kernel_rfl)
    change wpList _ _ _ _ _ V2.drew
    go_wp2_with (first
     |(go_at_call 76;refine(HWS.out _ _ hbV2.drew hq1 (Nat.le_of_lt hsV2)).mono ?_;rintro e w4 ⟨rfl,hb4,hf4⟩;have ho4:=hf4.obj (show V2.drew.heap[wr.heap.size]?=_ from hoV2) (by omega) (by decide);have n0:=zd ho4 0;have n1:=zd ho4 1;have n2:=zd ho4 2;have n3:=zd ho4 3;simp only[List.getElem?_toArray,List.getElem?_cons_succ,List.getElem?_cons_zero]at n0 n1 n2 n3;have hf5:=hfV2.drew.trans hf4;have hx5:=hf5.ext' hx0V hb0;have hs5:=hf4.below.size)
     |(go_at_call 91;refine(HU.out k hlt w4 hx5 (by have:V2.drew.heap.size=V2.heap.size:=rfl;omega) _ hb4 hq2 _ _ _ _ hi).mono ?_;rintro e w6 ⟨rfl,hb6,hf6⟩))
    go_roundw
    case rel=>exact⟨k+1,by omega,by go_num,by rw[Hst.out,Hcb.out];simpa[List.append_assoc]using hb6,hf5.trans hf6⟩
    case measure=>simp[intOf];omega
  ·have hk1:¬(k:Int)<l.length:=by omega
   have hke:k=l.length:=by omega
   rw[hke,List.take_length]at hbr
   clear hke
   go_wp2_with fail
   go_returns
   exact⟨rfl,by rw[HT.out];exact hbr,hfV.trans hfr⟩
theorem zgn:∀l:List ByteArray,zaa false l=Lib.joinTail [44] (l.map (·.data.toList))
 |[]=>rfl
 |v::l=>by
  have:=zgn l
  simp only[zaa,Lib.joinTail,List.map_cons,List.flatten_cons]at this ⊢
  rw[this];simp
theorem zh7 {l:List ByteArray}:zaa true l=Lib.join (l.map (·.data.toList)) [44]:=by
 cases l with
 |nil=>rfl
 |cons v l=>rw[List.map_cons,Lib.join_cons];simp only[zaa,if_true,List.nil_append];rw[zgn]
theorem zut {P:Nat→Prop}{w0 w:World}{b:Nat}{acc:List UInt8}{x y z u:Value}{v:List ByteArray}{t:List Ex}{l:List Fm}(ht:IsFm P w0 x y z u (.mk 11 v t l)) (hx0:Ext w0 w) (hb0:w0.heap.size≤b) (hbw:b<w.heap.size) (hbld:BldT 84 b acc w)
  (hlen:acc.length+(Fm.mk 11 v t l).text.length≤140737488355328) (h1:l.length=1) (hv:0<v.length) (hvl:v.length≤4194304) (hF:∀e∈l,zml e) (hm:∀e∈l,e.may=true) (hs:Fm.sizes l≤4194304) :
  Calls Tryz.prog 46 #[.pointer (some ⟨b,0,none⟩),.agg #[x,y,z,u]] w (zdf b acc (Fm.mk 11 v t l).text w):=by
 obtain⟨b1,c1,b2,c2,b3,c3,rfl,rfl,rfl,rfl,-,-,hvc,htc,hlc,hvs,hts,hls⟩:=ht.form
 simp only[Fm.op,Fm.vars,Fm.terms,Fm.args]at hvc htc hlc hvs hts hls ⊢
 obtain⟨g,rfl⟩:∃g,l=[g]:=by match l,h1 with|[g],_=>exact⟨g,rfl⟩
 obtain⟨W,hW⟩:∃W,W=w.alloc (.cells #[.int .i64 11,.slice b1 v.length c1,.slice b2 t.length c2,.slice b3 [g].length c3] 29):=⟨_,rfl⟩
 have hfW:BFr b w W:=by rw[hW];exact(BFr.refl b w).alloc' (Nat.le_of_lt hbw) _
 have hbW:BldT 84 b acc W:=by rw[hW];exact hbld.alloc _
 have hoW:W.heap[w.heap.size]?=some (.cells #[.int .i64 11,.slice b1 v.length c1,.slice b2 t.length c2,.slice b3 [g].length c3] 29 (0,0)):=by rw[hW];exact zal _ _
 have hsW:b<W.heap.size:=by rw[hW];simp;omega
 obtain⟨V,hV⟩:∃V,V=W.alloc (.cells zk 126):=⟨_,rfl⟩
 have hfV:BFr b w V:=by rw[hV];exact hfW.alloc' (Nat.le_of_lt hsW) _
 have hbV:BldT 84 b acc V:=by rw[hV];exact hbW.alloc _
 have hoV:V.heap[w.heap.size]?=some (.cells #[.int .i64 11,.slice b1 v.length c1,.slice b2 t.length c2,.slice b3 [g].length c3] 29 (0,0)):=by rw[hV];exact zej hoW _
 have hrV:V.heap[W.heap.size]?=some (.cells zk 126 (0,0)):=by rw[hV];exact zal _ _
 have hsV:b<V.heap.size:=by rw[hV];simp;omega
 have hx0V:Ext w0 V:=hfV.ext' hx0 hb0
 have k0:=zd hoV 0
 have k1:=zd hoV 1
 have k2:=zd hoV 2
 have k3:=zd hoV 3
 simp only[List.getElem?_toArray,List.getElem?_cons_succ,List.getElem?_cons_zero]at k0 k1 k2 k3
 clear ht hbW hoW
 have HT:=Lib.hid (show(Fm.mk 11 v t [g]).text=(⟨#[33,32,91]⟩:ByteArray).data.toList++(Lib.join (v.map (·.data.toList)) [44]++((⟨#[93,32,58,32]⟩:ByteArray).data.toList++zbe g.op g.text)) by rw[(Fm.text11 (by decide)).1,zh7];simp only[Fm.units,if_true,List.nil_append,List.append_nil];rfl)
 rw[HT.out,List.length_append,List.length_append,List.length_append]at hlen
 have hs1:((⟨#[33,32,91]⟩:ByteArray).data.toList).length=3:=rfl
 have hs2:ByteArray.size ⟨#[33,32,91]⟩=3:=rfl
 have hs3:((⟨#[93,32,58,32]⟩:ByteArray).data.toList).length=4:=rfl
 have hs4:ByteArray.size ⟨#[93,32,58,32]⟩=4:=rfl
 rw[hs1,hs3]at hlen
 obtain⟨vb,vo,rfl,-,hv0,-⟩:=hvs.look (i:=0) hv
 obtain⟨js,hjs⟩:∃js:List UInt8,js=Lib.join (v.map (·.data.toList)) [44]:=⟨_,rfl⟩
 rw[←hjs]at HT hlen
 have HJ:=Lib.hid (fun w' (hx:Ext w0 w')=>Tryz.strings_Join vb vo c1 v ⟨#[44]⟩ w' (fun j x hj=>by
   obtain⟨hj1,hj2⟩:=List.getElem?_eq_some_iff.1 hj
   obtain⟨vb',vo',he,-,hc,-⟩:=hvs.look hj1
   injection he with he;injection he with he1 he2 _
   subst he1;subst he2;subst hj2
   exact hx.cell hc) (zf (hx.cell hv0)) (by omega) hvc (by show(Lib.join (v.map (·.data.toList)) [44]).length≤_;rw[←hjs];omega))
 replace HJ:=Lib.hid (fun w' (hx:Ext w0 w')=>by have h:=HJ.out w' hx;rw[show(⟨#[44]⟩:ByteArray).data.toList=[44]from rfl,←hjs]at h;exact h)
 clear hjs
 obtain⟨gb,go',a1,d1,a2,d2,a3,d3,rfl,-,f0,f1,f2,f3,hg⟩:=hls.look (i:=0) (by simp)
 simp only[List.getElem_cons_zero,Nat.zero_mul,Nat.add_zero]at f0 f1 f2 f3 hg
 have hq1:acc.length+ByteArray.size ⟨#[33,32,91]⟩≤140737488355328:=by omega
 have HWS:=Lib.hid (zn zah b acc ⟨#[33,32,91]⟩ V.drew hbV hq1 (Nat.le_of_lt hsV))
 have HWJ:=Lib.hid (fun w' (hb:BldT 84 b (acc++(⟨#[33,32,91]⟩:ByteArray).data.toList) w') (hs:b≤w'.heap.size)=>zn zah b _ ⟨js.toArray⟩ w' hb (by simp only[List.length_append,hs1];show _+js.length≤_;omega) hs)
 have HWO:=Lib.hid (fun w' (hb:BldT 84 b (acc++(⟨#[33,32,91]⟩:ByteArray).data.toList++js) w') (hs:b≤w'.heap.size)=>zn zah b _ ⟨#[93,32,58,32]⟩ w' hb (by simp only[List.length_append,hs1];omega) hs)
 have HU:=Lib.hid (fun w' (hx:Ext w0 w') (hb:b<w'.heap.size) (hbl:BldT 84 b (acc++(⟨#[33,32,91]⟩:ByteArray).data.toList++js++(⟨#[93,32,58,32]⟩:ByteArray).data.toList) w')=>zdg (hF g (by simp)) (hm g (by simp)) (by simp only[Fm.sizes]at hs;omega) hg hx hb0 hb hbl (by simp only[List.length_append,hs1,hs3];omega))
 have Hg:=Lib.hid (And.intro f0 (And.intro f1 (And.intro f2 f3)))
 have hr0:V.cell? ⟨W.heap.size,11,none⟩=some (.string ⟨#[33,32,91]⟩):=zd hrV 11
 clear hlen hm hg f0 f1 f2 f3 hls hF hs1 hs2 hs3 hs4 hv0 hvs hq1
 generalize zbe g.op g.text=ut at HT HU
 simp only[List.length_cons,List.length_nil,Nat.zero_add]at hW hoV k3 ⊢
 go_enter Tryz.func46,Tryz.ntmps46
 go_upto_region 1 with fail
 rw[←hW]
 clear hW
 refine wp_region_lit ?_
 refine zg rfl 126 _ rfl zk (by kernel_rfl) ?_
 simp only[Act.put,List.setIfInBounds_toArray,List.set_cons_zero,List.set_cons_succ]
 refine wpList_plain rfl fun K hK=>?_
 go_simp
 refine hK _ _ ?_
 clear hK K
 have hrow:=World.setRow_alloc_new W zi zk 126
 unfold zi at hrow
 refine wpList_store_row rfl 126 _ _ rfl W.heap.size zk rfl rfl 126 zi (heap_alloc_new W (.cells zi 126)) (by kernel_rfl) rfl (by decide +kernel) ?_
 rw[hrow]
 clear hrow
 simp only[Act.put]
 rw[←hV]
 clear hV
 go_wp2_with fail
 go_still_tail 7,(by kernel_rfl)
 change wpList _ _ _ _ _ V.drew
 go_wp2_with (go_at_call 76;refine(HWS.out).mono ?_;rintro e w3 ⟨rfl,hb3,hf3⟩;have hoW3:=hf3.obj (show V.drew.heap[w.heap.size]?=_ from hoV) (by omega) (by decide);have m1:=zd hoW3 1;simp only[List.getElem?_toArray,List.getElem?_cons_succ,List.getElem?_cons_zero]at m1;have hx3:=hf3.ext' (show Ext w0 V.drew from Ext.drew hx0V) hb0;have hs3:b<w3.heap.size:=Nat.lt_of_lt_of_le hsV hf3.below.size)
 go_region_law ((first
  |(go_simp;go_at_call 92;refine(HJ.out _ (Ext.drew hx3)).mono ?_;rintro e w4 ⟨rfl,hx4'⟩;have hx4:Ext w3 w4:=(Ext.drew (Below.refl _ w3)).trans hx4';have hb4:=hb3.ext hx4)
  |(go_simp;go_at_call 76;refine(HWJ.out _ hb4 (Nat.le_of_lt (Nat.lt_of_lt_of_le hs3 hx4.size))).mono ?_;rintro e w5 ⟨rfl,hb5,hf5⟩)))
 all_goals
  have hf45:=hf3.trans ((BFr.of_ext hx4 (Nat.le_of_lt hs3)).trans hf5)
  have hoW5:=hf45.obj (show V.drew.heap[w.heap.size]?=_ from hoV) (by omega) (by decide)
  have m3:=zd hoW5 3
  simp only[List.getElem?_toArray,List.getElem?_cons_succ,List.getElem?_cons_zero]at m3
  have hs5:b<w5.heap.size:=Nat.lt_of_lt_of_le hsV hf45.below.size
  go_wp2_with (first
   |(go_at_call 76;refine(HWO.out _ hb5 (Nat.le_of_lt hs5)).mono ?_;rintro e w6 ⟨rfl,hb6,hf6⟩;have hf7:=hf45.trans hf6;have hoW6:=hf6.obj hoW5 (by omega) (by decide);have m4:=zd hoW6 3;simp only[List.getElem?_toArray,List.getElem?_cons_succ,List.getElem?_cons_zero]at m4;have hx6:=hf7.ext' (show Ext w0 V.drew from Ext.drew hx0V) hb0;have n0:=hx6.cell Hg.out.1;have n1:=hx6.cell Hg.out.2.1;have n2:=hx6.cell Hg.out.2.2.1;have n3:=hx6.cell Hg.out.2.2.2;have hs6:b<w6.heap.size:=Nat.lt_of_lt_of_le hsV hf7.below.size)
   |(go_at_call 91;refine(HU.out w6 hx6 hs6 hb6).mono ?_;rintro e w8 ⟨rfl,hb8,hf8⟩))
  go_returns
  exact⟨rfl,by rw[HT.out];simpa[List.append_assoc]using hb8,hfV.drew.trans (hf7.trans hf8)⟩
theorem zuu {P:Nat→Prop}{w0 w:World}{b:Nat}{acc:List UInt8}{x y z u:Value}{v:List ByteArray}{t:List Ex}{l:List Fm}(ht:IsFm P w0 x y z u (.mk 12 v t l)) (hx0:Ext w0 w) (hb0:w0.heap.size≤b) (hbw:b<w.heap.size) (hbld:BldT 84 b acc w)
  (hlen:acc.length+(Fm.mk 12 v t l).text.length≤140737488355328) (h1:l.length=1) (hv:0<v.length) (hvl:v.length≤4194304) (hF:∀e∈l,zml e) (hm:∀e∈l,e.may=true) (hs:Fm.sizes l≤4194304) :
  Calls Tryz.prog 46 #[.pointer (some ⟨b,0,none⟩),.agg #[x,y,z,u]] w (zdf b acc (Fm.mk 12 v t l).text w):=by
 obtain⟨b1,c1,b2,c2,b3,c3,rfl,rfl,rfl,rfl,-,-,hvc,htc,hlc,hvs,hts,hls⟩:=ht.form
 simp only[Fm.op,Fm.vars,Fm.terms,Fm.args]at hvc htc hlc hvs hts hls ⊢
 obtain⟨g,rfl⟩:∃g,l=[g]:=by match l,h1 with|[g],_=>exact⟨g,rfl⟩
 obtain⟨W,hW⟩:∃W,W=w.alloc (.cells #[.int .i64 12,.slice b1 v.length c1,.slice b2 t.length c2,.slice b3 [g].length c3] 29):=⟨_,rfl⟩
 have hfW:BFr b w W:=by rw[hW];exact(BFr.refl b w).alloc' (Nat.le_of_lt hbw) _
 have hbW:BldT 84 b acc W:=by rw[hW];exact hbld.alloc _
 have hoW:W.heap[w.heap.size]?=some (.cells #[.int .i64 12,.slice b1 v.length c1,.slice b2 t.length c2,.slice b3 [g].length c3] 29 (0,0)):=by rw[hW];exact zal _ _
 have hsW:b<W.heap.size:=by rw[hW];simp;omega
 obtain⟨V,hV⟩:∃V,V=W.alloc (.cells zk 126):=⟨_,rfl⟩
 have hfV:BFr b w V:=by rw[hV];exact hfW.alloc' (Nat.le_of_lt hsW) _
 have hbV:BldT 84 b acc V:=by rw[hV];exact hbW.alloc _
 have hoV:V.heap[w.heap.size]?=some (.cells #[.int .i64 12,.slice b1 v.length c1,.slice b2 t.length c2,.slice b3 [g].length c3] 29 (0,0)):=by rw[hV];exact zej hoW _
 have hrV:V.heap[W.heap.size]?=some (.cells zk 126 (0,0)):=by rw[hV];exact zal _ _
 have hsV:b<V.heap.size:=by rw[hV];simp;omega
 have hx0V:Ext w0 V:=hfV.ext' hx0 hb0
 have k0:=zd hoV 0
 have k1:=zd hoV 1
 have k2:=zd hoV 2
 have k3:=zd hoV 3
 simp only[List.getElem?_toArray,List.getElem?_cons_succ,List.getElem?_cons_zero]at k0 k1 k2 k3
 clear ht hbW hoW
 have HT:=Lib.hid (show(Fm.mk 12 v t [g]).text=(⟨#[63,32,91]⟩:ByteArray).data.toList++(Lib.join (v.map (·.data.toList)) [44]++((⟨#[93,32,58,32]⟩:ByteArray).data.toList++zbe g.op g.text)) by rw[(Fm.text11 (by decide)).1,zh7];simp only[Fm.units,if_true,List.nil_append,List.append_nil];rfl)
 rw[HT.out,List.length_append,List.length_append,List.length_append]at hlen
 have hs1:((⟨#[63,32,91]⟩:ByteArray).data.toList).length=3:=rfl
 have hs2:ByteArray.size ⟨#[63,32,91]⟩=3:=rfl
 have hs3:((⟨#[93,32,58,32]⟩:ByteArray).data.toList).length=4:=rfl
 have hs4:ByteArray.size ⟨#[93,32,58,32]⟩=4:=rfl
 rw[hs1,hs3]at hlen
 obtain⟨vb,vo,rfl,-,hv0,-⟩:=hvs.look (i:=0) hv
 obtain⟨js,hjs⟩:∃js:List UInt8,js=Lib.join (v.map (·.data.toList)) [44]:=⟨_,rfl⟩
 rw[←hjs]at HT hlen
 have HJ:=Lib.hid (fun w' (hx:Ext w0 w')=>Tryz.strings_Join vb vo c1 v ⟨#[44]⟩ w' (fun j x hj=>by
   obtain⟨hj1,hj2⟩:=List.getElem?_eq_some_iff.1 hj
   obtain⟨vb',vo',he,-,hc,-⟩:=hvs.look hj1
   injection he with he;injection he with he1 he2 _
   subst he1;subst he2;subst hj2
   exact hx.cell hc) (zf (hx.cell hv0)) (by omega) hvc (by show(Lib.join (v.map (·.data.toList)) [44]).length≤_;rw[←hjs];omega))
 replace HJ:=Lib.hid (fun w' (hx:Ext w0 w')=>by have h:=HJ.out w' hx;rw[show(⟨#[44]⟩:ByteArray).data.toList=[44]from rfl,←hjs]at h;exact h)
 clear hjs
 obtain⟨gb,go',a1,d1,a2,d2,a3,d3,rfl,-,f0,f1,f2,f3,hg⟩:=hls.look (i:=0) (by simp)
 simp only[List.getElem_cons_zero,Nat.zero_mul,Nat.add_zero]at f0 f1 f2 f3 hg
 have hq1:acc.length+ByteArray.size ⟨#[63,32,91]⟩≤140737488355328:=by omega
 have HWS:=Lib.hid (zn zah b acc ⟨#[63,32,91]⟩ V.drew hbV hq1 (Nat.le_of_lt hsV))
 have HWJ:=Lib.hid (fun w' (hb:BldT 84 b (acc++(⟨#[63,32,91]⟩:ByteArray).data.toList) w') (hs:b≤w'.heap.size)=>zn zah b _ ⟨js.toArray⟩ w' hb (by simp only[List.length_append,hs1];show _+js.length≤_;omega) hs)
 have HWO:=Lib.hid (fun w' (hb:BldT 84 b (acc++(⟨#[63,32,91]⟩:ByteArray).data.toList++js) w') (hs:b≤w'.heap.size)=>zn zah b _ ⟨#[93,32,58,32]⟩ w' hb (by simp only[List.length_append,hs1];omega) hs)
 have HU:=Lib.hid (fun w' (hx:Ext w0 w') (hb:b<w'.heap.size) (hbl:BldT 84 b (acc++(⟨#[63,32,91]⟩:ByteArray).data.toList++js++(⟨#[93,32,58,32]⟩:ByteArray).data.toList) w')=>zdg (hF g (by simp)) (hm g (by simp)) (by simp only[Fm.sizes]at hs;omega) hg hx hb0 hb hbl (by simp only[List.length_append,hs1,hs3];omega))
 have Hg:=Lib.hid (And.intro f0 (And.intro f1 (And.intro f2 f3)))
 have hr0:V.cell? ⟨W.heap.size,12,none⟩=some (.string ⟨#[63,32,91]⟩):=zd hrV 12
 clear hlen hm hg f0 f1 f2 f3 hls hF hs1 hs2 hs3 hs4 hv0 hvs hq1
 generalize zbe g.op g.text=ut at HT HU
 simp only[List.length_cons,List.length_nil,Nat.zero_add]at hW hoV k3 ⊢
 go_enter Tryz.func46,Tryz.ntmps46
 go_upto_region 1 with fail
 rw[←hW]
 clear hW
 refine wp_region_lit ?_
 refine zg rfl 126 _ rfl zk (by kernel_rfl) ?_
 simp only[Act.put,List.setIfInBounds_toArray,List.set_cons_zero,List.set_cons_succ]
 refine wpList_plain rfl fun K hK=>?_
 go_simp
 refine hK _ _ ?_
 clear hK K
 have hrow:=World.setRow_alloc_new W zi zk 126
 unfold zi at hrow
 refine wpList_store_row rfl 126 _ _ rfl W.heap.size zk rfl rfl 126 zi (heap_alloc_new W (.cells zi 126)) (by kernel_rfl) rfl (by decide +kernel) ?_
 rw[hrow]
 clear hrow
 simp only[Act.put]
 rw[←hV]
 clear hV
 go_wp2_with fail
 go_still_tail 7,(by kernel_rfl)
 change wpList _ _ _ _ _ V.drew
 go_wp2_with (go_at_call 76;refine(HWS.out).mono ?_;rintro e w3 ⟨rfl,hb3,hf3⟩;have hoW3:=hf3.obj (show V.drew.heap[w.heap.size]?=_ from hoV) (by omega) (by decide);have m1:=zd hoW3 1;simp only[List.getElem?_toArray,List.getElem?_cons_succ,List.getElem?_cons_zero]at m1;have hx3:=hf3.ext' (show Ext w0 V.drew from Ext.drew hx0V) hb0;have hs3:b<w3.heap.size:=Nat.lt_of_lt_of_le hsV hf3.below.size)
 go_region_law ((first
  |(go_simp;go_at_call 92;refine(HJ.out _ (Ext.drew hx3)).mono ?_;rintro e w4 ⟨rfl,hx4'⟩;have hx4:Ext w3 w4:=(Ext.drew (Below.refl _ w3)).trans hx4';have hb4:=hb3.ext hx4)
  |(go_simp;go_at_call 76;refine(HWJ.out _ hb4 (Nat.le_of_lt (Nat.lt_of_lt_of_le hs3 hx4.size))).mono ?_;rintro e w5 ⟨rfl,hb5,hf5⟩)))
 all_goals
  have hf45:=hf3.trans ((BFr.of_ext hx4 (Nat.le_of_lt hs3)).trans hf5)
  have hoW5:=hf45.obj (show V.drew.heap[w.heap.size]?=_ from hoV) (by omega) (by decide)
  have m3:=zd hoW5 3
  simp only[List.getElem?_toArray,List.getElem?_cons_succ,List.getElem?_cons_zero]at m3
  have hs5:b<w5.heap.size:=Nat.lt_of_lt_of_le hsV hf45.below.size
  go_wp2_with (first
   |(go_at_call 76;refine(HWO.out _ hb5 (Nat.le_of_lt hs5)).mono ?_;rintro e w6 ⟨rfl,hb6,hf6⟩;have hf7:=hf45.trans hf6;have hoW6:=hf6.obj hoW5 (by omega) (by decide);have m4:=zd hoW6 3;simp only[List.getElem?_toArray,List.getElem?_cons_succ,List.getElem?_cons_zero]at m4;have hx6:=hf7.ext' (show Ext w0 V.drew from Ext.drew hx0V) hb0;have n0:=hx6.cell Hg.out.1;have n1:=hx6.cell Hg.out.2.1;have n2:=hx6.cell Hg.out.2.2.1;have n3:=hx6.cell Hg.out.2.2.2;have hs6:b<w6.heap.size:=Nat.lt_of_lt_of_le hsV hf7.below.size)
   |(go_at_call 91;refine(HU.out w6 hx6 hs6 hb6).mono ?_;rintro e w8 ⟨rfl,hb8,hf8⟩))
  go_returns
  exact⟨rfl,by rw[HT.out];simpa[List.append_assoc]using hb8,hfV.drew.trans (hf7.trans hf8)⟩
end Go.Proofs.YtnclgkdpafhogaaGreat
