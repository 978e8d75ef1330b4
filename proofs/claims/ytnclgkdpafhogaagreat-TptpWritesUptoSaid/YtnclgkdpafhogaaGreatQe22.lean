/- The reference's text: bound formulas, equations; all of it. Conditions: formulas that may be, of at most 4194304 parts.
The reference's text, whole; Text. Conditions: at most 4194304 parts.
Plain: how entries are written. No condition.
formula.writer: what expr, equation write. Conditions: terms that may be, of at most 4194304 parts; the text is shorter than 2^47. -/
import Derived.Test.YtnclgkdpafhogaaGreatQe20
import Derived.Test.YtnclgkdpafhogaaGreatQe19
import Derived.Test.YtnclgkdpafhogaaGreatQe15
import Derived.Test.YtnclgkdpafhogaaGreatQe21
import Derived.Test.YtnclgkdpafhogaaGreatQe13
set_option maxHeartbeats 16000000
set_option maxRecDepth 100000
namespace Go.Proofs.YtnclgkdpafhogaaGreat
open Go.ChangeShapes Go.WideShapes Go.ChangeAt Go.RowKit
theorem zk9:∀(l:List ByteArray) (first:Bool) (k:Nat) (h:k<l.length),zaa first (l.take (k+1))=zaa first (l.take k)++((if k=0∧first=true then []else [44])++l[k].data.toList)
 |[],_,_,h=>by simp at h
 |v::l,first,0,_=>by cases first<;>simp[zaa]
 |v::l,first,k+1,h=>by
  simp only[List.take_succ_cons,zaa,List.getElem_cons_succ,List.append_assoc]
  rw[zk9 l false k (by simpa using h)]
  simp
theorem zwj {P:Nat→Prop}{w:World}{x y z u:Value}{v:List ByteArray}{t:List Ex}{l:List Fm}(ht:IsFm P w x y z u (.mk 11 v t l)) (h1:l.length=1) (hv:∀s∈v,zcg s=true) (hvl:v.length≤4194304) (hT:∀e∈l,zfl e) (hm:∀e∈l,e.may=true) (hs:Fm.sizes l≤4194304) :
  Calls Tryz.prog 49 #[.agg #[x,y,z,u]] w fun e w'=>e=.returned (.string ⟨(Fm.mk 11 v t l).text.toArray⟩)∧Ext w w':=by
 obtain⟨b1,c1,b2,c2,b3,c3,rfl,rfl,rfl,rfl,-,-,hvc,htc,hlc,hvs,hts,hls⟩:=ht.form
 simp only[Fm.op,Fm.vars,Fm.terms,Fm.args]at hvc htc hlc hvs hts hls ⊢
 obtain⟨W,hW⟩:∃W,W=w.alloc (.cells #[.int .i64 11,.slice b1 v.length c1,.slice b2 t.length c2,.slice b3 l.length c3] 29):=⟨_,rfl⟩
 have hx:Ext w W:=by rw[hW];exact zb _ _
 have hb:Own W w.heap.size [.int .i64 11,.slice b1 v.length c1,.slice b2 t.length c2,.slice b3 l.length c3]:=by rw[hW];exact own4 w _ _ _ _ _
 obtain⟨⟨k0,-⟩,⟨k1,-⟩,⟨k2,-⟩,⟨k3,-⟩⟩:=hb.cells4
 have hbl:=hb.lt
 clear ht
 match l,h1 with
 |[g],_ =>
 have HT:=Lib.hid (show(Fm.mk 11 v t [g]).text=[33,32,91]++(zaa true v++([93,32,58,32]++zbe g.op g.text)) by rw[(Fm.text11 (by decide)).1];simp only[Fm.units,if_true,List.nil_append,List.append_nil];rfl)
 have hvt:=fun k=>zj5 (v.take k) (fun s h=>hv s (List.take_subset _ _ h)) true
 have HVT:=Lib.hid hvt
 have hlen:=g.text_len (hm g (by simp))
 have hul:=zfk g.op g.text
 have hsz:g.size≤4194304:=by simp only[Fm.sizes]at hs;omega
 have HU:=Lib.hid (fun w' (_:Ext w w') x0 x1 x2 x3 (hi:IsFm P w' x0 x1 x2 x3 g)=>zd7 (hT g (by simp)) (hm g (by simp)) hsz hi)
 generalize hut:zbe g.op g.text=ut at *
 clear hvt hT hut
 simp only[List.length_cons,List.length_nil,Nat.zero_add]at hW k3 hb ⊢
 go_enter Tryz.func49,Tryz.ntmps49
 go_upto_region 1 with fail
 rw[←hW]
 clear hW
 go_wp2_with fail
 go_loopw [3,4] (fun sv iv wr=>∃(k:Nat) (sb:ByteArray),k≤v.length∧iv=.int .i64 k∧sv=.string sb∧sb=⟨([33,32,91]++zaa true (v.take k)).toArray⟩∧Ext W wr) (fun _ i _=>v.length-(intOf i).toNat)
 case atStart=>exact⟨0,_,Nat.zero_le _,rfl,rfl,rfl,Below.refl _ _⟩
 case round =>
  obtain⟨k,sb,hkk,rfl,rfl,hsb,hxr⟩:=hrel
  have hvk:=HVT.out k
  have hvk2:(v.take k).length≤v.length:=by rw[List.length_take];omega
  have hsz2:sb.size≤3+41 * v.length:=by rw[hsb,zj3,List.length_append];simp only[List.length_cons,List.length_nil];omega
  have Hsb:=Lib.hid hsb;clear hsb
  have d1:=hxr.cell k1
  have d3:=hxr.cell k3
  have hwl:w.heap.size<wr.heap.size:=zf d1
  by_cases hlt:k<v.length
  ·have hk1:(k:Int)<v.length:=by omega
   have Hst:=Lib.hid (zk9 v true k hlt)
   obtain⟨b',o',rfl,-,g1,g2⟩:=(IsStrs.ext hvs (hx.trans hxr)).look hlt
   have hq2:sb.size+1+v[k].size≤9223372036854775807:=by omega
   have hq1:sb.size+1≤9223372036854775807:=by omega
   have hq0:sb.size+v[k].size≤9223372036854775807:=by omega
   by_cases hz:k=0
   ·have hzb:decide ((0:Int)<(k:Nat))=false:=decide_eq_false (by omega)
    have hz2:¬(0:Int)<(k:Nat):=by omega
    have Hcb:=Lib.hid (show(if k=0∧true=true then []else [(44:UInt8)])=[] by rw[if_pos ⟨hz,rfl⟩])
    clear hz
    go_wp2_with fail
    go_roundw
    case rel=>exact⟨k+1,_,by omega,by go_num,rfl,by rw[Hsb.out,Hst.out,Hcb.out];apply ByteArray.ext;simp,hxr⟩
    case measure=>simp[intOf];omega
   ·have hzb:decide ((0:Int)<(k:Nat))=true:=decide_eq_true (by omega)
    have hz2:(0:Int)<(k:Nat):=by omega
    have Hcb:=Lib.hid (show(if k=0∧true=true then []else [(44:UInt8)])=[44] by rw[if_neg (fun h=>hz h.1)])
    clear hz
    go_wp2_with fail
    go_roundw
    case rel=>exact⟨k+1,_,by omega,by go_num,rfl,by rw[Hsb.out,Hst.out,Hcb.out];apply ByteArray.ext;simp,hxr⟩
    case measure=>simp[intOf];omega
  ·have hk1:¬(k:Int)<v.length:=by omega
   have hke:k=v.length:=by omega
   have HS:=Lib.hid (show sb=⟨([33,32,91]++zaa true v).toArray⟩ by rw[Hsb.out,hke,List.take_length])
   clear hke
   obtain⟨b',o',a1,d1',a2,d2,a',c',rfl,-,g1,g2,g3,g4,hi⟩:=(IsFms.ext hls (hx.trans hxr)).look (i:=0) (by simp)
   simp only[List.getElem_cons_zero,Nat.zero_mul,Nat.add_zero]at g1 g2 g3 g4 hi
   have HX:=Lib.hid (HU.out wr (hx.trans hxr) _ _ _ _ hi)
   have hq2:sb.size+4+ut.length≤9223372036854775807:=by omega
   have hq1:sb.size+4≤9223372036854775807:=by omega
   clear hi hls
   go_wp2_with (go_at_call 94;refine(HX.out).mono ?_;rintro e w1 ⟨rfl,hx1⟩)
   go_ret
   exact⟨by rw[HT.out,HS.out];exact congrArg (fun b=>Ending.returned (.string b)) (by apply ByteArray.ext;simp),(hx.trans hxr).trans hx1⟩
theorem zwk {P:Nat→Prop}{w:World}{x y z u:Value}{v:List ByteArray}{t:List Ex}{l:List Fm}(ht:IsFm P w x y z u (.mk 12 v t l)) (h1:l.length=1) (hv:∀s∈v,zcg s=true) (hvl:v.length≤4194304) (hT:∀e∈l,zfl e) (hm:∀e∈l,e.may=true) (hs:Fm.sizes l≤4194304) :
  Calls Tryz.prog 49 #[.agg #[x,y,z,u]] w fun e w'=>e=.returned (.string ⟨(Fm.mk 12 v t l).text.toArray⟩)∧Ext w w':=by
 obtain⟨b1,c1,b2,c2,b3,c3,rfl,rfl,rfl,rfl,-,-,hvc,htc,hlc,hvs,hts,hls⟩:=ht.form
 simp only[Fm.op,Fm.vars,Fm.terms,Fm.args]at hvc htc hlc hvs hts hls ⊢
 obtain⟨W,hW⟩:∃W,W=w.alloc (.cells #[.int .i64 12,.slice b1 v.length c1,.slice b2 t.length c2,.slice b3 l.length c3] 29):=⟨_,rfl⟩
 have hx:Ext w W:=by rw[hW];exact zb _ _
 have hb:Own W w.heap.size [.int .i64 12,.slice b1 v.length c1,.slice b2 t.length c2,.slice b3 l.length c3]:=by rw[hW];exact own4 w _ _ _ _ _
 obtain⟨⟨k0,-⟩,⟨k1,-⟩,⟨k2,-⟩,⟨k3,-⟩⟩:=hb.cells4
 have hbl:=hb.lt
 clear ht
 match l,h1 with
 |[g],_ =>
 have HT:=Lib.hid (show(Fm.mk 12 v t [g]).text=[63,32,91]++(zaa true v++([93,32,58,32]++zbe g.op g.text)) by rw[(Fm.text11 (by decide)).1];simp only[Fm.units,if_true,List.nil_append,List.append_nil];rfl)
 have hvt:=fun k=>zj5 (v.take k) (fun s h=>hv s (List.take_subset _ _ h)) true
 have HVT:=Lib.hid hvt
 have hlen:=g.text_len (hm g (by simp))
 have hul:=zfk g.op g.text
 have hsz:g.size≤4194304:=by simp only[Fm.sizes]at hs;omega
 have HU:=Lib.hid (fun w' (_:Ext w w') x0 x1 x2 x3 (hi:IsFm P w' x0 x1 x2 x3 g)=>zd7 (hT g (by simp)) (hm g (by simp)) hsz hi)
 generalize hut:zbe g.op g.text=ut at *
 clear hvt hT hut
 simp only[List.length_cons,List.length_nil,Nat.zero_add]at hW k3 hb ⊢
 go_enter Tryz.func49,Tryz.ntmps49
 go_upto_region 1 with fail
 rw[←hW]
 clear hW
 go_wp2_with fail
 go_loopw [3,4] (fun sv iv wr=>∃(k:Nat) (sb:ByteArray),k≤v.length∧iv=.int .i64 k∧sv=.string sb∧sb=⟨([63,32,91]++zaa true (v.take k)).toArray⟩∧Ext W wr) (fun _ i _=>v.length-(intOf i).toNat)
 case atStart=>exact⟨0,_,Nat.zero_le _,rfl,rfl,rfl,Below.refl _ _⟩
 case round =>
  obtain⟨k,sb,hkk,rfl,rfl,hsb,hxr⟩:=hrel
  have hvk:=HVT.out k
  have hvk2:(v.take k).length≤v.length:=by rw[List.length_take];omega
  have hsz2:sb.size≤3+41 * v.length:=by rw[hsb,zj3,List.length_append];simp only[List.length_cons,List.length_nil];omega
  have Hsb:=Lib.hid hsb;clear hsb
  have d1:=hxr.cell k1
  have d3:=hxr.cell k3
  have hwl:w.heap.size<wr.heap.size:=zf d1
  by_cases hlt:k<v.length
  ·have hk1:(k:Int)<v.length:=by omega
   have Hst:=Lib.hid (zk9 v true k hlt)
   obtain⟨b',o',rfl,-,g1,g2⟩:=(IsStrs.ext hvs (hx.trans hxr)).look hlt
   have hq2:sb.size+1+v[k].size≤9223372036854775807:=by omega
   have hq1:sb.size+1≤9223372036854775807:=by omega
   have hq0:sb.size+v[k].size≤9223372036854775807:=by omega
   by_cases hz:k=0
   ·have hzb:decide ((0:Int)<(k:Nat))=false:=decide_eq_false (by omega)
    have hz2:¬(0:Int)<(k:Nat):=by omega
    have Hcb:=Lib.hid (show(if k=0∧true=true then []else [(44:UInt8)])=[] by rw[if_pos ⟨hz,rfl⟩])
    clear hz
    go_wp2_with fail
    go_roundw
    case rel=>exact⟨k+1,_,by omega,by go_num,rfl,by rw[Hsb.out,Hst.out,Hcb.out];apply ByteArray.ext;simp,hxr⟩
    case measure=>simp[intOf];omega
   ·have hzb:decide ((0:Int)<(k:Nat))=true:=decide_eq_true (by omega)
    have hz2:(0:Int)<(k:Nat):=by omega
    have Hcb:=Lib.hid (show(if k=0∧true=true then []else [(44:UInt8)])=[44] by rw[if_neg (fun h=>hz h.1)])
    clear hz
    go_wp2_with fail
    go_roundw
    case rel=>exact⟨k+1,_,by omega,by go_num,rfl,by rw[Hsb.out,Hst.out,Hcb.out];apply ByteArray.ext;simp,hxr⟩
    case measure=>simp[intOf];omega
  ·have hk1:¬(k:Int)<v.length:=by omega
   have hke:k=v.length:=by omega
   have HS:=Lib.hid (show sb=⟨([63,32,91]++zaa true v).toArray⟩ by rw[Hsb.out,hke,List.take_length])
   clear hke
   obtain⟨b',o',a1,d1',a2,d2,a',c',rfl,-,g1,g2,g3,g4,hi⟩:=(IsFms.ext hls (hx.trans hxr)).look (i:=0) (by simp)
   simp only[List.getElem_cons_zero,Nat.zero_mul,Nat.add_zero]at g1 g2 g3 g4 hi
   have HX:=Lib.hid (HU.out wr (hx.trans hxr) _ _ _ _ hi)
   have hq2:sb.size+4+ut.length≤9223372036854775807:=by omega
   have hq1:sb.size+4≤9223372036854775807:=by omega
   clear hi hls
   go_wp2_with (go_at_call 94;refine(HX.out).mono ?_;rintro e w1 ⟨rfl,hx1⟩)
   go_ret
   exact⟨by rw[HT.out,HS.out];exact congrArg (fun b=>Ending.returned (.string b)) (by apply ByteArray.ext;simp),(hx.trans hxr).trans hx1⟩
theorem zzd {P:Nat→Prop}{w:World}{x y z u:Value}{v:List ByteArray}{t:List Ex}{l:List Fm}(ht:IsFm P w x y z u (.mk 4 v t l)) (h1:t.length=2) (hm:∀x∈t,x.may=true) (hs:Ex.sizes t≤4194304) :
  Calls Tryz.prog 49 #[.agg #[x,y,z,u]] w fun e w'=>e=.returned (.string ⟨(Fm.mk 4 v t l).text.toArray⟩)∧Ext w w':=by
 obtain⟨b1,c1,b2,c2,b3,c3,rfl,rfl,rfl,rfl,-,-,hvc,htc,hlc,hvs,hts,hls⟩:=ht.form
 simp only[Fm.op,Fm.vars,Fm.terms,Fm.args]at hvc htc hlc hvs hts hls ⊢
 obtain⟨W,hW⟩:∃W,W=w.alloc (.cells #[.int .i64 4,.slice b1 v.length c1,.slice b2 t.length c2,.slice b3 l.length c3] 29):=⟨_,rfl⟩
 have hx:Ext w W:=by rw[hW];exact zb _ _
 have hb:Own W w.heap.size [.int .i64 4,.slice b1 v.length c1,.slice b2 t.length c2,.slice b3 l.length c3]:=by rw[hW];exact own4 w _ _ _ _ _
 obtain⟨⟨k0,-⟩,⟨k1,-⟩,⟨k2,-⟩,⟨k3,-⟩⟩:=hb.cells4
 have hbl:=hb.lt
 clear ht
 match t,h1 with
 |[e1,e2],_ =>
 have HT:=Lib.hid (show(⟨(Fm.mk 4 v [e1,e2] l).text.toArray⟩:ByteArray)=⟨e1.text.toArray⟩++⟨#[32,61,32]⟩++⟨e2.text.toArray⟩ by rw[Fm.text4.1];apply ByteArray.ext;simp[ze2,bEq])
 obtain⟨b',o',a1,d1,rfl,-,g1,g2,g3,hi1⟩:=(IsExs.ext hts hx).look (i:=0) (by simp)
 obtain⟨b'',o'',a2,d2,he,-,g4,g5,g6,hi2⟩:=(IsExs.ext hts hx).look (i:=1) (by simp)
 injection he with he;injection he with he1 he2 _
 subst he1;subst he2
 simp only[List.getElem_cons_zero,List.getElem_cons_succ,Nat.zero_mul,Nat.add_zero,Nat.one_mul]at g1 g2 g3 g4 g5 g6 hi1 hi2
 have hl1:=e1.text_len (hm e1 (by simp))
 have hl2:=e2.text_len (hm e2 (by simp))
 have hz1:e1.size≤4194304:=by simp only[Ex.sizes]at hs;omega
 have hz2:e2.size≤4194304:=by simp only[Ex.sizes]at hs;omega
 have HX1:=Lib.hid (fun w' (hx:Ext W w')=>zbw e1 (hm e1 (by simp)) _ w' _ _ _ (IsEx.ext hi1 hx) hz1)
 have HX2:=Lib.hid (fun w' (hx:Ext W w')=>zbw e2 (hm e2 (by simp)) _ w' _ _ _ (IsEx.ext hi2 hx) hz2)
 have hq1:e1.text.length+3≤9223372036854775807:=by omega
 have hq2:e1.text.length+3+e2.text.length≤9223372036854775807:=by omega
 have hq3:¬ 9223372036854775807<e1.text.length+3:=Nat.not_lt.2 hq1
 have hq4:¬ 9223372036854775807<e1.text.length+3+e2.text.length:=Nat.not_lt.2 hq2
 clear hi1 hi2 hts hl1 hl2
 simp only[List.length_cons,List.length_nil,Nat.zero_add,Nat.reduceAdd]at hW k2 hb ⊢
 go_enter Tryz.func49,Tryz.ntmps49
 go_upto_region 1 with fail
 rw[←hW]
 clear hW
 go_upto_region 9 with fail
 have hW0:=Below.refl W.heap.size W
 go_region_held3 (fun w'=>w'.cell? ⟨w.heap.size,2,none⟩=some (.slice (some ⟨b',o',none⟩) 2 c2)∧w'.cell? ⟨b',o',none⟩=some (.bool e1.var)∧w'.cell? ⟨b',o'+1,none⟩=some (.string e1.name)∧w'.cell? ⟨b',o'+2,none⟩=some (.slice a1 e1.args.length d1) ∧
   w'.cell? ⟨b',o'+3,none⟩=some (.bool e2.var)∧w'.cell? ⟨b',o'+3+1,none⟩=some (.string e2.name)∧w'.cell? ⟨b',o'+3+2,none⟩=some (.slice a2 e2.args.length d2)∧Ext W w')
  (((try go_split_ands);refine⟨?_,?_,?_,?_,?_,?_,?_,?_⟩<;>first|(with_reducible assumption)|exact Below.drew (Below.refl _ _)|exact Ext.drew (by assumption)|exact Ext.drew (zb _ _)|(apply Ext.cell hw';(with_reducible assumption))|exact Ext.trans (by assumption) hw'|exact Ext.frozen hw' (by(with_reducible assumption)) (by(with_reducible assumption))|(go_keep;done)))
  ((go_at_call 93;go_split_ands;first|(with_reducible refine(HX1.out _ (by assumption)).mono ?_;rintro e w' ⟨rfl,hw'⟩)|(with_reducible refine(HX2.out _ (by assumption)).mono ?_;rintro e w' ⟨rfl,hw'⟩)))
 go_split_ands
 go_wp2_with fail
 go_ret
 exact⟨by rw[HT.out];rfl,hx.trans (by assumption)⟩
theorem zuh {P:Nat→Prop}{w:World}{x y z u:Value}{v:List ByteArray}{t:List Ex}{l:List Fm}(ht:IsFm P w x y z u (.mk 5 v t l)){vg:List ByteArray}{tg:List Ex}{lg:List Fm}(h1:l=[.mk 4 vg tg lg]) (h2:tg.length=2) (hm:∀x∈tg,x.may=true) (hs:Ex.sizes tg≤4194304) :
  Calls Tryz.prog 49 #[.agg #[x,y,z,u]] w fun e w'=>e=.returned (.string ⟨(Fm.mk 5 v t l).text.toArray⟩)∧Ext w w':=by
 obtain⟨b1,c1,b2,c2,b3,c3,rfl,rfl,rfl,rfl,-,-,hvc,htc,hlc,hvs,hts,hls⟩:=ht.form
 simp only[Fm.op,Fm.vars,Fm.terms,Fm.args]at hvc htc hlc hvs hts hls ⊢
 obtain⟨W,hW⟩:∃W,W=w.alloc (.cells #[.int .i64 5,.slice b1 v.length c1,.slice b2 t.length c2,.slice b3 l.length c3] 29):=⟨_,rfl⟩
 have hx:Ext w W:=by rw[hW];exact zb _ _
 have hb:Own W w.heap.size [.int .i64 5,.slice b1 v.length c1,.slice b2 t.length c2,.slice b3 l.length c3]:=by rw[hW];exact own4 w _ _ _ _ _
 obtain⟨⟨k0,-⟩,⟨k1,-⟩,⟨k2,-⟩,⟨k3,-⟩⟩:=hb.cells4
 have hbl:=hb.lt
 clear ht
 subst h1
 match tg,h2 with
 |[e1,e2],_ =>
 have HT:=Lib.hid (show(⟨(Fm.mk 5 v t [.mk 4 vg [e1,e2] lg]).text.toArray⟩:ByteArray)=⟨e1.text.toArray⟩++⟨#[32,33,61,32]⟩++⟨e2.text.toArray⟩ by rw[Fm.text5.1,if_pos (show Option.map Fm.op [Fm.mk 4 vg [e1,e2] lg].head?=some 4 from rfl)];apply ByteArray.ext;simp[ze2,bNe,Fm.terms])
 obtain⟨gb,go',a1,d1,a2,d2,a3,d3,rfl,-,f0,f1,f2,f3,hg⟩:=(IsFms.ext hls hx).look (i:=0) (by simp)
 obtain⟨_,_,ta,tc,_,_,-,-,he2,-,-,-,-,-,-,-,hts2,-⟩:=hg.form
 simp only[List.getElem_cons_zero,Nat.zero_mul,Nat.add_zero,Fm.op,Fm.terms,Fm.vars,Fm.args,List.length_cons,List.length_nil,Nat.zero_add,Nat.reduceAdd]at f0 f1 f2 f3 hts2 he2
 injection he2 with he2 _ hee
 subst he2;subst hee
 obtain⟨b',o',a4,d4,rfl,-,g1,g2,g3,hi1⟩:=hts2.look (i:=0) (by simp)
 obtain⟨b'',o'',a5,d5,he,-,g4,g5,g6,hi2⟩:=hts2.look (i:=1) (by simp)
 injection he with he;injection he with he1 he2 _
 subst he1;subst he2
 simp only[List.getElem_cons_zero,List.getElem_cons_succ,Nat.zero_mul,Nat.add_zero,Nat.one_mul]at g1 g2 g3 g4 g5 g6 hi1 hi2
 have hl1:=e1.text_len (hm e1 (by simp))
 have hl2:=e2.text_len (hm e2 (by simp))
 have hz1:e1.size≤4194304:=by simp only[Ex.sizes]at hs;omega
 have hz2:e2.size≤4194304:=by simp only[Ex.sizes]at hs;omega
 have HX1:=Lib.hid (fun w' (hx:Ext W w')=>zbw e1 (hm e1 (by simp)) _ w' _ _ _ (IsEx.ext hi1 hx) hz1)
 have HX2:=Lib.hid (fun w' (hx:Ext W w')=>zbw e2 (hm e2 (by simp)) _ w' _ _ _ (IsEx.ext hi2 hx) hz2)
 have hq1:e1.text.length+4≤9223372036854775807:=by omega
 have hq2:e1.text.length+4+e2.text.length≤9223372036854775807:=by omega
 have hq3:¬ 9223372036854775807<e1.text.length+4:=Nat.not_lt.2 hq1
 have hq4:¬ 9223372036854775807<e1.text.length+4+e2.text.length:=Nat.not_lt.2 hq2
 clear hi1 hi2 hts hl1 hl2 hg hts2 hls f1 f3
 simp only[List.length_cons,List.length_nil,Nat.zero_add]at hW k3 hb ⊢
 go_enter Tryz.func49,Tryz.ntmps49
 go_upto_region 1 with fail
 rw[←hW]
 clear hW
 go_upto_region 12 with fail
 go_region_held3 (fun w'=>w'.cell? ⟨w.heap.size,3,none⟩=some (.slice (some ⟨gb,go',none⟩) 1 c3)∧w'.cell? ⟨gb,go'+2,none⟩=some (.slice (some ⟨b',o',none⟩) 2 d2)∧w'.cell? ⟨b',o',none⟩=some (.bool e1.var)∧w'.cell? ⟨b',o'+1,none⟩=some (.string e1.name)∧w'.cell? ⟨b',o'+2,none⟩=some (.slice a4 e1.args.length d4) ∧
   w'.cell? ⟨b',o'+3,none⟩=some (.bool e2.var)∧w'.cell? ⟨b',o'+3+1,none⟩=some (.string e2.name)∧w'.cell? ⟨b',o'+3+2,none⟩=some (.slice a5 e2.args.length d5)∧Ext W w')
  (((try go_split_ands);refine⟨?_,?_,?_,?_,?_,?_,?_,?_,?_⟩<;>first|(with_reducible assumption)|exact Below.drew (Below.refl _ _)|exact Ext.drew (by assumption)|exact Ext.drew (zb _ _)|(apply Ext.cell hw';(with_reducible assumption))|exact Ext.trans (by assumption) hw'|exact Ext.frozen hw' (by(with_reducible assumption)) (by(with_reducible assumption))|(go_keep;done)))
  ((go_at_call 93;go_split_ands;first|(with_reducible refine(HX1.out _ (by assumption)).mono ?_;rintro e w' ⟨rfl,hw'⟩)|(with_reducible refine(HX2.out _ (by assumption)).mono ?_;rintro e w' ⟨rfl,hw'⟩)))
 go_split_ands
 go_wp2_with fail
 go_ret
 exact⟨by rw[HT.out];rfl,hx.trans (by assumption)⟩
theorem zze (f:Fm):zfl f:=by
 induction f using Fm.ind with
 |h o v t l ih =>
  intro hm hs P w x y z u ht
  simp only[Fm.may,Bool.and_eq_true]at hm
  obtain⟨hm,hms⟩:=hm
  rw[Fm.mays_all,List.all_eq_true]at hms
  simp only[Fm.size]at hs
  obtain⟨hv,htm,ht3,hc⟩:=za6 hm
  rcases hc with ⟨ho,rfl,rfl,hn⟩|⟨rfl,rfl,h1,hn⟩|⟨rfl,rfl,h1,hn⟩|⟨rfl,rfl,rfl,hn⟩|⟨ho,rfl,rfl,hn⟩|⟨ho,rfl,rfl,hn⟩|⟨ho,h1,rfl,hn⟩
  ·rcases ho with rfl|rfl
   ·exact zy5 ht
   ·exact zy6 ht
  ·exact zy7 ht h1 htm (by omega)
  ·exact zzd ht h1 htm (by omega)
  ·by_cases h4:l.head?.map Fm.op=some 4
   ·match l,hn with
    |[g],_ =>
    have hgm:=hms g (by simp)
    obtain⟨og,vg,tg,lg⟩:=g
    simp only[List.head?_cons,Option.map_some,Option.some.injEq,Fm.op]at h4
    subst h4
    simp only[Fm.may,Bool.and_eq_true]at hgm
    obtain⟨-,ht',-,hc'⟩:=za6 hgm.1
    exact zuh ht rfl (by omega) ht' (by simp only[Fm.sizes,Fm.size]at hs;omega)
   ·exact zy8 ht hn ih hms (by omega) h4
  ·rcases ho with rfl|rfl
   ·exact zy9 ht ih hms (by omega)
   ·exact zza ht ih hms (by omega)
  ·rcases ho with rfl|rfl|rfl
   ·exact zzb ht ih hms (by omega)
   ·exact zzc ht ih hms (by omega)
   ·exact zwi ht ih hms (by omega)
  ·rcases ho with rfl|rfl
   ·exact zwj ht hn (zb7 hv) (by omega) ih hms (by omega)
   ·exact zwk ht hn (zb7 hv) (by omega) ih hms (by omega)
def zek (f:Fm):ByteArray×Int:=if f.check≠0 then (⟨#[]⟩,f.check)else (⟨f.text.toArray⟩,0)
theorem zel {f:Fm}(h:f.check=0):f.may=true:=by
 unfold Fm.check at h
 split at h
 ·cases h
 ·split at h
  ·assumption
  ·cases h
theorem zr4 (f:Fm) (hs:f.size≤4194304) (P:Nat→Prop) (w:World) (x y z u:Value) (ht:IsFm P w x y z u f) :
  Calls Tryz.prog 20 #[.agg #[x,y,z,u]] w fun e w'=>e=.returned (.tuple #[.string (zek f).1,.int .i64 (zek f).2])∧Ext w w':=by
 have HC:=Lib.hid (fun w' (hx:Ext w w')=>zjg f P w' x y z u (ht.ext hx) hs)
 have HX:=Lib.hid (fun (hm:f.may=true) w' (hx:Ext w w')=>zze f hm hs P w' x y z u (ht.ext hx))
 have hmy:=fun h=>zel (f:=f) h
 obtain⟨b1,c1,b2,c2,b3,c3,rfl,rfl,rfl,rfl,-⟩:=ht.form
 clear ht
 obtain⟨W,hW⟩:∃W,W=w.alloc (.cells #[.int .i64 f.op,.slice b1 f.vars.length c1,.slice b2 f.terms.length c2,.slice b3 f.args.length c3] 29):=⟨_,rfl⟩
 have hx:Ext w W:=by rw[hW];exact zb _ _
 have hb:Own W w.heap.size [.int .i64 f.op,.slice b1 f.vars.length c1,.slice b2 f.terms.length c2,.slice b3 f.args.length c3]:=by rw[hW];exact own4 w _ _ _ _ _
 obtain⟨⟨k0,-⟩,⟨k1,-⟩,⟨k2,-⟩,⟨k3,-⟩⟩:=hb.cells4
 have hbl:=hb.lt
 have HE:=Lib.hid (show zek f=if f.check≠0 then (⟨#[]⟩,f.check)else (⟨f.text.toArray⟩,0)from rfl)
 generalize f.check=ck at *
 by_cases h0:ck=0
 ·subst h0
  replace HE:=Lib.hid (HE.out.trans (if_neg (fun h=>h rfl)))
  have HX2:=Lib.hid (HX.out (hmy rfl))
  clear HX hmy
  go_enter Tryz.func20,Tryz.ntmps20
  go_wp2_with (first|(rw[←hW];clear hW;go_at_call 22;refine(HC.out _ hx).mono ?_;rintro e w1 ⟨rfl,hx1⟩;replace k0:=hx1.cell k0;replace k1:=hx1.cell k1;replace k2:=hx1.cell k2;replace k3:=hx1.cell k3)|(go_at_call 49;refine(HX2.out _ (hx.trans hx1)).mono ?_;rintro e w2 ⟨rfl,hx2⟩))
  go_ret2
  rw[HE.out]
  exact⟨rfl,(hx.trans hx1).trans hx2⟩
 ·replace HE:=Lib.hid (HE.out.trans (if_pos h0))
  have hq1:(ck != 0)=true:=by rw[bne_iff_ne];exact h0
  clear h0 HX hmy
  go_enter Tryz.func20,Tryz.ntmps20
  go_wp2_with (rw[←hW];clear hW;go_at_call 22;refine(HC.out _ hx).mono ?_;rintro e w1 ⟨rfl,hx1⟩)
  go_ret2
  rw[HE.out]
  exact⟨rfl,hx.trans hx1⟩
def bFof:ByteArray:=⟨#[102,111,102]⟩
def bCnf:ByteArray:=⟨#[99,110,102]⟩
def ziq (c:Bool):ByteArray:=if c then bCnf else bFof
def Ent.text (x:Ent):List UInt8:=(ziq x.cnf).data.toList++(40::((zay x.name).1.data.toList++(44::32::(x.role.data.toList++(44::32::(x.form.text++[41,46,10]))))))
def zb0 (l:List Ent):List UInt8:=l.flatMap Ent.text
def zaq:List Ent→Option Int
 |[]=>none
 |x::r=>if x.check≠0 then some x.check else zaq r
def zcd (l:List Ent):ByteArray×Int:=if 200<l.length then (⟨#[]⟩,3)else match zaq l with
 |some e=>(⟨#[]⟩,e)
 |none=>if 8000<(zb0 l).length then (⟨#[]⟩,3)else (⟨(zb0 l).toArray⟩,0)
theorem zla:∀ {l:List Ent}{k:Nat}(h:k<l.length),zaq (l.take k)=none→l[k].check≠0→zaq l=some l[k].check
 |x::l,0,h,_,hc=>by simp only[List.getElem_cons_zero]at hc ⊢;unfold zaq;rw[if_pos hc]
 |x::l,k+1,h,h1,hc=>by
  simp only[List.take_succ_cons]at h1
  unfold zaq at h1 ⊢
  split at h1
  ·cases h1
  ·rename_i hx
   rw[if_neg hx]
   simp only[List.getElem_cons_succ]at hc ⊢
   exact zla (by simpa using h) h1 hc
theorem zeu:∀ {l:List Ent}{k:Nat}(h:k<l.length),zaq (l.take k)=none→l[k].check=0→zaq (l.take (k+1))=none
 |x::l,0,h,_,hc=>by
  simp only[List.getElem_cons_zero]at hc
  simp only[List.take_succ_cons,List.take_zero]
  unfold zaq;rw[if_neg (by rw[hc];decide)];rfl
 |x::l,k+1,h,h1,hc=>by
  simp only[List.take_succ_cons]at h1 ⊢
  unfold zaq at h1 ⊢
  split at h1
  ·cases h1
  ·rename_i hx
   rw[if_neg hx]
   simp only[List.getElem_cons_succ]at hc
   exact zeu (by simpa using h) h1 hc
theorem zm9 {l:List Ent}{k:Nat}(h:k<l.length):zb0 (l.take (k+1))=zb0 (l.take k)++l[k].text:=by
 unfold zb0
 rw[List.take_succ_eq_append_getElem h,List.flatMap_append];simp
theorem zna {l:List Ent}(h:200<l.length):zcd l=(⟨#[]⟩,3):=if_pos h
theorem zp6 {l:List Ent}(h:¬ 200<l.length){k:Nat}(hk:k<l.length) (h1:zaq (l.take k)=none) (h2:l[k].check≠0):zcd l=(⟨#[]⟩,l[k].check):=by
 unfold zcd;rw[if_neg h,zla hk h1 h2]
theorem zlb {l:List Ent}(h:¬ 200<l.length) (h1:zaq l=none):zcd l=if 8000<(zb0 l).length then (⟨#[]⟩,3)else (⟨(zb0 l).toArray⟩,0):=by
 unfold zcd;rw[if_neg h,h1]
theorem zb1 {x:Ent}(h:x.check=0):named x.name=true∧zbx x.cnf x.role=true∧x.form.check=0∧zax x.cnf x.form=0:=by
 unfold Ent.check at h
 split at h
 ·cases h
 ·rename_i h1
  split at h
  ·cases h
  ·rename_i h2
   split at h
   ·rename_i h3;exact absurd h h3
   ·rename_i h3
    refine⟨?_,?_,Decidable.not_not.1 h3,h⟩
    ·cases hn:named x.name with
     |true=>rfl
     |false=>exact absurd hn h1
    ·cases hr:zbx x.cnf x.role with
     |true=>rfl
     |false=>exact absurd hr h2
theorem zzf (T:List UInt8) (x:Ent) (hf:x.form.check=0):(⟨(T++x.text).toArray⟩:ByteArray)=(⟨T.toArray⟩++ziq x.cnf++⟨#[40]⟩++(zay x.name).1++⟨#[44,32]⟩++x.role++⟨#[44,32]⟩++(zek x.form).1++⟨#[41,46,10]⟩):=by
 have h1:(zek x.form).1=⟨x.form.text.toArray⟩:=by unfold zek;rw[if_neg (fun h=>h hf)]
 rw[h1]
 apply ByteArray.ext
 simp[Ent.text]
theorem zgw (s:ByteArray):(zay s).1.size≤s.size+2:=by
 unfold zay
 split
 ·split
  ·exact Nat.le_add_right _ _
  ·have h1:(⟨#[39]⟩:ByteArray).size=1:=rfl
   simp only[ByteArray.size_append,h1];omega
 ·exact Nat.zero_le _
theorem zir {s:ByteArray}(h:zbl s=true):s.size≤18:=by
 unfold zbl at h
 obtain⟨r,hr,he⟩:=List.any_eq_true.1 h
 have he:=of_decide_eq_true he
 subst he
 have hc:∀r∈zj4,r.size≤18:=by decide +kernel
 exact hc _ hr
theorem znb {f:Fm}(h:f.check=0):(zek f).1.size≤60 * f.size:=by
 unfold zek
 rw[if_neg (fun e=>e h)]
 have h1:=f.text_len (zel h)
 have h2:(⟨f.text.toArray⟩:ByteArray).size=f.text.length:=by show f.text.toArray.size=_;simp
 simp only[h2];omega
theorem zwl {x:Ent}(hc:x.check=0) (hz:x.form.size≤1048576):x.text.length≤70000000:=by
 obtain⟨h1,h2,h3,-⟩:=zb1 hc
 have hr:zbl x.role=true:=by unfold zbx at h2;rw[Bool.and_eq_true]at h2;exact h2.1
 have a1:=zir hr
 have a2:=zgw x.name
 have a3:=x.form.text_len (zel h3)
 have a4:x.name.size≤40:=by unfold named at h1;rw[Bool.and_eq_true,decide_eq_true_eq]at h1;exact h1.1.2
 have e1:∀s:ByteArray,s.data.toList.length=s.size:=fun s=>by simp
 have a5:(ziq x.cnf).size≤3:=by cases x.cnf<;>decide
 unfold Ent.text
 simp only[List.length_append,List.length_cons,List.length_nil,e1]
 omega
theorem BFr.ext' {b:Nat}{w w':World}(h:BFr b w w'){w0:World}(h0:Ext w0 w) (hb:w0.heap.size≤b):Ext w0 w':=Below.trans h0 (h.below.mono hb)
theorem BFr.alloc' {b:Nat}{w w':World}(h:BFr b w w') (hb:b≤w'.heap.size) (o:Obj):BFr b w (w'.alloc o):=⟨h.below.alloc hb o,h.kept.alloc o⟩
theorem BFr.drew {b:Nat}{w w':World}(h:BFr b w w'):BFr b w w'.drew:=⟨Below.drew h.below,h.kept.drew⟩
theorem BFr.of_ext {b:Nat}{w w':World}(h:Ext w w') (hb:b≤w.heap.size):BFr b w w':=⟨h.mono hb,fun _k _o hk _ _=>h.obj hk⟩
theorem BldT.alloc {T:TypeId}{b:Nat}{l:List UInt8}{w:World}(h:BldT T b l w) (o:Obj):BldT T b l (w.alloc o):=Lib.IsBuilderF.alloc h o
theorem BldT.drew {T:TypeId}{b:Nat}{l:List UInt8}{w:World}(h:BldT T b l w):BldT T b l w.drew:=h
theorem BldT.ext {T:TypeId}{b:Nat}{l:List UInt8}{w w':World}(h:BldT T b l w) (hx:Ext w w'):BldT T b l w':=by
 have row:∀ {v:Value},w.ownsRowF b 5 1 v (Lib.byteCells l).length (Lib.byteCells l)→w'.ownsRowF b 5 1 v (Lib.byteCells l).length (Lib.byteCells l):=by
  intro v h
  obtain⟨h1,h2⟩:=h
  refine⟨h1,?_⟩
  rcases h2 with h2|⟨g,cap,cur,fz,h3,h4,h5,h6⟩
  ·exact .inl h2
  ·exact .inr ⟨g,cap,cur,fz,h3,h4,hx.obj h5,h6⟩
 rcases h with ⟨h1,v,h2,h3,h4⟩|⟨h1,v,h2,h3,h4⟩
 ·exact .inl ⟨h1,v,hx.obj h2,row h3,h4⟩
 ·exact .inr ⟨h1,v,hx.obj h2,row h3,h4⟩
theorem zd {w:World}{g:Nat}{c:Array Value}{t:TypeId}{fz:Nat×Nat}(h:w.heap[g]?=some (.cells c t fz)) (i:Nat):w.cell? ⟨g,i,none⟩=c[i]?:=by
 simp[World.cell?,h]
def zdf (b:Nat) (acc s:List UInt8) (w:World) (e:Ending) (w':World):Prop:=e=.returned (.tuple #[])∧BldT 84 b (acc++s) w'∧BFr b w w'
theorem zui (w:World):(Instr.index 9 (.string ⟨#[40,44]⟩) (.int .i64 0)).run Tryz.prog w=.ok (.int .u8 40) w:=by kernel_rfl
theorem zuj (w:World):(Instr.index 9 (.string ⟨#[40,44]⟩) (.int .i64 1)).run Tryz.prog w=.ok (.int .u8 44) w:=by kernel_rfl
theorem Ex.texts_take_le (l:List Ex) (c:UInt8) (k:Nat):(Ex.texts c (l.take k)).length≤(Ex.texts c l).length:=by
 induction l generalizing c k with
 |nil=>simp[Ex.texts]
 |cons e l ih =>
  cases k with
  |zero=>simp[Ex.texts]
  |succ k=>have:=ih 44 k;simp only[List.take_succ_cons,Ex.texts,List.length_cons,List.length_append];omega
theorem zlc (t:Ex):t.may=true→∀(P:Nat→Prop) (w0 w:World) (b:Nat) (acc:List UInt8) (x y z:Value),IsEx P w0 x y z t→t.size≤4194304→Ext w0 w→w0.heap.size≤b→b<w.heap.size →
  BldT 84 b acc w→acc.length+t.text.length≤140737488355328 →
  Calls Tryz.prog 89 #[.pointer (some ⟨b,0,none⟩),.agg #[x,y,z]] w (zdf b acc t.text w):=by
 induction t using Ex.ind with
 |h v n l ih =>
  intro hm P w0 w b acc x y z ht hs hx0 hb0 hbw hbld hacc
  obtain⟨a,c,rfl,rfl,rfl,hn,hc1,hk⟩:=ht.form
  simp only[Ex.var,Ex.name,Ex.args]at hn hc1 hk ⊢
  simp only[Ex.size]at hs
  have hkl:=Ex.length_le_sizes l
  obtain⟨W,hW⟩:∃W,W=w.alloc (.cells #[.bool v,.string n,.slice a l.length c] 73):=⟨_,rfl⟩
  have hfW:BFr b w W:=by rw[hW];exact(BFr.refl b w).alloc' (Nat.le_of_lt hbw) _
  have hbW:BldT 84 b acc W:=by rw[hW];exact hbld.alloc _
  have hoW:W.heap[w.heap.size]?=some (.cells #[.bool v,.string n,.slice a l.length c] 73 (0,0)):=by rw[hW];exact zal _ _
  have hsW:b<W.heap.size:=by rw[hW];simp;omega
  have hx0W:Ext w0 W:=hfW.ext' hx0 hb0
  have k0:=zd hoW 0
  have k1:=zd hoW 1
  have k2:=zd hoW 2
  simp only[List.getElem?_toArray,List.getElem?_cons_succ,List.getElem?_cons_zero]at k0 k1 k2
  obtain⟨q,hq,hms,hcase⟩:∃q:ByteArray,q.data.toList=(if v then n.data.toList else (zay n).1.data.toList)∧Ex.mays l=true∧((v=true∧q=n)∨(v=false∧q=(zay n).1)):=by
   cases v with
   |true =>
    simp only[Ex.may,if_true,Bool.and_eq_true,decide_eq_true_eq]at hm
    exact⟨n,by simp,by rw[List.eq_nil_of_length_eq_zero hm.1];rfl,.inl ⟨rfl,rfl⟩⟩
   |false =>
    simp only[Ex.may,Bool.false_eq_true,if_false,Bool.and_eq_true]at hm
    exact⟨(zay n).1,by simp,hm.2,.inr ⟨rfl,rfl⟩⟩
  have eql:q.data.toList.length=q.size:=by simp
  have HT:(Ex.mk v n l).text=q.data.toList++(Ex.texts 40 l++(if 0<l.length then [41]else [])):=by simp only[Ex.text];rw[hq]
  have hlen:acc.length+(q.size+((Ex.texts 40 l).length+(if 0<l.length then 1 else 0)))≤140737488355328:=by
   rw[HT,List.length_append,List.length_append,eql]at hacc
   have:(if 0<l.length then [(41:UInt8)]else []).length=if 0<l.length then 1 else 0:=by split<;>rfl
   omega
  replace HT:=Lib.hid HT
  clear hq hm ht hacc
  have HIH:=Lib.hid (fun (k:Nat) (h:k<l.length) w' (hx:Ext w0 w') (hb:b<w'.heap.size) (acc':List UInt8) (hbl:BldT 84 b acc' w') (hac:acc'.length+l[k].text.length≤140737488355328) (a':Option Addr) (c':Nat) (hi:IsEx P w0 (.bool l[k].var) (.string l[k].name) (.slice a' l[k].args.length c') l[k]) =>
   ih _ (List.getElem_mem h) (Ex.mays_at hms h) P w0 w' b acc' _ _ _ hi (by have:=Ex.size_le_sizes h;omega) hx hb0 hb hbl hac)
  clear ih hms
  have hq42:acc.length+q.size≤140737488355328:=by omega
  have Hlen:=Lib.hid hlen;clear hlen
  have HQ:(v=true∧W.cell? ⟨w.heap.size,1,none⟩=some (.string q))∨(v=false∧W.cell? ⟨w.heap.size,1,none⟩=some (.string n)∧∃qb,Hid (∀w,Calls Tryz.prog 75 #[.string n] w fun e w'=>e=.returned (.tuple #[.string q,.bool qb])∧w=w')):=by
   rcases hcase with ⟨h1,h2⟩|⟨h1,h2⟩
   ·exact .inl ⟨h1,by rw[h2];exact k1⟩
   ·exact .inr ⟨h1,k1,(zay n).2,Lib.hid (by rw[h2];exact fun w=>zi9 n hn w)⟩
  clear hcase k1
  generalize (Ex.mk v n l).text=TT at HT ⊢
  rcases HQ with ⟨hv,k1⟩|⟨hv,k1,qb,HQC⟩
  all_goals
   subst hv
   go_enter Tryz.func89,Tryz.ntmps89
   go_upto_region 1 with fail
   rw[←hW]
   clear hW
   go_wp2_with (first|(go_at_call 75;refine(HQC.out _).mono ?_;rintro e w2 ⟨rfl,rfl⟩)|(go_at_call 76;refine(zn zah b acc q _ hbW hq42 (Nat.le_of_lt hsW)).mono ?_;rintro e w3 ⟨rfl,hb3,hf3⟩;have hoW3:=hf3.obj hoW (by omega) (by decide);have m2:=zd hoW3 2;simp only[List.getElem?_toArray,List.getElem?_cons_succ,List.getElem?_cons_zero]at m2))
   clear k0 k1 k2 hoW3
   go_loopw [25] (fun iv wr=>∃k:Nat,k≤l.length∧iv=.int .i64 k∧BldT 84 b (acc++q.data.toList++Ex.texts 40 (l.take k)) wr∧BFr b W wr) (fun i _=>l.length-(intOf i).toNat)
   case atStart=>exact⟨0,Nat.zero_le _,rfl,by simpa[Ex.texts]using hb3,hf3⟩
   case round =>
    obtain⟨k,hkk,rfl,hbr,hfr⟩:=hrel
    have hor:=hfr.obj hoW (by omega) (by decide)
    have hsr:=hfr.below.size
    have m2:=zd hor 2
    simp only[List.getElem?_toArray,List.getElem?_cons_succ,List.getElem?_cons_zero]at m2
    by_cases hlt:k<l.length
    ·have hk1:(k:Int)<l.length:=by omega
     have hxr:=hfr.ext' hx0W hb0
     obtain⟨b',o',a',c',rfl,-,g1,g2,g3,hi⟩:=hk.look hlt
     have g1':=hxr.cell g1
     have g2':=hxr.cell g2
     have g3':=hxr.cell g3
     have hst:=Ex.texts_take l 40 k hlt
     have htl:=Ex.texts_take_le l 40 (k+1)
     have hl0:=Hlen.out
     rw[hst]at htl
     simp only[List.length_append,List.length_cons]at htl
     have Hst:=Lib.hid hst;clear hst
     obtain⟨V,hV⟩:∃V,V=wr.alloc (.cells #[.bool l[k].var,.string l[k].name,.slice a' l[k].args.length c'] 73):=⟨_,rfl⟩
     have hbV:BldT 84 b (acc++q.data.toList++Ex.texts 40 (l.take k)) V:=by rw[hV];exact hbr.alloc _
     have hfV:BFr b W V:=by rw[hV];exact hfr.alloc' (by omega) _
     have hoV:V.heap[wr.heap.size]?=some (.cells #[.bool l[k].var,.string l[k].name,.slice a' l[k].args.length c'] 73 (0,0)):=by rw[hV];exact zal _ _
     have hle:(acc++q.data.toList++Ex.texts 40 (l.take k)).length+1≤140737488355328:=by simp only[List.length_append];omega
     have hsV:b<V.heap.size:=by have:=hfV.below.size;omega
     obtain⟨cb,cz,ci,hmin,hcz,hcb,hix⟩:∃(cb:UInt8) (cz ci:Int),min (k:Int) 1=ci∧cz=(cb.toNat:Int)∧cb=(if k=0 then (40:UInt8)else 44)∧∀w:World,(Instr.index 9 (.string ⟨#[40,44]⟩) (.int .i64 ci)).run Tryz.prog w=.ok (.int .u8 cz) w:=by
      by_cases hz:k=0
      ·exact⟨40,40,0,by omega,by decide,by rw[if_pos hz],zui⟩
      ·exact⟨44,44,1,by omega,by decide,by rw[if_neg hz],zuj⟩
     rw[←hcb]at Hst
     have HWB:=Lib.hid (fun w' (hb:BldT 84 b (acc++q.data.toList++Ex.texts 40 (l.take k)) w') (hs:b≤w'.heap.size)=>zda zah b _ cb w' hb hle hs)
     rw[←hcz]at HWB
     have hle2:(acc++q.data.toList++Ex.texts 40 (l.take k)++[cb]).length+l[k].text.length≤140737488355328:=by simp only[List.length_append,List.length_cons,List.length_nil];omega
     clear hcz hcb hle htl hl0
     go_wp2_with fail
     rw[←hV]
     clear hV
     go_still_tail 6,(by kernel_rfl)
     change wpList _ _ _ _ _ V.drew
     go_wp2_with (first
      |(go_at_call 140;refine(HWB.out _ hbV.drew (Nat.le_of_lt hsV)).mono ?_;rintro e w4 ⟨rfl,hb4,hf4⟩;have ho4:=hf4.obj (show V.drew.heap[wr.heap.size]?=_ from hoV) (by omega) (by decide);have n0:=zd ho4 0;have n1:=zd ho4 1;have n2:=zd ho4 2;simp only[List.getElem?_toArray,List.getElem?_cons_succ,List.getElem?_cons_zero]at n0 n1 n2;have hf5:=hfV.drew.trans hf4;have hx5:=hf5.ext' hx0W hb0;have hs5:=hf4.below.size)
      |(go_at_call 89;refine(HIH.out k hlt w4 hx5 (by have:V.drew.heap.size=V.heap.size:=rfl;omega) _ hb4 hle2 a' c' hi).mono ?_;rintro e w6 ⟨rfl,hb6,hf6⟩))
     go_roundw
     case rel=>exact⟨k+1,by omega,by go_num,by rw[Hst.out];simpa[List.append_assoc]using hb6,hf5.trans hf6⟩
     case measure=>simp[intOf];omega
    ·have hk1:¬(k:Int)<l.length:=by omega
     have hke:k=l.length:=by omega
     rw[hke,List.take_length]at hbr
     have hl0:=Hlen.out
     clear hke
     by_cases h0:0<l.length
     ·have hd0:decide ((0:Int)<(l.length:Nat))=true:=decide_eq_true (by omega)
      have h0':(0:Int)<(l.length:Nat):=by omega
      rw[if_pos h0]at hl0
      replace HT:=Lib.hid (show TT=q.data.toList++(Ex.texts 40 l++[41]) by rw[HT.out,if_pos h0])
      have hle:(acc++q.data.toList++Ex.texts 40 l).length+1≤140737488355328:=by simp only[List.length_append];omega
      clear h0 hl0
      go_wp2_with (go_at_call 140;refine(zda zah b _ 41 _ hbr hle (by omega)).mono ?_;rintro e w4 ⟨rfl,hb4,hf4⟩)
      go_returns
      exact⟨rfl,by rw[HT.out];simpa[List.append_assoc]using hb4,(hfW.trans hfr).trans hf4⟩
     ·have hd0:decide ((0:Int)<(l.length:Nat))=false:=decide_eq_false (by omega)
      have h0':¬(0:Int)<(l.length:Nat):=by omega
      replace HT:=Lib.hid (show TT=q.data.toList++Ex.texts 40 l by rw[HT.out,if_neg h0,List.append_nil])
      clear h0 hl0
      go_wp2_with fail
      go_returns
      exact⟨rfl,by rw[HT.out];simpa[List.append_assoc]using hbr,hfW.trans hfr⟩
theorem zho {P:Nat→Prop}{w0 w:World}{b:Nat}{acc:List UInt8}{x y z u:Value}{f:Fm}{e1 e2:Ex}(hte:f.terms=[e1,e2]) (hm1:e1.may=true) (hm2:e2.may=true) (h1s:e1.size≤4194304) (h2s:e2.size≤4194304) (sep:ByteArray) (ht:IsFm P w0 x y z u f) (hx0:Ext w0 w) (hb0:w0.heap.size≤b) (hbw:b<w.heap.size)
  (hbld:BldT 84 b acc w) (hlen:acc.length+(e1.text.length+(sep.size+e2.text.length))≤140737488355328) :
  Calls Tryz.prog 90 #[.pointer (some ⟨b,0,none⟩),.agg #[x,y,z,u],.string sep] w (zdf b acc (e1.text++(sep.data.toList++e2.text)) w):=by
 obtain⟨b1,c1,b2,c2,b3,c3,rfl,rfl,rfl,rfl,-,-,-,htc,-,-,hts,-⟩:=ht.form
 rw[hte]at hts htc ⊢
 obtain⟨W,hW⟩:∃W,W=w.alloc (.cells #[.int .i64 f.op,.slice b1 f.vars.length c1,.slice b2 [e1,e2].length c2,.slice b3 f.args.length c3] 29):=⟨_,rfl⟩
 have hfW:BFr b w W:=by rw[hW];exact(BFr.refl b w).alloc' (Nat.le_of_lt hbw) _
 have hbW:BldT 84 b acc W:=by rw[hW];exact hbld.alloc _
 have hoW:W.heap[w.heap.size]?=some (.cells #[.int .i64 f.op,.slice b1 f.vars.length c1,.slice b2 [e1,e2].length c2,.slice b3 f.args.length c3] 29 (0,0)):=by rw[hW];exact zal _ _
 have hsW:b<W.heap.size:=by rw[hW];simp;omega
 have hx0W:Ext w0 W:=hfW.ext' hx0 hb0
 have k2:=zd hoW 2
 simp only[List.getElem?_toArray,List.getElem?_cons_succ,List.getElem?_cons_zero]at k2
 obtain⟨b',o',a1,d1,rfl,-,g1,g2,g3,hi1⟩:=hts.look (i:=0) (by simp)
 obtain⟨b'',o'',a2,d2,he,-,g4,g5,g6,hi2⟩:=hts.look (i:=1) (by simp)
 injection he with he;injection he with he1 he2 _
 subst he1;subst he2
 simp only[List.getElem_cons_zero,List.getElem_cons_succ,Nat.zero_mul,Nat.add_zero,Nat.one_mul,List.length_cons,List.length_nil,Nat.zero_add,Nat.reduceAdd]at g1 g2 g3 g4 g5 g6 hi1 hi2 hoW hW k2
 have g1':=hx0W.cell g1
 have g2':=hx0W.cell g2
 have g3':=hx0W.cell g3
 have H1:=Lib.hid (fun (hac:acc.length+e1.text.length≤140737488355328)=>zlc e1 hm1 P w0 W b acc _ _ _ hi1 h1s hx0W hb0 hsW hbW hac)
 have H2:=Lib.hid (fun w' (hx:Ext w0 w') (hb:b<w'.heap.size) (acc':List UInt8) (hbl:BldT 84 b acc' w') (hac:acc'.length+e2.text.length≤140737488355328)=>zlc e2 hm2 P w0 w' b acc' _ _ _ hi2 h2s hx hb0 hb hbl hac)
 have q1:acc.length+e1.text.length≤140737488355328:=by omega
 have q2:(acc++e1.text).length+sep.size≤140737488355328:=by simp only[List.length_append];omega
 have q3:(acc++e1.text++sep.data.toList).length+e2.text.length≤140737488355328:=by
  have:sep.data.toList.length=sep.size:=by simp
  simp only[List.length_append];omega
 have Hts:=Lib.hid hts
 clear hi1 hi2 hts hlen hm1 hm2 ht
 simp only[List.length_cons,List.length_nil,Nat.zero_add,Nat.reduceAdd]
 go_enter Tryz.func90,Tryz.ntmps90
 go_upto_region 1 with fail
 rw[←hW]
 clear hW
 go_wp2_with (first
  |(go_at_call 89;refine(H1.out q1).mono ?_;rintro e w3 ⟨rfl,hb3,hf3⟩;have hoW3:=hf3.obj hoW (by omega) (by decide);have m2:=zd hoW3 2;simp only[List.getElem?_toArray,List.getElem?_cons_succ,List.getElem?_cons_zero]at m2;have hs3:=hf3.below.size;clear H1)
  |(go_at_call 76;refine(zn zah b _ sep _ hb3 q2 (by omega)).mono ?_;rintro e w4 ⟨rfl,hb4,hf4⟩;have hoW4:=hf4.obj hoW3 (by omega) (by decide);have m3:=zd hoW4 2;simp only[List.getElem?_toArray,List.getElem?_cons_succ,List.getElem?_cons_zero]at m3;have hs4:=hf4.below.size;have hf5:=hf3.trans hf4;have hx5:=hf5.ext' hx0W hb0;have n1:=hx5.cell g4;have n2:=hx5.cell g5;have n3:=hx5.cell g6)
  |(go_at_call 89;refine(H2.out w4 hx5 (by omega) _ hb4 q3).mono ?_;rintro e w6 ⟨rfl,hb6,hf6⟩))
 go_returns
 exact⟨rfl,by simpa[List.append_assoc]using hb6,hfW.trans (hf5.trans hf6)⟩
end Go.Proofs.YtnclgkdpafhogaaGreat
