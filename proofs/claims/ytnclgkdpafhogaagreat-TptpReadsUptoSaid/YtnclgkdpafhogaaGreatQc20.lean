/- slices.Clone over texts, formula.Copy. Condition: at most 4194304 parts.
Which texts are roles, of the program and of the reference. No condition.
Rows of texts: a whole row appended to a row of the call's own. Condition: at most 8388608 texts.
The reference's Free. Condition: at most 4194304 parts.
Plain: an entry, way by way. No condition.
The program's reader of things: place, stop, name. Condition: a row of at most 2^30 tokens, not empty.
Rows of the call's own: an element put anew, the row cut off. No condition. -/
import Derived.Test.YtnclgkdpafhogaaGreatQc18
import Derived.Test.YtnclgkdpafhogaaGreatQc8
import Derived.Test.YtnclgkdpafhogaaGreatQc12
import Derived.Test.YtnclgkdpafhogaaGreatQc19
import Derived.Test.YtnclgkdpafhogaaGreatQc11
import Derived.Laws.OwnMore
import Derived.Deep.AppendLies
import Derived.Test.YtnclgkdpafhogaaGreatQc0
import Derived.Test.YtnclgkdpafhogaaGreatQc7
import Derived.Test.YtnclgkdpafhogaaGreatQc10
import Derived.Lib.SliceRun
set_option maxHeartbeats 16000000
set_option maxRecDepth 100000
namespace Go.Proofs.YtnclgkdpafhogaaGreat
open Go.ChangeShapes Go.WideShapes Go.ChangeAt Go.RowKit
theorem zsq {B:Nat}{w:World}{v:Value}{l:List ByteArray}(hl:∀s∈l,s.size≤1073741824) (h:w.ownsRow B 9 1 v l.length (l.map Value.string)):GRow (zz 1) 9 B w v (l.map zct):=by
 refine⟨l.map fun s=>[.string s],by simp,?_,fun j h1 h2=>?_⟩
 ·have e:(l.map fun s=>[Value.string s]).flatten=l.map Value.string:=by
   clear h hl
   induction l with
   |nil=>rfl
   |cons a l ih=>simp only[List.map_cons,List.flatten_cons,ih,List.cons_append,List.nil_append]
  rw[e,List.length_map];exact h
 ·simp only[List.getElem_map]
  exact zqh (hl _ (List.getElem_mem _))
theorem zmv {P:Nat→Prop}{l:List ByteArray}{w:World}{a:Option Addr}{c:Nat}(h:IsStrs P w a l) (hl:l.length≤1073741824) :
  Calls Tryz.prog 120 #[.slice a l.length c] w fun e w'=>(∃v,e=.returned v∧GRow (zz 1) 9 w.heap.size w' v (l.map zct))∧Ext w w':=by
 have hsz:∀s∈l,s.size≤1073741824:=fun s hs=>by
  obtain⟨i,hi,rfl⟩:=List.getElem_of_mem hs
  obtain⟨_,_,_,_,_,hz⟩:=h.look hi
  exact hz
 by_cases h0:0<l.length
 ·obtain⟨b,o,rfl,-⟩:=Dat.Rows.addr h (by simpa using h0)
  have hK:=Tryz.slices_Clone_string b o l.length c l w (Nat.le_refl _) (by omega) (fun j hj=>by
   obtain⟨b',o',e,-,h1,-⟩:=h.look hj
   injection e with e;injection e with e1 e2 _;subst e1;subst e2
   rw[h1,List.getD_eq_getElem?_getD,List.getElem?_eq_getElem hj];rfl)
  refine hK.mono ?_
  rintro e w' ⟨v,rfl,ho,-,hx⟩
  rw[List.take_length]at ho
  exact⟨⟨v,rfl,zsq hsz ho⟩,hx⟩
 ·have he:=List.eq_nil_of_length_eq_zero (Nat.eq_zero_of_not_pos h0)
  subst he
  cases a with
  |none =>
   refine(Tryz.slices_Clone_string_nil 0 c w).mono ?_
   rintro e w' ⟨rfl,rfl⟩
   exact⟨⟨_,rfl,GRow.nil⟩,Below.refl _ _⟩
  |some a =>
   refine(Tryz.slices_Clone_string_zero a c w).mono ?_
   rintro e w' ⟨v,rfl,ho,-,hx⟩
   exact⟨⟨v,rfl,zsq hsz ho⟩,hx⟩
theorem zxq {B:Nat}{w:World}{v:Value}{l:List ByteArray}(h:GRow (zz 1) 9 B w v (l.map zct)):∃a c,v=.slice a l.length c∧l.length≤c∧IsStrs (fun g=>B≤g∧g<w.heap.size) w a l:=by
 obtain⟨a,c,hv,hc,hd⟩:=GRow.dat (by decide) h
 rw[List.length_map]at hv hc
 exact⟨a,c,hv,hc,Dat.Rows.mono hd fun g hg hlt=>⟨hg,hlt⟩⟩
theorem zh4 (t:Fm):∀(P:Nat→Prop) (w:World) (x y z u:Value),IsFm P w x y z u t→t.size≤4194304 →
  Calls Tryz.prog 67 #[.agg #[x,y,z,u]] w fun e w'=>(∃v,e=.returned v∧za8 (fun g=>w.heap.size≤g) w' v t)∧Ext w w':=by
 induction t using Fm.ind with
 |h op vs ts l ih =>
  intro P w x y z u ht hs
  obtain⟨va,vc,ta,tc,a,c,rfl,rfl,rfl,rfl,ho1,ho2,hvc,htc,hc1,hkv,hkt,hk⟩:=ht.form
  have ho2':=ho2
  simp only[Fm.op,Fm.vars,Fm.terms,Fm.args]at ho1 ho2' ho2 hvc htc hc1 hkv hkt hk ⊢
  simp only[Fm.size]at hs
  have hkl:=Fm.length_le_sizes l
  have htl:=Ex.length_le_sizes ts
  obtain⟨i0,hi0,hz0,hz1',hz2'⟩:=info_parts ztj
  obtain⟨j0,hj0,jz0,jz1',jz2'⟩:=info_parts zhw
  have HIH:=Lib.hid ih
  clear ih ht
  have HCL:=Lib.hid (fun w' (hx:Ext w w')=>zmv (c:=vc) (hkv.ext hx) (by omega))
  clear hkv
  go_enter Tryz.func67,Tryz.ntmps67
  go_upto_region 1 with fail
  obtain⟨W,hW⟩:∃W,W=(w.alloc (.cells #[.int .i64 op,.slice va vs.length vc,.slice ta ts.length tc,.slice a l.length c] 29)).alloc (.cells #[.int .i64 0,.slice none 0 0,.slice none 0 0,.slice none 0 0] 29):=⟨_,rfl⟩
  have hx:Ext w W:=by rw[hW];exact(zd _ _).alloc _
  have hz:W.heap.size=w.heap.size+2:=by rw[hW];simp
  have hfb:Own W w.heap.size [.int .i64 op,.slice va vs.length vc,.slice ta ts.length tc,.slice a l.length c]:=by rw[hW];exact(own4 w _ _ _ _ _).ext (zd _ _)
  have hnb:Own W (w.heap.size+1) [.int .i64 0,.slice none 0 0,.slice none 0 0,.slice none 0 0]:=by
   rw[hW]
   have:=own4 (w.alloc (.cells #[.int .i64 op,.slice va vs.length vc,.slice ta ts.length tc,.slice a l.length c] 29)) (.int .i64 0) (.slice none 0 0) (.slice none 0 0) (.slice none 0 0) 29
   rw[World.size_alloc]at this;exact this
  rw[←hW]
  clear hW
  obtain⟨fb,hfbe⟩:∃fb,fb=w.heap.size:=⟨_,rfl⟩
  obtain⟨nb,hnbe⟩:∃nb,nb=w.heap.size+1:=⟨_,rfl⟩
  rw[←hnbe]at hnb
  rw[←hfbe]at hfb
  rw[←hnbe,←hfbe]
  have hw0:w.heap.size≤fb:=by omega
  have hw1:w.heap.size≤nb:=by omega
  have hw2:fb<nb:=by omega
  have hw3:nb<W.heap.size:=by omega
  clear hnbe hfbe hz
  obtain⟨⟨b0,-⟩,⟨b1,-⟩,⟨b2,-⟩,⟨b3,-⟩⟩:=hfb.cells4
  have hfl:=hfb.lt
  go_cut [3]from 8 to 13 (fun xx wx=>∃(ob:Nat) (va':Option Addr) (vc':Nat),xx=.pointer (some ⟨ob,0,none⟩)∧Own wx ob [.int .i64 op,.slice va' vs.length vc',.slice none 0 0,.slice none 0 0]∧vs.length≤vc'∧W.heap.size≤ob∧IsStrs (fun g=>W.heap.size≤g∧g≠ob∧g<wx.heap.size) wx va' vs∧Ext W wx)
  case first =>
   go_region_law ((go_simp;go_at_call 120;refine(HCL.out _ (by first|exact Ext.drew hx|exact(Ext.drew hx).alloc _|exact Ext.drew (hx.alloc _))).mono ?_;rintro e w1 ⟨⟨v,rfl,hv⟩,hx1⟩;(obtain⟨va',vc',rfl,hvc',hvs'⟩:=zxq hv);(have hE:Ext W w1:=(by first|exact Ext.trans (Ext.drew (Below.refl _ _)) hx1|exact Ext.trans (Ext.drew (zd _ _)) hx1));(have e0:=hE.cell b0);(have hl1:fb<w1.heap.size:=zf e0);(have e1:=hE.cell b1);(try (have hb:=((own4 W (.int .i64 0) (.slice none 0 0) (.slice none 0 0) (.slice none 0 0) 29).ext (Ext.trans (Ext.drew (Below.refl _ _)) hx1));have hbl:=hb.lt;(obtain⟨y0,z0⟩:=hb 0 _ rfl);(obtain⟨y1,z1⟩:=hb 1 _ rfl);(obtain⟨y2,z2⟩:=hb 2 _ rfl);(obtain⟨y3,z3⟩:=hb 3 _ rfl)))))
   all_goals
    go_wp2_with fail
    go_meet
    first
     |(have hb':=hb
       have hch:=zai w1 W.heap.size (.int .i64 op) (.slice va' vs.length vc') (.slice none 0 0) (.slice none 0 0)
       have hch':=hch.size
       exact⟨W.heap.size,va',vc',rfl,zac hb _ _ _ _,hvc',Nat.le_refl _,Dat.Rows.mono (Dat.Rows.chg hvs' hch (fun g hg=>by have h1:=hg.1;simp at h1 ⊢;omega)) (fun g hg _=>by have h1:=hg.1;simp at h1;omega),Chg.ext hE hch (by simp)⟩)
     |exact⟨w1.heap.size,va',vc',rfl,own4 w1 _ _ _ _ _,hvc',hE.size,Dat.Rows.ext (Dat.Rows.mono hvs' fun g hg _=>⟨by have h1:W.heap.size≤g:=hg.1;omega,by omega,by simp;omega⟩) (zd _ _),hE.alloc _⟩
  case rest =>
   generalize wc=W0 at hcut ⊢
   obtain⟨ob,va',vc',rfl,ho,hvc',hobW,hvs',hxW⟩:=hcut
   have hx0:=hx.trans hxW
   have hf0:=hfb.ext hxW
   have hn0:=hnb.ext hxW
   have hob0:=ho.lt
   have hobn:ob≠nb:=by omega
   have hobf:ob≠fb:=by omega
   have hwob:w.heap.size≤ob:=by omega
   have hnbl:=hn0.lt
   have hfbl:=hf0.lt
   have hwW:=hx.size
   clear hfb hnb b0 b1 b2 b3 hfl HCL hx
   obtain⟨-,-,⟨b2,-⟩,⟨b3,-⟩⟩:=hf0.cells4
   go_wp2_with fail
   go_loopw [17] (fun i wr=>∃(k:Nat) (vv:Value),k≤ts.length∧i=.int .i64 k∧GRow (zz 3) 73 W0.heap.size wr vv ((ts.take k).map Ex.dat)∧Own wr ob [.int .i64 op,.slice va' vs.length vc',vv,.slice none 0 0]∧Chg [ob] W0 wr) (fun i _=>ts.length-(intOf i).toNat)
   case atStart=>exact⟨0,_,Nat.zero_le _,rfl,GRow.nil,ho,Chg.refl _ _⟩
   case round =>
    obtain⟨k,vv,hkk,rfl,hrow,ho2,hch⟩:=hrel
    have hxr:Ext w wr:=Chg.ext hx0 hch (by simp;omega)
    have HML:((ts.take k).map Ex.dat).length=k:=by rw[List.length_map,List.length_take];omega
    obtain⟨xa,xc,hv,hxc⟩:=hrow.form
    rw[HML]at hv hxc
    subst hv
    have Hml:=Lib.hid HML
    clear HML ho b2 b3
    obtain⟨q2,r2⟩:=ho2 2 _ rfl
    have hWr:W0.heap.size≤wr.heap.size:=hch.size
    by_cases hlt:k<ts.length
    ·have hk1:(k:Int)<ts.length:=by omega
     obtain⟨b',o',a',c',rfl,hbP,g1,g2,g3,hi⟩:=(IsExs.ext hkt hxr).look hlt
     have Hi:=Lib.hid (fun w' (hx:Ext wr w')=>zog ts[k] P w' _ _ _ (hi.ext hx) (by have:=Ex.size_le_sizes hlt;omega))
     have hown:∀g,(Value.slice xa k xc).ownBlock=some g→g<wr.heap.size:=fun g hg=>(hrow.own_ge hg).2
     have hown2:∀g,(Value.slice xa k xc).ownBlock=some g→W0.heap.size≤g:=fun g hg=>(hrow.own_ge hg).1
     go_upto_region 5 with fail
     obtain⟨V,hV⟩:∃V,V=wr.alloc (.cells #[.bool ts[k].var,.string ts[k].name,.slice a' ts[k].args.length c'] 73):=⟨_,rfl⟩
     have hxV:Ext wr V:=by rw[hV];exact zd _ _
     have hbx:Own V wr.heap.size [.bool ts[k].var,.string ts[k].name,.slice a' ts[k].args.length c']:=by rw[hV];exact own3 wr _ _ _ _
     obtain⟨e0,-⟩:=hbx 0 _ rfl
     obtain⟨e1,-⟩:=hbx 1 _ rfl
     obtain⟨e2,-⟩:=hbx 2 _ rfl
     have p2:=hxV.cell q2
     have y2:=hxV.frozen q2 r2
     rw[←hV]
     clear hV hi g1 g2 g3
     go_region_law ((first
      |(go_simp;go_at_call 121;refine(Hi.out _ (hxV.trans (Ext.drew (Below.refl _ _)))).mono ?_;rintro e w2 ⟨⟨vv2,rfl,x0,x1,x2,rfl,hex⟩,hx2⟩;(have hx2':Ext V w2:=(Ext.drew (Below.refl _ V)).trans hx2);(obtain⟨d1,e1',rfl,rfl,rfl,-⟩:=hex.form);(have d5:=hx2'.cell p2);(have d6:=hx2'.frozen p2 y2);(have d7:=(zd w2 (.cells #[.bool ts[k].var,.string ts[k].name,.slice d1 ts[k].args.length e1'] 73)).cell d5);(try simp only[]))
      |(refine zan rfl (.tmp 22) (.tmp 25) _ rfl 73 i0 _ 48 Tryz.underlying26 hi0 hz0 hz1' hz2' rfl (by decide) W0.heap.size (.slice xa k xc) ((ts.take k).map Ex.dat) (by rfl) wr hrow ((hxV.trans hx2').trans (zd _ _)) w2.heap.size (by rfl) _ _ (heap_alloc_new _ _) ts[k].dat (zu2 (hex.ext (zd _ _)) fun g hg hlt=>(show W0.heap.size≤g∧(Value.slice xa k xc).ownBlock≠some g from ⟨by have:V.heap.size≤g:=hg;have:=hxV.size;omega,fun e=>by have:=hown g e;have:V.heap.size≤g:=hg;have:=hxV.size;omega⟩)) (by rw[Hml.out];simp only[maxLen];omega) (by rw[Hml.out];omega) (Nat.le_trans hWr ((hxV.trans hx2').trans (zd _ _)).size) ?_;intro g cap w4 hrow4 hgrow hat hlt4;(have hfar:(some (⟨ob,2,none⟩:Addr).block)≠(Value.slice xa k xc).ownBlock:=fun e=>by have:=hown2 _ e.symm;simp only at this;omega);(have hlt5:(⟨ob,2,none⟩:Addr).block<(w2.alloc (.cells #[.bool ts[k].var,.string ts[k].name,.slice d1 ts[k].args.length e1'] 73)).heap.size:=Nat.lt_of_lt_of_le (zf d5) (zd w2 _).size);(have e5:=(hgrow.cell_far ⟨ob,2,none⟩ hlt5 hfar).trans ((zd w2 _).cell d5));(have e6:=(hgrow.frozen_far ⟨ob,2,none⟩ hlt5 hfar).trans ((zd w2 _).frozen d5 d6)))))
     all_goals
      go_wp2_with fail
      go_roundw
      case rel =>
       have hx5:=(hxV.trans hx2').trans (zd w2 (.cells #[.bool ts[k].var,.string ts[k].name,.slice d1 ts[k].args.length e1'] 73))
       have hset:=(Chg.refl [ob] w4).setCell (p:=⟨ob,2,none⟩) (.slice (some ⟨g,0,none⟩) (k+1) cap) (.inl (by simp))
       have hnot:∀b,b<W0.heap.size→(Value.slice xa k xc).ownBlock≠some b:=fun b hb e=>by have:=hown2 _ e;omega
       have hrow5:=hrow4
       rw[Hml.out]at hrow5
       refine⟨k+1,.slice (some ⟨g,0,none⟩) (k+1) cap,by omega,by go_num,?_,?_,(zbr hch hrow (Nat.le_refl _) hx5 hgrow).trans (by simpa[Hml.out]using hset)⟩
       ·rw[List.take_succ_eq_append_getElem hlt,List.map_append]
        exact hrow5.chg hset (by simp;omega)
       ·exact(zb5 (ho2.ext hx5) hgrow (hnot ob hob0)).set (i:=2) (by simp) (.slice (some ⟨g,0,none⟩) (k+1) cap)
      case measure=>simp[intOf];omega
    ·have hk1:¬(k:Int)<ts.length:=by omega
     have hke:k=ts.length:=by omega
     obtain⟨a1,c1,hv1,hvc1,hd⟩:=GRow.dat (by decide) hrow
     rw[Hml.out]at hv1 hvc1
     injection hv1 with e1 _ e3
     subst e1;subst e3
     have hke':=hke
     subst hke
     rw[List.take_length]at hd
     have hts:IsExs (fun g=>W0.heap.size≤g∧g<wr.heap.size) wr xa ts:=by unfold IsExs;rw[Ex.dats_map];exact Dat.Rows.mono hd fun g hg hlt=>⟨hg,hlt⟩
     have hvs1:IsStrs (fun g=>W.heap.size≤g∧g≠ob∧g<W0.heap.size) wr va' vs:=Dat.Rows.chg hvs' hch (fun g hg=>by simpa using hg.2.1)
     have hn1:=hn0.chg hch (by simpa using Ne.symm hobn)
     have hf1:=hf0.chg hch (by simpa using Ne.symm hobf)
     clear hd hrow hke' Hml hk1 hlt q2 r2 hvs' hn0 hf0
     obtain⟨-,-,-,⟨b3,-⟩⟩:=hf1.cells4
     have hob1:=ho2.lt
     obtain⟨V1,hV1⟩:∃V1,V1=wr:=⟨_,rfl⟩
     rw[←hV1]at ho2 hch hxr hWr hts hvs1 hn1 hf1 b3 hob1 ⊢
     clear hV1
     go_wp2_with fail
     go_loopw [32] (fun i wr=>∃(k:Nat) (vv:Value),k≤l.length∧i=.int .i64 k∧GRow (zz 4) 29 V1.heap.size wr vv ((l.take k).map Fm.dat)∧Own wr ob [.int .i64 op,.slice va' vs.length vc',.slice xa ts.length xc,vv]∧Chg [ob] V1 wr) (fun i _=>l.length-(intOf i).toNat)
     case atStart=>exact⟨0,_,Nat.zero_le _,rfl,GRow.nil,ho2,Chg.refl _ _⟩
     case round =>
      obtain⟨k,vv,hkk,rfl,hrow,ho3,hch3⟩:=hrel
      have hxr3:Ext w wr:=Chg.ext hxr hch3 (by simp;omega)
      have HML:((l.take k).map Fm.dat).length=k:=by rw[List.length_map,List.length_take];omega
      obtain⟨za,zc,hv,hzc⟩:=hrow.form
      rw[HML]at hv hzc
      subst hv
      have Hml:=Lib.hid HML
      clear HML ho2 b3
      obtain⟨q2,r2⟩:=ho3 3 _ rfl
      have hWr3:V1.heap.size≤wr.heap.size:=hch3.size
      by_cases hlt:k<l.length
      ·have hk1:(k:Int)<l.length:=by omega
       obtain⟨b',o',a1',c1',a2',c2',a',c',rfl,hbP,g1,g2,g3,g4,hi⟩:=(IsFms.ext hk hxr3).look hlt
       have Hi:=Lib.hid (fun w' (hx:Ext wr w')=>HIH.out _ (List.getElem_mem hlt) P w' _ _ _ _ (hi.ext hx) (by have:=Fm.size_le_sizes hlt;omega))
       have hown:∀g,(Value.slice za k zc).ownBlock=some g→g<wr.heap.size:=fun g hg=>(hrow.own_ge hg).2
       have hown2:∀g,(Value.slice za k zc).ownBlock=some g→V1.heap.size≤g:=fun g hg=>(hrow.own_ge hg).1
       go_upto_region 10 with fail
       obtain⟨V,hV⟩:∃V,V=wr.alloc (.cells #[.int .i64 l[k].op,.slice a1' l[k].vars.length c1',.slice a2' l[k].terms.length c2',.slice a' l[k].args.length c'] 29):=⟨_,rfl⟩
       have hxV:Ext wr V:=by rw[hV];exact zd _ _
       have hbx:Own V wr.heap.size [.int .i64 l[k].op,.slice a1' l[k].vars.length c1',.slice a2' l[k].terms.length c2',.slice a' l[k].args.length c']:=by rw[hV];exact own4 wr _ _ _ _ _
       obtain⟨⟨e0,-⟩,⟨e1,-⟩,⟨e2,-⟩,⟨e3,-⟩⟩:=hbx.cells4
       have p2:=hxV.cell q2
       have y2:=hxV.frozen q2 r2
       rw[←hV]
       clear hV hi g1 g2 g3 g4
       go_region_law ((first
        |(go_simp;go_at_call 67;refine(Hi.out _ (hxV.trans (Ext.drew (Below.refl _ _)))).mono ?_;rintro e w2 ⟨⟨vv2,rfl,x0,x1,x2,x3,rfl,hex⟩,hx2⟩;(have hx2':Ext V w2:=(Ext.drew (Below.refl _ V)).trans hx2);(obtain⟨d1,e1',d2,e2',d3,e3',rfl,rfl,rfl,rfl,-⟩:=hex.form);(have d5:=hx2'.cell p2);(have d6:=hx2'.frozen p2 y2);(have d7:=(zd w2 (.cells #[.int .i64 l[k].op,.slice d1 l[k].vars.length e1',.slice d2 l[k].terms.length e2',.slice d3 l[k].args.length e3'] 29)).cell d5);(try simp only[]))
        |(refine zan rfl (.tmp 37) (.tmp 40) _ rfl 29 j0 _ 80 Tryz.underlying27 hj0 jz0 jz1' jz2' rfl (by decide) V1.heap.size (.slice za k zc) ((l.take k).map Fm.dat) (by rfl) wr hrow ((hxV.trans hx2').trans (zd _ _)) w2.heap.size (by rfl) _ _ (heap_alloc_new _ _) l[k].dat (zqo (hex.ext (zd _ _)) fun g hg hlt=>(show V1.heap.size≤g∧(Value.slice za k zc).ownBlock≠some g from ⟨by have:V.heap.size≤g:=hg;have:=hxV.size;omega,fun e=>by have:=hown g e;have:V.heap.size≤g:=hg;have:=hxV.size;omega⟩)) (by rw[Hml.out];simp only[maxLen];omega) (by rw[Hml.out];omega) (Nat.le_trans hWr3 ((hxV.trans hx2').trans (zd _ _)).size) ?_;intro g cap w4 hrow4 hgrow hat hlt4;(have hfar:(some (⟨ob,3,none⟩:Addr).block)≠(Value.slice za k zc).ownBlock:=fun e=>by have:=hown2 _ e.symm;simp only at this;omega);(have hlt5:(⟨ob,3,none⟩:Addr).block<(w2.alloc (.cells #[.int .i64 l[k].op,.slice d1 l[k].vars.length e1',.slice d2 l[k].terms.length e2',.slice d3 l[k].args.length e3'] 29)).heap.size:=Nat.lt_of_lt_of_le (zf d5) (zd w2 _).size);(have e5:=(hgrow.cell_far ⟨ob,3,none⟩ hlt5 hfar).trans ((zd w2 _).cell d5));(have e6:=(hgrow.frozen_far ⟨ob,3,none⟩ hlt5 hfar).trans ((zd w2 _).frozen d5 d6)))))
       all_goals
        go_wp2_with fail
        go_roundw
        case rel =>
         have hx5:=(hxV.trans hx2').trans (zd w2 (.cells #[.int .i64 l[k].op,.slice d1 l[k].vars.length e1',.slice d2 l[k].terms.length e2',.slice d3 l[k].args.length e3'] 29))
         have hset:=(Chg.refl [ob] w4).setCell (p:=⟨ob,3,none⟩) (.slice (some ⟨g,0,none⟩) (k+1) cap) (.inl (by simp))
         have hnot:∀b,b<V1.heap.size→(Value.slice za k zc).ownBlock≠some b:=fun b hb e=>by have:=hown2 _ e;omega
         have hrow5:=hrow4
         rw[Hml.out]at hrow5
         refine⟨k+1,.slice (some ⟨g,0,none⟩) (k+1) cap,by omega,by go_num,?_,?_,(zbr hch3 hrow (Nat.le_refl _) hx5 hgrow).trans (by simpa[Hml.out]using hset)⟩
         ·rw[List.take_succ_eq_append_getElem hlt,List.map_append]
          exact hrow5.chg hset (by simp;omega)
         ·exact(zb5 (ho3.ext hx5) hgrow (hnot ob hob1)).set (i:=3) (by simp) (.slice (some ⟨g,0,none⟩) (k+1) cap)
        case measure=>simp[intOf];omega
      ·have hk1:¬(k:Int)<l.length:=by omega
       have hke:k=l.length:=by omega
       obtain⟨a1,c1,hv1,hvc1,hd⟩:=GRow.dat (by decide) hrow
       rw[Hml.out]at hv1 hvc1
       injection hv1 with e1 _ e3
       subst e1;subst e3
       subst hke
       rw[List.take_length]at hd
       have hn3:=hn1.chg hch3 (by simpa using Ne.symm hobn)
       have hts3:IsExs (fun g=>W0.heap.size≤g∧g<V1.heap.size) wr xa ts:=Dat.Rows.chg hts hch3 (fun g hg=>by simp;omega)
       have hvs3:IsStrs (fun g=>W.heap.size≤g∧g≠ob∧g<W0.heap.size) wr va' vs:=Dat.Rows.chg hvs1 hch3 (fun g hg=>by simpa using hg.2.1)
       clear hrow Hml hk1 hlt q2 r2 hn1 hts hvs1 hf1
       obtain⟨⟨m0,-⟩,⟨m1,-⟩,⟨m2,-⟩,⟨m3,-⟩⟩:=ho3.cells4
       obtain⟨⟨n0,s0⟩,⟨n1,s1⟩,⟨n2,s2⟩,⟨n3,s3⟩⟩:=hn3.cells4
       have hnl3:=hn3.lt
       have HD:=Lib.hid (And.intro hd (And.intro hts3 hvs3))
       clear hd hts3 hvs3
       go_wp2_with fail
       obtain⟨W2,hW2⟩:∃W2,W2=(((wr.setCell ⟨nb,0,none⟩ (.int .i64 op)).setCell ⟨nb,1,none⟩ (.slice va' vs.length vc')).setCell ⟨nb,2,none⟩ (.slice xa ts.length xc)).setCell ⟨nb,3,none⟩ (.slice za l.length zc):=⟨_,rfl⟩
       have hch4:=zai wr nb (.int .i64 op) (.slice va' vs.length vc') (.slice xa ts.length xc) (.slice za l.length zc)
       have hn4:=zac hn3 (.int .i64 op) (.slice va' vs.length vc') (.slice xa ts.length xc) (.slice za l.length zc)
       rw[←hW2]at hch4 hn4 ⊢
       clear hW2
       obtain⟨f0,f1,f2,f3⟩:=za9 hn4
       have hxf:=Chg.ext hxr3 hch4 (by simp;omega)
       obtain⟨hd,hts3,hvs3⟩:=HD.out
       have hWW:=hxW.size
       have hd4:IsFms (fun g=>w.heap.size≤g) W2 za l:=by unfold IsFms;rw[Fm.dats_map];exact Dat.Rows.mono (Dat.Rows.chg hd hch4 (fun g hg=>by simp;omega)) fun g hg _=>by have:=hxr.size;omega
       have ht4:IsExs (fun g=>w.heap.size≤g) W2 xa ts:=Dat.Rows.mono (Dat.Rows.chg hts3 hch4 (fun g hg=>by simp;omega)) fun g hg _=>by have:=hx0.size;omega
       have hv4:IsStrs (fun g=>w.heap.size≤g) W2 va' vs:=Dat.Rows.mono (Dat.Rows.chg hvs3 hch4 (fun g hg=>by simp;omega)) fun g hg _=>by omega
       refine bodyPost_ret (v:=.agg #[.int .i64 op,.slice va' vs.length vc',.slice xa ts.length xc,.slice za l.length zc]) (by simp[results,Tryz.results67,go_sem,f0,f1,f2,f3]) rfl ⟨⟨_,rfl,_,_,_,_,rfl,IsFm.mk' ho1 ho2' hvc' hxc hzc hv4 ht4 hd4⟩,hxf⟩
theorem eqS {s r:ByteArray}{b:Bool}(h:decide (s=r)=b):(s.toList==r.toList)=b:=(zks s r).trans h
theorem eqL {s r:ByteArray}{l:List UInt8}{b:Bool}(hl:r.toList=l) (h:decide (s=r)=b):(s.toList==l)=b:=by rw[←hl];exact eqS h
theorem zsr (s:ByteArray):zcg s=(decide (s=zij) || (decide (s=zoh) || (decide (s=zoi) || (decide (s=zoj) || (decide (s=zik) || (decide (s=zok) || (decide (s=zol) || (decide (s=zil) || (decide (s=zf0) || (decide (s=zom))))))))))):=by simp[zcg,zso]
theorem zt3 (s:ByteArray) (w:World):Calls Tryz.prog 70 #[.string s] w fun e w'=>e=.returned (.bool (zcg s))∧w=w':=by
 have HR:=Lib.hid (zsr s)
 cases h0:decide (s=zij) with
 |true =>
  have q0:(s.toList==[97,120,105,111,109])=true:=eqL (r:=zij) (by rw[Go.ByteArray.toList_eq];rfl) h0
  have HB:=Lib.hid (show zcg s=true by rw[HR.out];simp only[h0,Bool.true_or])
  clear h0
  go_enter Tryz.func70,Tryz.ntmps70
  go_wp2_with fail
  go_ret
  exact⟨ze HB.out.symm,rfl⟩
 |false =>
  have q0:(s.toList==[97,120,105,111,109])=false:=eqL (r:=zij) (by rw[Go.ByteArray.toList_eq];rfl) h0
  cases h1:decide (s=zoh) with
  |true =>
   have q1:(s.toList==[104,121,112,111,116,104,101,115,105,115])=true:=eqL (r:=zoh) (by rw[Go.ByteArray.toList_eq];rfl) h1
   have HB:=Lib.hid (show zcg s=true by rw[HR.out];simp only[h0,h1,Bool.true_or,Bool.false_or])
   clear h0 h1
   go_enter Tryz.func70,Tryz.ntmps70
   go_wp2_with fail
   go_ret
   exact⟨ze HB.out.symm,rfl⟩
  |false =>
   have q1:(s.toList==[104,121,112,111,116,104,101,115,105,115])=false:=eqL (r:=zoh) (by rw[Go.ByteArray.toList_eq];rfl) h1
   cases h2:decide (s=zoi) with
   |true =>
    have q2:(s.toList==[100,101,102,105,110,105,116,105,111,110])=true:=eqL (r:=zoi) (by rw[Go.ByteArray.toList_eq];rfl) h2
    have HB:=Lib.hid (show zcg s=true by rw[HR.out];simp only[h0,h1,h2,Bool.true_or,Bool.false_or])
    clear h0 h1 h2
    go_enter Tryz.func70,Tryz.ntmps70
    go_wp2_with fail
    go_ret
    exact⟨ze HB.out.symm,rfl⟩
   |false =>
    have q2:(s.toList==[100,101,102,105,110,105,116,105,111,110])=false:=eqL (r:=zoi) (by rw[Go.ByteArray.toList_eq];rfl) h2
    cases h3:decide (s=zoj) with
    |true =>
     have q3:(s.toList==[97,115,115,117,109,112,116,105,111,110])=true:=eqL (r:=zoj) (by rw[Go.ByteArray.toList_eq];rfl) h3
     have HB:=Lib.hid (show zcg s=true by rw[HR.out];simp only[h0,h1,h2,h3,Bool.true_or,Bool.false_or])
     clear h0 h1 h2 h3
     go_enter Tryz.func70,Tryz.ntmps70
     go_wp2_with fail
     go_ret
     exact⟨ze HB.out.symm,rfl⟩
    |false =>
     have q3:(s.toList==[97,115,115,117,109,112,116,105,111,110])=false:=eqL (r:=zoj) (by rw[Go.ByteArray.toList_eq];rfl) h3
     cases h4:decide (s=zik) with
     |true =>
      have q4:(s.toList==[108,101,109,109,97])=true:=eqL (r:=zik) (by rw[Go.ByteArray.toList_eq];rfl) h4
      have HB:=Lib.hid (show zcg s=true by rw[HR.out];simp only[h0,h1,h2,h3,h4,Bool.true_or,Bool.false_or])
      clear h0 h1 h2 h3 h4
      go_enter Tryz.func70,Tryz.ntmps70
      go_wp2_with fail
      go_ret
      exact⟨ze HB.out.symm,rfl⟩
     |false =>
      have q4:(s.toList==[108,101,109,109,97])=false:=eqL (r:=zik) (by rw[Go.ByteArray.toList_eq];rfl) h4
      cases h5:decide (s=zok) with
      |true =>
       have q5:(s.toList==[116,104,101,111,114,101,109])=true:=eqL (r:=zok) (by rw[Go.ByteArray.toList_eq];rfl) h5
       have HB:=Lib.hid (show zcg s=true by rw[HR.out];simp only[h0,h1,h2,h3,h4,h5,Bool.true_or,Bool.false_or])
       clear h0 h1 h2 h3 h4 h5
       go_enter Tryz.func70,Tryz.ntmps70
       go_wp2_with fail
       go_ret
       exact⟨ze HB.out.symm,rfl⟩
      |false =>
       have q5:(s.toList==[116,104,101,111,114,101,109])=false:=eqL (r:=zok) (by rw[Go.ByteArray.toList_eq];rfl) h5
       cases h6:decide (s=zol) with
       |true =>
        have q6:(s.toList==[99,111,114,111,108,108,97,114,121])=true:=eqL (r:=zol) (by rw[Go.ByteArray.toList_eq];rfl) h6
        have HB:=Lib.hid (show zcg s=true by rw[HR.out];simp only[h0,h1,h2,h3,h4,h5,h6,Bool.true_or,Bool.false_or])
        clear h0 h1 h2 h3 h4 h5 h6
        go_enter Tryz.func70,Tryz.ntmps70
        go_wp2_with fail
        go_ret
        exact⟨ze HB.out.symm,rfl⟩
       |false =>
        have q6:(s.toList==[99,111,114,111,108,108,97,114,121])=false:=eqL (r:=zol) (by rw[Go.ByteArray.toList_eq];rfl) h6
        cases h7:decide (s=zil) with
        |true =>
         have q7:(s.toList==[112,108,97,105,110])=true:=eqL (r:=zil) (by rw[Go.ByteArray.toList_eq];rfl) h7
         have HB:=Lib.hid (show zcg s=true by rw[HR.out];simp only[h0,h1,h2,h3,h4,h5,h6,h7,Bool.true_or,Bool.false_or])
         clear h0 h1 h2 h3 h4 h5 h6 h7
         go_enter Tryz.func70,Tryz.ntmps70
         go_wp2_with fail
         go_ret
         exact⟨ze HB.out.symm,rfl⟩
        |false =>
         have q7:(s.toList==[112,108,97,105,110])=false:=eqL (r:=zil) (by rw[Go.ByteArray.toList_eq];rfl) h7
         cases h8:decide (s=zf0) with
         |true =>
          have q8:(s.toList==[99,111,110,106,101,99,116,117,114,101])=true:=eqL (r:=zf0) (by rw[Go.ByteArray.toList_eq];rfl) h8
          have HB:=Lib.hid (show zcg s=true by rw[HR.out];simp only[h0,h1,h2,h3,h4,h5,h6,h7,h8,Bool.true_or,Bool.false_or])
          clear h0 h1 h2 h3 h4 h5 h6 h7 h8
          go_enter Tryz.func70,Tryz.ntmps70
          go_wp2_with fail
          go_ret
          exact⟨ze HB.out.symm,rfl⟩
         |false =>
          have q8:(s.toList==[99,111,110,106,101,99,116,117,114,101])=false:=eqL (r:=zf0) (by rw[Go.ByteArray.toList_eq];rfl) h8
          cases h9:decide (s=zom) with
          |true =>
           have q9:(s.toList==[110,101,103,97,116,101,100,95,99,111,110,106,101,99,116,117,114,101])=true:=eqL (r:=zom) (by rw[Go.ByteArray.toList_eq];rfl) h9
           have HB:=Lib.hid (show zcg s=true by rw[HR.out];simp only[h0,h1,h2,h3,h4,h5,h6,h7,h8,h9,Bool.false_or])
           clear h0 h1 h2 h3 h4 h5 h6 h7 h8 h9
           go_enter Tryz.func70,Tryz.ntmps70
           go_wp2_with fail
           go_ret
           exact⟨ze HB.out.symm,rfl⟩
          |false =>
           have q9:(s.toList==[110,101,103,97,116,101,100,95,99,111,110,106,101,99,116,117,114,101])=false:=eqL (r:=zom) (by rw[Go.ByteArray.toList_eq];rfl) h9
           have HB:=Lib.hid (show zcg s=false by rw[HR.out];simp only[h0,h1,h2,h3,h4,h5,h6,h7,h8,h9,Bool.or_false])
           clear h0 h1 h2 h3 h4 h5 h6 h7 h8 h9
           go_enter Tryz.func70,Tryz.ntmps70
           go_wp2_with fail
           go_ret
           exact⟨ze HB.out.symm,rfl⟩
theorem zos (s:ByteArray) (w:World):Calls Tryz.prog 73 #[.string s] w fun e w'=>e=.returned (.bool (zcg s))∧w=w':=by
 have HR:=Lib.hid (zsr s)
 cases h0:decide (s=zij) with
 |true =>
  have q0:(s.toList==[97,120,105,111,109])=true:=eqL (r:=zij) (by rw[Go.ByteArray.toList_eq];rfl) h0
  have HB:=Lib.hid (show zcg s=true by rw[HR.out];simp only[h0,Bool.true_or])
  clear h0
  go_enter Tryz.func73,Tryz.ntmps73
  go_wp2_with fail
  go_ret
  exact⟨ze HB.out.symm,rfl⟩
 |false =>
  have q0:(s.toList==[97,120,105,111,109])=false:=eqL (r:=zij) (by rw[Go.ByteArray.toList_eq];rfl) h0
  cases h1:decide (s=zoh) with
  |true =>
   have q1:(s.toList==[104,121,112,111,116,104,101,115,105,115])=true:=eqL (r:=zoh) (by rw[Go.ByteArray.toList_eq];rfl) h1
   have HB:=Lib.hid (show zcg s=true by rw[HR.out];simp only[h0,h1,Bool.true_or,Bool.false_or])
   clear h0 h1
   go_enter Tryz.func73,Tryz.ntmps73
   go_wp2_with fail
   go_ret
   exact⟨ze HB.out.symm,rfl⟩
  |false =>
   have q1:(s.toList==[104,121,112,111,116,104,101,115,105,115])=false:=eqL (r:=zoh) (by rw[Go.ByteArray.toList_eq];rfl) h1
   cases h2:decide (s=zoi) with
   |true =>
    have q2:(s.toList==[100,101,102,105,110,105,116,105,111,110])=true:=eqL (r:=zoi) (by rw[Go.ByteArray.toList_eq];rfl) h2
    have HB:=Lib.hid (show zcg s=true by rw[HR.out];simp only[h0,h1,h2,Bool.true_or,Bool.false_or])
    clear h0 h1 h2
    go_enter Tryz.func73,Tryz.ntmps73
    go_wp2_with fail
    go_ret
    exact⟨ze HB.out.symm,rfl⟩
   |false =>
    have q2:(s.toList==[100,101,102,105,110,105,116,105,111,110])=false:=eqL (r:=zoi) (by rw[Go.ByteArray.toList_eq];rfl) h2
    cases h3:decide (s=zoj) with
    |true =>
     have q3:(s.toList==[97,115,115,117,109,112,116,105,111,110])=true:=eqL (r:=zoj) (by rw[Go.ByteArray.toList_eq];rfl) h3
     have HB:=Lib.hid (show zcg s=true by rw[HR.out];simp only[h0,h1,h2,h3,Bool.true_or,Bool.false_or])
     clear h0 h1 h2 h3
     go_enter Tryz.func73,Tryz.ntmps73
     go_wp2_with fail
     go_ret
     exact⟨ze HB.out.symm,rfl⟩
    |false =>
     have q3:(s.toList==[97,115,115,117,109,112,116,105,111,110])=false:=eqL (r:=zoj) (by rw[Go.ByteArray.toList_eq];rfl) h3
     cases h4:decide (s=zik) with
     |true =>
      have q4:(s.toList==[108,101,109,109,97])=true:=eqL (r:=zik) (by rw[Go.ByteArray.toList_eq];rfl) h4
      have HB:=Lib.hid (show zcg s=true by rw[HR.out];simp only[h0,h1,h2,h3,h4,Bool.true_or,Bool.false_or])
      clear h0 h1 h2 h3 h4
      go_enter Tryz.func73,Tryz.ntmps73
      go_wp2_with fail
      go_ret
      exact⟨ze HB.out.symm,rfl⟩
     |false =>
      have q4:(s.toList==[108,101,109,109,97])=false:=eqL (r:=zik) (by rw[Go.ByteArray.toList_eq];rfl) h4
      cases h5:decide (s=zok) with
      |true =>
       have q5:(s.toList==[116,104,101,111,114,101,109])=true:=eqL (r:=zok) (by rw[Go.ByteArray.toList_eq];rfl) h5
       have HB:=Lib.hid (show zcg s=true by rw[HR.out];simp only[h0,h1,h2,h3,h4,h5,Bool.true_or,Bool.false_or])
       clear h0 h1 h2 h3 h4 h5
       go_enter Tryz.func73,Tryz.ntmps73
       go_wp2_with fail
       go_ret
       exact⟨ze HB.out.symm,rfl⟩
      |false =>
       have q5:(s.toList==[116,104,101,111,114,101,109])=false:=eqL (r:=zok) (by rw[Go.ByteArray.toList_eq];rfl) h5
       cases h6:decide (s=zol) with
       |true =>
        have q6:(s.toList==[99,111,114,111,108,108,97,114,121])=true:=eqL (r:=zol) (by rw[Go.ByteArray.toList_eq];rfl) h6
        have HB:=Lib.hid (show zcg s=true by rw[HR.out];simp only[h0,h1,h2,h3,h4,h5,h6,Bool.true_or,Bool.false_or])
        clear h0 h1 h2 h3 h4 h5 h6
        go_enter Tryz.func73,Tryz.ntmps73
        go_wp2_with fail
        go_ret
        exact⟨ze HB.out.symm,rfl⟩
       |false =>
        have q6:(s.toList==[99,111,114,111,108,108,97,114,121])=false:=eqL (r:=zol) (by rw[Go.ByteArray.toList_eq];rfl) h6
        cases h7:decide (s=zil) with
        |true =>
         have q7:(s.toList==[112,108,97,105,110])=true:=eqL (r:=zil) (by rw[Go.ByteArray.toList_eq];rfl) h7
         have HB:=Lib.hid (show zcg s=true by rw[HR.out];simp only[h0,h1,h2,h3,h4,h5,h6,h7,Bool.true_or,Bool.false_or])
         clear h0 h1 h2 h3 h4 h5 h6 h7
         go_enter Tryz.func73,Tryz.ntmps73
         go_wp2_with fail
         go_ret
         exact⟨ze HB.out.symm,rfl⟩
        |false =>
         have q7:(s.toList==[112,108,97,105,110])=false:=eqL (r:=zil) (by rw[Go.ByteArray.toList_eq];rfl) h7
         cases h8:decide (s=zf0) with
         |true =>
          have q8:(s.toList==[99,111,110,106,101,99,116,117,114,101])=true:=eqL (r:=zf0) (by rw[Go.ByteArray.toList_eq];rfl) h8
          have HB:=Lib.hid (show zcg s=true by rw[HR.out];simp only[h0,h1,h2,h3,h4,h5,h6,h7,h8,Bool.true_or,Bool.false_or])
          clear h0 h1 h2 h3 h4 h5 h6 h7 h8
          go_enter Tryz.func73,Tryz.ntmps73
          go_wp2_with fail
          go_ret
          exact⟨ze HB.out.symm,rfl⟩
         |false =>
          have q8:(s.toList==[99,111,110,106,101,99,116,117,114,101])=false:=eqL (r:=zf0) (by rw[Go.ByteArray.toList_eq];rfl) h8
          cases h9:decide (s=zom) with
          |true =>
           have q9:(s.toList==[110,101,103,97,116,101,100,95,99,111,110,106,101,99,116,117,114,101])=true:=eqL (r:=zom) (by rw[Go.ByteArray.toList_eq];rfl) h9
           have HB:=Lib.hid (show zcg s=true by rw[HR.out];simp only[h0,h1,h2,h3,h4,h5,h6,h7,h8,h9,Bool.false_or])
           clear h0 h1 h2 h3 h4 h5 h6 h7 h8 h9
           go_enter Tryz.func73,Tryz.ntmps73
           go_wp2_with fail
           go_ret
           exact⟨ze HB.out.symm,rfl⟩
          |false =>
           have q9:(s.toList==[110,101,103,97,116,101,100,95,99,111,110,106,101,99,116,117,114,101])=false:=eqL (r:=zom) (by rw[Go.ByteArray.toList_eq];rfl) h9
           have HB:=Lib.hid (show zcg s=false by rw[HR.out];simp only[h0,h1,h2,h3,h4,h5,h6,h7,h8,h9,Bool.or_false])
           clear h0 h1 h2 h3 h4 h5 h6 h7 h8 h9
           go_enter Tryz.func73,Tryz.ntmps73
           go_wp2_with fail
           go_ret
           exact⟨ze HB.out.symm,rfl⟩
theorem zss:(Tryz.prog.info? 9).map (fun i=>(i.zero,i.size,i.bytes))=some (some (.string ⟨#[]⟩),1,16):=by kernel_rfl
theorem zt4 {P:Nat→Prop}{w:World}:∀ {l:List ByteArray}{b o:Nat},IsStrs P w (some ⟨b,o,none⟩) l→(∀j u,(l.map Value.string)[j]?=some u→w.cell? ⟨b,o+j,none⟩=some u)∧∀s∈l,s.size≤1073741824
 |l,b,o,h=>by
  refine⟨fun j u hj=>?_,fun s hs=>?_⟩
  ·obtain⟨hj1,hj2⟩:=List.getElem?_eq_some_iff.1 hj
   rw[List.length_map]at hj1
   obtain⟨b',o',he,-,hc,-⟩:=h.look hj1
   injection he with he;injection he with e1 e2 _
   subst e1;subst e2;subst hj2
   rw[List.getElem_map];exact hc
  ·obtain⟨i,hi,rfl⟩:=List.getElem_of_mem hs
   obtain⟨_,_,-,-,-,hz⟩:=h.look hi
   exact hz
theorem zst {P:Nat→Prop}{w:World}:∀ {l:List ByteArray}{cs:List (List Value)},cs.length=l.length→(∀j (h:j<l.length) (h':j<cs.length),(zz 1).is P w cs[j] [Dat.str l[j]])→cs.flatten=l.map Value.string∧∀s∈l,s.size≤1073741824
 |[],cs,hl,_=>by
  have:cs=[]:=List.eq_nil_of_length_eq_zero hl
  subst this;simp
 |s::l,cs,hl,h=>by
  cases cs with
  |nil=>simp at hl
  |cons c cs =>
   obtain⟨h1,h2⟩:=zst (l:=l) (cs:=cs) (by simpa using hl) (fun j hj hj'=>by have:=h (j+1) (by simpa using hj) (by simpa using hj');simpa using this)
   obtain⟨h3,h4⟩:=h 0 (by simp) (by simp)
   simp only[List.getElem_cons_zero]at h3 h4
   match c,h3,h4 with
   |[v],_,h4 =>
    obtain⟨⟨h5,h6⟩,-⟩:=h4
    subst h5
    refine⟨by rw[List.flatten_cons,h1];rfl,fun x hx=>?_⟩
    rcases List.mem_cons.1 hx with rfl|hx
    ·exact h6
    ·exact h2 x hx
theorem StrRow.own {B:Nat}{w:World}{v:Value}{l:List ByteArray}(h:StrRow B w v l):w.ownsRow B 9 1 v l.length (l.map Value.string)∧∀s∈l,s.size≤1073741824:=by
 obtain⟨cs,h1,h2,h3⟩:=h
 rw[List.length_map]at h1 h2
 obtain⟨h4,h5⟩:=zst (l:=l) (cs:=cs) h1 (fun j hj hj'=>by have:=h3 j (by simpa using hj) hj';simpa using this)
 rw[h4]at h2
 exact⟨h2,h5⟩
theorem zot:∀l:List ByteArray,(l.map fun s=>[Value.string s]).flatten=l.map Value.string
 |[]=>rfl
 |s::l=>by rw[List.map_cons,List.flatten_cons,zot l];rfl
theorem StrRow.of {B:Nat}{w:World}{v:Value}{l:List ByteArray}(h:w.ownsRow B 9 1 v l.length (l.map Value.string)) (hs:∀s∈l,s.size≤1073741824):StrRow B w v l:=by
 refine⟨l.map fun s=>[.string s],by simp,?_,fun j hj hj'=>?_⟩
 ·rw[zot,List.length_map];exact h
 ·have hj1:j<l.length:=by simpa using hj
  simp only[List.getElem_map]
  exact⟨rfl,⟨rfl,hs _ (List.getElem_mem hj1)⟩,trivial⟩
theorem StrRow.nil {B:Nat}{w:World}:StrRow B w (.slice none 0 0) []:=GRow.nil
theorem StrRow.own_ge {B:Nat}{w:World}{v:Value}{l:List ByteArray}(h:StrRow B w v l){g:Nat}(hg:v.ownBlock=some g):B≤g∧g<w.heap.size:=GRow.own_ge h hg
theorem zrl (w:World) (n:ByteArray) (hn:n.size≤1073741824):IsStrs (fun _=>True) (w.alloc (.cells #[.string n] 9)) (some ⟨w.heap.size,0,none⟩) [n]:=by
 refine⟨w.heap.size,0,[.string n],rfl,trivial,by simp,fun i u hi=>?_,⟨⟨rfl,hn⟩,trivial⟩,trivial⟩
 have hb:=heap_alloc_new w (.cells #[.string n] 9)
 unfold World.cell?
 rw[hb]
 simpa using hi
theorem zjt {B:Nat}{w:World}{v:Value}{l xs:List ByteArray}(hrow:StrRow B w v l){P:Nat→Prop}{b:Option Addr}{c:Nat}(h:IsStrs P w b xs) (hlen:l.length+xs.length≤8388608) (hbase:B≤w.heap.size) (ty:TypeId) :
  ∃v' w',(Builtin.append_ #[25,25] ty #[v,.slice b xs.length c]).run Tryz.prog w=.ok v' w'∧StrRow B w' v' (l++xs)∧RFr w v w' v':=by
 obtain⟨i0,hi0,hz0,hz1,hz2⟩:=info_parts zss
 obtain⟨ho,hs⟩:=hrow.own
 cases b with
 |none =>
  have hx:xs=[]:=by
   cases xs with
   |nil=>rfl
   |cons s xs=>obtain⟨_,_,he,-⟩:=h.look (i:=0) (by simp);cases he
  subst hx
  refine⟨v,w,?_,by rw[List.append_nil];exact hrow,RFr.refl _ _⟩
  rcases ho.2 with ⟨rfl,h0⟩|⟨g,cap,cur,rfl,_,_,hnc,_⟩
  ·simp[Builtin.append_,run_underlying Tryz.underlying25,sizeOf,typeInfo,hi0,Builtin.lenOf,Builtin.firstCells]
  ·simp[Builtin.append_,run_underlying Tryz.underlying25,sizeOf,typeInfo,hi0,Builtin.lenOf,Builtin.firstCells,hnc,storeCells]
 |some a =>
  have hnews:(∀j u,(xs.map Value.string)[j]?=some u→w.cell? (a.add j)=some u)∧∀s∈xs,s.size≤1073741824:=by
   cases xs with
   |nil=>exact⟨fun j u hj=>by simp at hj,fun s hs=>by cases hs⟩
   |cons s xs =>
    obtain⟨b',o',he,-⟩:=h.look (i:=0) (by simp)
    injection he with he
    subst he
    obtain⟨h1,h2⟩:=zt4 h
    exact⟨fun j u hj=>by rw[add_plain];exact h1 j u hj,h2⟩
  obtain⟨v',w',hr,h1,h2,-,h4⟩:=run_append_own_at w B 25 ty 9 i0 _ 1 16 Tryz.underlying25 hi0 hz0 hz1 hz2 rfl (by decide) v l.length (l.map Value.string) ho a xs.length c (xs.map Value.string) (by simp) hnews.1
   (by intro u hu;obtain⟨s,-,rfl⟩:=List.mem_map.1 hu;rfl) (by simp only[maxLen];omega) (by omega) hbase
  refine⟨v',w',hr,StrRow.of (by rw[List.map_append,List.length_append];exact h1) (fun s hm=>by rcases List.mem_append.1 hm with hm|hm;exact hs s hm;exact hnews.2 s hm),⟨Chg.of_grown h2 (fun g hg=>.inl (by simp[hg])),?_⟩⟩
  rcases h4 with h4|h4
  ·exact .inl h4
  ·refine .inr fun g hg=>?_
   rw[h4]at hg
   injection hg with hg
   omega
theorem zf8 {o:Oper}{a:Act}{w:World}{K:Act→World→Prop}{Q:Exit→Act→World→Prop}(s x:Operand)
  (ho:o.op=.call { callee:=.builtin .append,args:=#[s,x],argTypes:=#[25,25] }){B:Nat}{v:Value}{l xs:List ByteArray}(hs:a.eval s=v) (hrow:StrRow B w v l){P:Nat→Prop}{b:Option Addr}{c:Nat}(hx:a.eval x=.slice b xs.length c) (h:IsStrs P w b xs)
  (hlen:l.length+xs.length≤8388608) (hbase:B≤w.heap.size) (hK:∀v' w',StrRow B w' v' (l++xs)→RFr w v w' v'→K (a.put o.dst v') w'):o.wp Tryz.prog a w K Q:=by
 obtain⟨v',w',hr,h2,h3⟩:=zjt hrow h hlen hbase o.type (c:=c)
 unfold Oper.wp execOp
 simp only[ho,resolve,invoke,builtin,Sem.run_bind,Sem.run_pure,Result.andThen_ok,List.map_toArray,List.map_cons,List.map_nil,hs,hx,hr]
 exact hK v' w' h2 h3
theorem zd0 {ops:Array Oper}{rest:List Oper}{o:Oper}{a:Act}{w:World}{Q:Exit→Act→World→Prop}(hgd:o.guard=none) (s x:Operand)
  (ho:o.op=.call { callee:=.builtin .append,args:=#[s,x],argTypes:=#[25,25] }){B:Nat}{v:Value}{l xs:List ByteArray}(hs:a.eval s=v) (hrow:StrRow B w v l){P:Nat→Prop}{b:Option Addr}{c:Nat}(hx:a.eval x=.slice b xs.length c) (h:IsStrs P w b xs)
  (hlen:l.length+xs.length≤8388608) (hbase:B≤w.heap.size) (hK:∀v' w',StrRow B w' v' (l++xs)→RFr w v w' v'→wpList Tryz.prog ops Q rest (a.put o.dst v') w'):wpList Tryz.prog ops Q (o::rest) a w :=
 wpList_plain hgd fun _ hK'=>zf8 s x ho hs hrow hx h hlen hbase fun v' w' h1 h2=>hK' _ _ (hK v' w' h1 h2)
theorem zc9 {ops:Array Oper}{o:Oper}{a:Act}{w:World}{K:Act→World→Prop}{Q:Exit→Act→World→Prop}{F:Prop}(hgd:o.guard=none) (s x:Operand)
  (ho:o.op=.call { callee:=.builtin .append,args:=#[s,x],argTypes:=#[25,25] }){B:Nat}{v:Value}{l xs:List ByteArray}(hs:a.eval s=v) (hrow:StrRow B w v l){P:Nat→Prop}{b:Option Addr}{c:Nat}(hx:a.eval x=.slice b xs.length c) (h:IsStrs P w b xs)
  (hlen:l.length+xs.length≤8388608) (hbase:B≤w.heap.size) (hK:∀v' w',StrRow B w' v' (l++xs)→RFr w v w' v'→K (a.put o.dst v') w'):if Region.wanted o (yielded ops a.tmps)=true then Oper.wp Tryz.prog o a w K Q else F:=by
 have hw:Region.wanted o (yielded ops a.tmps)=true:=by simp[Region.wanted,hgd]
 rw[if_pos hw]
 exact zf8 s x ho hs hrow hx h hlen hbase hK
def Ab':Nat→Prop:=fun _=>True
theorem zvo (a b:ByteArray):(a.toList==b.toList)=decide (a=b):=by
 by_cases h:a=b
 ·subst h;simp
 ·rw[decide_eq_false h,beq_eq_false_iff_ne]
  intro he;apply h;apply ByteArray.ext;apply Array.toList_inj.1
  rw[Go.ByteArray.toList_eq,Go.ByteArray.toList_eq]at he;exact he
theorem zou {l:List ByteArray}(hn:l.length≤1073741824){P:Nat→Prop}{w:World}{a:Option Addr}{c:Nat}(h:IsStrs P w a l) (s:ByteArray) :
  Calls Tryz.prog 194 #[.slice a l.length c,.string s] w fun e w'=>e=.returned (.bool (inB l s))∧w=w':=by
 go_enter Tryz.func194,Tryz.ntmps194
 go_wp2_with fail
 go_loopw [5] (fun iv wr=>∃k:Nat,k≤l.length∧iv=.int .i64 k∧wr=w∧inB (l.take k) s=false) (fun i _=>l.length-(intOf i).toNat)
 case atStart=>exact⟨0,Nat.zero_le _,rfl,rfl,rfl⟩
 case round =>
  obtain⟨k,hkk,rfl,hwr,hm⟩:=hrel
  have HM:=Lib.hid hm
  subst hwr
  clear hm
  by_cases hlt:k<l.length
  ·have hk1:(k:Int)<l.length:=by omega
   obtain⟨b,o,rfl,-,g1,-⟩:=h.look hlt
   have HST:=Lib.hid (zsm hlt s)
   have hq:=zvo l[k] s
   by_cases he:l[k]=s
   ·rw[decide_eq_true he]at hq HST
    have HR:=Lib.hid (show inB l s=true by unfold inB;rw[List.any_eq_true];exact⟨_,List.getElem_mem hlt,decide_eq_true he⟩)
    clear he
    go_wp2_with fail
    go_ret
    refine⟨?_,rfl⟩
    rw[HR.out];rfl
   ·rw[decide_eq_false he]at hq HST
    clear he
    go_wp2_with fail
    go_roundw
    case rel=>exact⟨k+1,by omega,by go_num,by first|rfl|trivial,by rw[HST.out,HM.out];rfl⟩
    case measure=>simp[intOf];omega
  ·have hk1:¬(k:Int)<l.length:=by omega
   have hke:k=l.length:=by omega
   have HR:=Lib.hid (show inB l s=false by have h1:=HM.out;rw[hke,List.take_length]at h1;exact h1)
   clear hke
   go_wp2_with fail
   go_ret
   refine⟨?_,rfl⟩
   rw[HR.out];rfl
def zsu (B:Nat) (w:World) (v:Value) (l:List ByteArray) (e:Ending) (w':World):Prop:=∃v',e=.returned v'∧StrRow B w' v' l∧RFr w v w' v'
theorem zmw (t:Ex):∀(P Q:Nat→Prop) (w:World) (x y z:Value) (bd:List ByteArray) (ba:Option Addr) (bc B:Nat) (v:Value) (out:List ByteArray),IsEx P w x y z t→t.size≤4194304→IsStrs Q w ba bd→bd.length≤8388608 →
  (∀b,P b→v.ownBlock≠some b)→(∀b,Q b→v.ownBlock≠some b)→B≤w.heap.size→StrRow B w v out→out.length+t.size≤8388608 →
  Calls Tryz.prog 185 #[.agg #[x,y,z],.slice ba bd.length bc,v] w (zsu B w v (t.free bd out)):=by
 induction t using Ex.ind with
 |h vr nm l ih =>
  intro P Q w x y z bd ba bc B v out ht hs hbd hbl hP hQ hBw hrow hlen
  obtain⟨a,c,rfl,rfl,rfl,hn,hc1,hk⟩:=ht.form
  simp only[Ex.var,Ex.name,Ex.args]at hn hc1 hk ⊢
  simp only[Ex.size]at hs hlen
  have hkl:=Ex.length_le_sizes l
  obtain⟨va,vc,rfl,hvc,hvs⟩:=hrow.strs
  obtain⟨W,hW⟩:∃W,W=w.alloc (.cells #[.bool vr,.string nm,.slice a l.length c] 73):=⟨_,rfl⟩
  have hxW:Ext w W:=by rw[hW];exact zd _ _
  have hsW:w.heap.size<W.heap.size:=by rw[hW];simp
  have hb3:Own W w.heap.size [.bool vr,.string nm,.slice a l.length c]:=by rw[hW];exact own3 w _ _ _ _
  obtain⟨k0,-⟩:=hb3 0 _ rfl
  obtain⟨k1,-⟩:=hb3 1 _ rfl
  obtain⟨k2,-⟩:=hb3 2 _ rfl
  have hrowW:=hrow.ext hxW
  have hown:∀g,(Value.slice va out.length vc).ownBlock=some g→B≤g∧g<w.heap.size:=fun g hg=>StrRow.own_ge hrow hg
  have hkW:=hk.ext hxW
  have hbdW:=hbd.ext hxW
  obtain⟨out1,hout1⟩:∃o,o=(if vr&&!(inB bd nm)&&!(inB out nm)then out++[nm]else out):=⟨_,rfl⟩
  have HT:=Lib.hid (show(Ex.mk vr nm l).free bd out=Ex.frees bd out1 l by rw[hout1];simp only[Ex.free])
  have hl1:out1.length≤out.length+1:=by rw[hout1];split<;>simp
  generalize (Ex.mk vr nm l).free bd out=TT at HT ⊢
  have HI1:=Lib.hid (zou (c:=bc) (by omega) hbdW nm)
  have HI2:=Lib.hid (zou (c:=vc) (by omega) (hvs.ext hxW) nm)
  have HIH:=Lib.hid (fun (k:Nat) (h:k<l.length) (P Q:Nat→Prop) w' (v':Value) (out':List ByteArray) a' b' c' (hb:IsStrs Q w' ba bd) (hP':∀b,P b→v'.ownBlock≠some b) (hQ':∀b,Q b→v'.ownBlock≠some b) (hBw':B≤w'.heap.size) (hr:StrRow B w' v' out') (hl:out'.length+l[k].size≤8388608) (hi:IsEx P w' a' b' c' l[k]) =>
   ih _ (List.getElem_mem h) P Q w' a' b' c' bd ba bc B v' out' hi (by have:=Ex.size_le_sizes h;omega) hb hbl hP' hQ' hBw' hr hl)
  have Hlen:=Lib.hid (fun (k:Nat) (h:k<l.length)=>show(Ex.frees bd out1 (l.take k)).length+l[k].size≤8388608 by
   have h1:=Ex.frees_len (l.take k) bd out1
   have h2:=Ex.sizes_take h
   have h3:=Ex.sizes_take_le l (k+1)
   omega)
  clear ih ht hrow hk hbd hvs
  generalize inB bd nm=b1 at HI1 hout1
  generalize inB out nm=b2 at HI2 hout1
  cases vr<;>cases b1<;>cases b2
  all_goals
   first
    |(have ho:out1=out:=hout1
      have hrow1:StrRow B W (.slice va out.length vc) out1:=by rw[ho];exact hrowW
      have hr1:=RFr.refl W (.slice va out.length vc)
      have Ho:=Lib.hid ho
      clear ho)
    |(have ho:out1=out++[nm]:=hout1
      have Ho:=Lib.hid ho
      clear ho)
   clear hout1
   go_enter Tryz.func185,Tryz.ntmps185
   go_upto_region 1 with fail
   rw[←hW]
   clear hW
   go_wp2_with (first
    |(go_at_call 194;with_reducible refine(HI1.out).mono ?_;rintro e w1 ⟨rfl,rfl⟩)
    |(go_at_call 194;with_reducible refine(HI2.out).mono ?_;rintro e w1 ⟨rfl,rfl⟩)
    |(at_builtin;refine zd0 rfl _ _ rfl (xs:=[nm]) rfl (hrowW.ext (zd _ (.cells #[.string nm] 9))) rfl (zrl W nm hn) (by simp only[List.length_cons,List.length_nil];omega) (by simp;omega) ?_;intro v1 w1 hrow4 hr4
      (have hrow1:StrRow B w1 v1 out1:=by rw[Ho.out];exact hrow4)
      (have hr1:RFr W (.slice va out.length vc) w1 v1:=(RFr.of_ext (zd W _) _).trans hr4)))
   clear HI1 HI2 k0 k1 hrowW
   go_loopw [2,7] (fun ov iv wr=>∃k:Nat,k≤l.length∧iv=.int .i64 k∧StrRow B wr ov (Ex.frees bd out1 (l.take k))∧RFr W (.slice va out.length vc) wr ov) (fun _ i _=>l.length-(intOf i).toNat)
   case atStart=>exact⟨0,Nat.zero_le _,rfl,by simpa[Ex.frees]using hrow1,hr1⟩
   case round =>
    obtain⟨k,hkk,rfl,hrow,hrf⟩:=hrel
    have m2:=hrf.cell k2 (fun hm=>by have:=hown w.heap.size hm;omega)
    have hsr:=hrf.chg.size
    by_cases hlt:k<l.length
    ·have hk1:(k:Int)<l.length:=by omega
     obtain⟨b',o',a',c',rfl,-,g1,g2,g3,hi⟩:=IsExs.look (hrf.rows hP hkW) hlt
     have HH:=Lib.hid (HIH.out k hlt _ _ wr _ _ _ _ _ (hrf.rows hQ hbdW) (hrf.ne hP) (hrf.ne hQ) (by omega) hrow (Hlen.out k hlt) hi)
     have Hst:=Lib.hid (Ex.frees_take (bd:=bd) (out:=out1) hlt)
     clear hi
     go_wp2_with (go_at_call 185;refine(HH.out).mono ?_;rintro e w3 ⟨v3,rfl,hrow3,hrf3⟩)
     go_roundw
     case rel=>exact⟨k+1,by omega,by go_num,by rw[Hst.out];exact hrow3,hrf.trans hrf3⟩
     case measure=>simp[intOf];omega
    ·have hk1:¬(k:Int)<l.length:=by omega
     have hke:k=l.length:=by omega
     rw[hke,List.take_length]at hrow
     clear hke
     go_wp2_with fail
     go_ret
     exact⟨_,rfl,by rw[HT.out];exact hrow,(RFr.of_ext hxW _).trans hrf⟩
theorem zmx (t:Fm):∀(P Q:Nat→Prop) (w:World) (x y z u:Value) (bd:List ByteArray) (ba:Option Addr) (bc B:Nat) (v:Value) (out:List ByteArray),IsFm P w x y z u t→t.size≤4194304→IsStrs Q w ba bd→bd.length+t.size≤8388608 →
  (∀b,P b→v.ownBlock≠some b)→(∀b,Q b→v.ownBlock≠some b)→B≤w.heap.size→StrRow B w v out→out.length+t.size≤8388608 →
  Calls Tryz.prog 164 #[.agg #[x,y,z,u],.slice ba bd.length bc,v] w (zsu B w v (t.free bd out)):=by
 induction t using Fm.ind with
 |h op vs ts l ih =>
  intro P Q w x y z u bd ba bc B v out ht hs hbd hbl hP hQ hBw hrow hlen
  obtain⟨va1,vc1,ta,tc,aa,cc,rfl,rfl,rfl,rfl,-,-,hvc,htc,hlc,hvs,hts,hls⟩:=ht.form
  simp only[Fm.op,Fm.vars,Fm.terms,Fm.args]at hvc htc hlc hvs hts hls ⊢
  simp only[Fm.size]at hs hlen hbl
  have hkl:=Ex.length_le_sizes ts
  have hll:=Fm.length_le_sizes l
  obtain⟨W,hW⟩:∃W,W=w.alloc (.cells #[.int .i64 op,.slice va1 vs.length vc1,.slice ta ts.length tc,.slice aa l.length cc] 29):=⟨_,rfl⟩
  have hxW:Ext w W:=by rw[hW];exact zd _ _
  have hsW:w.heap.size<W.heap.size:=by rw[hW];simp
  have hb4:Own W w.heap.size [.int .i64 op,.slice va1 vs.length vc1,.slice ta ts.length tc,.slice aa l.length cc]:=by rw[hW];exact own4 w _ _ _ _ _
  obtain⟨k0,-⟩:=hb4 0 _ rfl
  obtain⟨k1,-⟩:=hb4 1 _ rfl
  obtain⟨k2,-⟩:=hb4 2 _ rfl
  obtain⟨k3,-⟩:=hb4 3 _ rfl
  have hrowW:=hrow.ext hxW
  have hown:∀g,v.ownBlock=some g→B≤g∧g<w.heap.size:=fun g hg=>StrRow.own_ge hrow hg
  have hnw:v.ownBlock≠some w.heap.size:=fun hm=>by have:=hown w.heap.size hm;omega
  have hbdW:=hbd.ext hxW
  have htsW:=hts.ext hxW
  have hlsW:=hls.ext hxW
  have hvsW:=hvs.ext hxW
  have HT:=Lib.hid (show(Fm.mk op vs ts l).free bd out=Fm.frees (if zgn op then bd++vs else bd) (Ex.frees bd out ts) l by simp only[Fm.free])
  generalize (Fm.mk op vs ts l).free bd out=TT at HT ⊢
  have HE:=Lib.hid (fun (k:Nat) (h:k<ts.length) (P Q:Nat→Prop) w' (v':Value) (out':List ByteArray) a' b' c' (hb:IsStrs Q w' ba bd) (hP':∀b,P b→v'.ownBlock≠some b) (hQ':∀b,Q b→v'.ownBlock≠some b) (hBw':B≤w'.heap.size) (hr:StrRow B w' v' out') (hl:out'.length+ts[k].size≤8388608) (hi:IsEx P w' a' b' c' ts[k]) =>
   zmw _ P Q w' a' b' c' bd ba bc B v' out' hi (by have:=Ex.size_le_sizes h;omega) hb (by omega) hP' hQ' hBw' hr hl)
  have HIH:=Lib.hid (fun (k:Nat) (h:k<l.length) (P Q:Nat→Prop) w' bd' ba' bc' (v':Value) (out':List ByteArray) a' b' c' d' (hi:IsFm P w' a' b' c' d' l[k]) (hb':IsStrs Q w' ba' bd') (hbl':bd'.length+l[k].size≤8388608) (hP':∀b,P b→v'.ownBlock≠some b) (hQ':∀b,Q b→v'.ownBlock≠some b) (hBw':B≤w'.heap.size) (hr:StrRow B w' v' out') (hl:out'.length+l[k].size≤8388608) =>
   ih _ (List.getElem_mem h) P Q w' a' b' c' d' bd' ba' bc' B v' out' hi (by have:=Fm.size_le_sizes h;omega) hb' hbl' hP' hQ' hBw' hr hl)
  have Hlen:=Lib.hid (fun (k:Nat) (h:k<ts.length)=>show(Ex.frees bd out (ts.take k)).length+ts[k].size≤8388608 by
   have h1:=Ex.frees_len (ts.take k) bd out
   have h2:=Ex.sizes_take h
   have h3:=Ex.sizes_take_le ts (k+1)
   omega)
  have Hlen2:=Lib.hid (fun bd' (k:Nat) (h:k<l.length)=>show(Fm.frees bd' (Ex.frees bd out ts) (l.take k)).length+l[k].size≤8388608 by
   have h1:=Fm.frees_len (l.take k) bd' (Ex.frees bd out ts)
   have h4:=Ex.frees_len ts bd out
   have h2:=Fm.sizes_take h
   have h3:=Fm.sizes_take_le l (k+1)
   omega)
  have Hbl:=Lib.hid (fun (k:Nat) (h:k<l.length)=>show(bd++vs).length+l[k].size≤8388608 by
   have h2:=Fm.size_le_sizes h
   rw[List.length_append]
   omega)
  clear ih ht hrow hbd hts hls hvs
  go_enter Tryz.func164,Tryz.ntmps164
  go_upto_region 1 with fail
  rw[←hW]
  clear hW
  go_wp2_with fail
  go_loopw [2,7] (fun ov iv wr=>∃k:Nat,k≤ts.length∧iv=.int .i64 k∧StrRow B wr ov (Ex.frees bd out (ts.take k))∧RFr W v wr ov) (fun _ i _=>ts.length-(intOf i).toNat)
  case atStart=>exact⟨0,Nat.zero_le _,rfl,by simpa[Ex.frees]using hrowW,RFr.refl _ _⟩
  case round =>
   obtain⟨k,hkk,rfl,hrow,hrf⟩:=hrel
   generalize u2=ov at hrow hrf ⊢
   have m0:=hrf.cell k0 hnw
   have m1:=hrf.cell k1 hnw
   have m2:=hrf.cell k2 hnw
   have m3:=hrf.cell k3 hnw
   have hsr:=hrf.chg.size
   by_cases hlt:k<ts.length
   ·have hk1:(k:Int)<ts.length:=by omega
    obtain⟨b',o',a',c',rfl,-,g1,g2,g3,hi⟩:=IsExs.look (hrf.rows hP htsW) hlt
    have HH:=Lib.hid (HE.out k hlt _ _ wr _ _ _ _ _ (hrf.rows hQ hbdW) (hrf.ne hP) (hrf.ne hQ) (by omega) hrow (Hlen.out k hlt) hi)
    have Hst:=Lib.hid (Ex.frees_take (bd:=bd) (out:=out) hlt)
    clear hi
    go_wp2_with (go_at_call 185;refine(HH.out).mono ?_;rintro e w3 ⟨v3,rfl,hrow3,hrf3⟩)
    go_roundw
    case rel=>exact⟨k+1,by omega,by go_num,by rw[Hst.out];exact hrow3,hrf.trans hrf3⟩
    case measure=>simp[intOf];omega
   ·have hk1:¬(k:Int)<ts.length:=by omega
    have hke:k=ts.length:=by omega
    rw[hke,List.take_length]at hrow
    clear hke
    generalize wr=w5 at *
    have hPr:=hrf.ne hP
    have hQr:=hrf.ne hQ
    have hlsR:=hrf.rows hP hlsW
    have hbdR:=hrf.rows hQ hbdW
    have hvsR:=hrf.rows hP hvsW
    have hnw2:ov.ownBlock≠some w.heap.size:=hrf.ne (P:=fun b=>b=w.heap.size) (fun b hb=>by rw[hb];exact hnw) _ ⟨rfl,hsW⟩
    clear HE hlsW hbdW hvsW htsW hrowW k0 k1 k2 k3
    by_cases hop:op=11∨op=12
    ·have Hb:=Lib.hid (show zgn op=true by unfold zgn;rcases hop with rfl|rfl<;>rfl)
     obtain⟨bv,hbv⟩:∃bv:List ByteArray,bv=bd++vs:=⟨_,rfl⟩
     replace HT:=Lib.hid (show TT=Fm.frees bv (Ex.frees bd out ts) l by rw[HT.out,Hb.out,hbv];rfl)
     rw[←hbv]at Hbl
     have Hbv:=Lib.hid hbv
     clear hbv
     have hc:(op==11)=true∨((op==11)=false∧(op==12)=true):=by
      rcases hop with rfl|rfl
      ·exact .inl rfl
      ·exact .inr ⟨rfl,rfl⟩
     have hvl:bd.length+vs.length≤8388608:=by omega
     clear hop
     rcases hc with hc|⟨hc,hc2⟩
     all_goals
      go_upto_region 7 with fail
      go_cut [8]from 33 to 38 (fun xx wx=>∃(va2:Option Addr) (vc2:Nat),xx=.slice va2 bv.length vc2∧IsStrs (fun b=>w5.heap.size≤b) wx va2 bv∧Ext w5 wx)
      case first =>
       go_region_law ((first
        |(refine zc9 rfl _ _ rfl (v:=v1) rfl hr1 rfl (Dat.Rows.ext hvsR hxw1) (by simpa using hvl) (Nat.le_trans (Nat.le_refl _) hxw1.size) ?_;intro v2 w2 hr2 hf2)
        |(refine zc9 rfl _ _ rfl (v:=.slice none 0 0) (l:=[]) rfl (StrRow.nil (B:=w5.heap.size)) rfl (Dat.Rows.ext hbdR (Ext.drew (Below.refl _ _))) (by simp;omega) (Nat.le_refl _) ?_;intro v1 w1 hr1 hf1;(have hxw1:Ext w5 w1:=hf1.ext (Ext.drew (Below.refl _ _)) (fun g hg=>by simp[Value.ownBlock]at hg));(have q1:=hxw1.cell m1);(rw[List.nil_append]at hr1))))
       all_goals
        go_wp2_with fail
        go_meet
        obtain⟨a2,c2,rfl,-,hs2⟩:=hr2.strs
        rw[←Hbv.out]at hs2
        exact⟨a2,c2,by first|(rw[Hbv.out];rfl)|simp[Hbv.out],hs2,hf2.ext hxw1 (fun g hg=>(hr1.own_ge hg).1)⟩
      case rest =>
       generalize wc=W2 at hcut ⊢
       obtain⟨va2,vc2,rfl,hbX,hx2⟩:=hcut
       have x3:=hx2.cell m3
       have hsx2:=hx2.size
       have hrowX:=hrow.ext hx2
       have hlsX:=Dat.Rows.ext hlsR hx2
       have hQX:∀b,w5.heap.size≤b→ov.ownBlock≠some b:=fun b hb he=>by have:=StrRow.own_ge hrow he;omega
       go_wp2_with fail
       go_loopw [2,9] (fun ov2 iv wr=>∃k:Nat,k≤l.length∧iv=.int .i64 k∧StrRow B wr ov2 (Fm.frees bv (Ex.frees bd out ts) (l.take k))∧RFr W2 ov wr ov2) (fun _ i _=>l.length-(intOf i).toNat)
       case atStart=>exact⟨0,Nat.zero_le _,rfl,by simpa[Fm.frees]using hrowX,RFr.refl _ _⟩
       case round =>
        obtain⟨j,hjj,rfl,hrow2,hrf2⟩:=hrel
        generalize u2=ov2 at hrow2 hrf2 ⊢
        have n3:=hrf2.cell x3 hnw2
        have hsr2:=hrf2.chg.size
        by_cases hlt2:j<l.length
        ·have hj1:(j:Int)<l.length:=by omega
         obtain⟨b',o',e1,f1,e2,f2,e3,f3,rfl,-,g1,g2,g3,g4,hi⟩:=IsFms.look (hrf2.rows hPr hlsX) hlt2
         have HH:=Lib.hid (HIH.out j hlt2 _ _ wr _ _ vc2 _ _ _ _ _ _ hi (hrf2.rows hQX hbX) (Hbl.out j hlt2) (hrf2.ne hPr) (hrf2.ne hQX) (by omega) hrow2 (Hlen2.out _ j hlt2))
         have Hst:=Lib.hid (Fm.frees_take (bd:=bv) (out:=Ex.frees bd out ts) hlt2)
         clear hi
         go_wp2_with (go_at_call 164;refine(HH.out).mono ?_;rintro e w3 ⟨v3,rfl,hrow3,hrf3⟩)
         go_roundw
         case rel=>exact⟨j+1,by omega,by go_num,by rw[Hst.out];exact hrow3,hrf2.trans hrf3⟩
         case measure=>simp[intOf];omega
        ·have hj1:¬(j:Int)<l.length:=by omega
         have hje:j=l.length:=by omega
         rw[hje,List.take_length]at hrow2
         clear hje
         go_wp2_with fail
         go_ret
         exact⟨_,rfl,by rw[HT.out];exact hrow2,(RFr.of_ext hxW _).trans (hrf.trans ((RFr.of_ext hx2 ov).trans hrf2))⟩
    ·have Hb:=Lib.hid (show zgn op=false by unfold zgn;rw[decide_eq_false (fun h=>hop (.inl h)),decide_eq_false (fun h=>hop (.inr h))];rfl)
     replace HT:=Lib.hid (show TT=Fm.frees bd (Ex.frees bd out ts) l by rw[HT.out,Hb.out];rfl)
     have hc:(op==11)=false:=by rw[beq_eq_false_iff_ne];exact fun h=>hop (.inl h)
     have hc2:(op==12)=false:=by rw[beq_eq_false_iff_ne];exact fun h=>hop (.inr h)
     clear hop
     go_wp2_with fail
     go_loopw [2,9] (fun ov2 iv wr=>∃k:Nat,k≤l.length∧iv=.int .i64 k∧StrRow B wr ov2 (Fm.frees bd (Ex.frees bd out ts) (l.take k))∧RFr w5 ov wr ov2) (fun _ i _=>l.length-(intOf i).toNat)
     case atStart=>exact⟨0,Nat.zero_le _,rfl,by simpa[Fm.frees]using hrow,RFr.refl _ _⟩
     case round =>
      obtain⟨j,hjj,rfl,hrow2,hrf2⟩:=hrel
      generalize u2=ov2 at hrow2 hrf2 ⊢
      have n3:=hrf2.cell m3 hnw2
      have hsr2:=hrf2.chg.size
      by_cases hlt2:j<l.length
      ·have hj1:(j:Int)<l.length:=by omega
       obtain⟨b',o',e1,f1,e2,f2,e3,f3,rfl,-,g1,g2,g3,g4,hi⟩:=IsFms.look (hrf2.rows hPr hlsR) hlt2
       have HH:=Lib.hid (HIH.out j hlt2 _ _ wr _ _ bc _ _ _ _ _ _ hi (hrf2.rows hQr hbdR) (by have:=Fm.size_le_sizes hlt2;omega) (hrf2.ne hPr) (hrf2.ne hQr) (by omega) hrow2 (Hlen2.out _ j hlt2))
       have Hst:=Lib.hid (Fm.frees_take (bd:=bd) (out:=Ex.frees bd out ts) hlt2)
       clear hi
       go_wp2_with (go_at_call 164;refine(HH.out).mono ?_;rintro e w3 ⟨v3,rfl,hrow3,hrf3⟩)
       go_roundw
       case rel=>exact⟨j+1,by omega,by go_num,by rw[Hst.out];exact hrow3,hrf2.trans hrf3⟩
       case measure=>simp[intOf];omega
      ·have hj1:¬(j:Int)<l.length:=by omega
       have hje:j=l.length:=by omega
       rw[hje,List.take_length]at hrow2
       clear hje
       go_wp2_with fail
       go_ret
       exact⟨_,rfl,by rw[HT.out];exact hrow2,(RFr.of_ext hxW _).trans (hrf.trans (hrf2))⟩
theorem zrm (f:Fm) (hs:f.size≤4194304) (P:Nat→Prop) (w:World) (x y z u:Value) (ht:IsFm P w x y z u f) :
  Calls Tryz.prog 126 #[.agg #[x,y,z,u]] w fun e w'=>∃v,e=.returned v∧StrRow w.heap.size w' v f.freeS∧Ext w w':=by
 have HF:=Lib.hid (fun w' (hx:Ext w w')=>zmx f P Ab' w' x y z u [] none 0 w.heap.size (.slice none 0 0) [] (ht.ext hx) hs trivial (by simp only[List.length_nil];omega) (fun b _ h=>by simp[Value.ownBlock]at h) (fun b _ h=>by simp[Value.ownBlock]at h) hx.size StrRow.nil (by simp only[List.length_nil];omega))
 obtain⟨b1,c1,b2,c2,b3,c3,rfl,rfl,rfl,rfl,-⟩:=ht.form
 clear ht
 go_enter Tryz.func126,Tryz.ntmps126
 go_wp2_with (go_at_call 164;refine(HF.out _ (zd _ _)).mono ?_;rintro e w1 ⟨v,rfl,hr,hf⟩)
 go_ret
 exact⟨_,rfl,hr,hf.ext (zd _ _) (fun g hg=>by simp[Value.ownBlock]at hg)⟩
section
variable {ks r1 r2 r3 r4 r5 r:List Tok}{u1 u3 u5:Unit}{nm role:ByteArray}
theorem zov (h1:zl za6 ks=.bad r):zbd ks=.bad r:=by simp[zbd,h1]
theorem zow (h1:zl za6 ks=.ok u1 r1) (h2:zed r1=.bad r):zbd ks=.bad r:=by simp[zbd,h1,h2]
theorem zox (h1:zl za6 ks=.ok u1 r1) (h2:zed r1=.ok nm r2) (h3:zl zj r2=.bad r):zbd ks=.bad r:=by simp[zbd,h1,h2,h3]
theorem zoy (h1:zl za6 ks=.ok u1 r1) (h2:zed r1=.ok nm r2) (h3:zl zj r2=.ok u3 r3) (h4:za2 1 r3=.bad r):zbd ks=.bad r:=by simp[zbd,h1,h2,h3,h4]
theorem zoz (h1:zl za6 ks=.ok u1 r1) (h2:zed r1=.ok nm r2) (h3:zl zj r2=.ok u3 r3) (h4:za2 1 r3=.ok role r4) (h5:zl zj r4=.bad r):zbd ks=.bad r:=by simp[zbd,h1,h2,h3,h4,h5]
theorem zlo (h1:zl za6 ks=.ok u1 r1) (h2:zed r1=.ok nm r2) (h3:zl zj r2=.ok u3 r3) (h4:za2 1 r3=.ok role r4) (h5:zl zj r4=.ok u5 r5):zbd ks=.ok (nm,role,(zq r3).at') r5:=by simp[zbd,h1,h2,h3,h4,h5]
end
section
variable {l ks r r' k1:List Tok}{file fr rat:Int}{cnf:Bool}{n:Nat}{nm role:ByteArray}{f:Fm}{nx er:Int}{u u':Unit}
theorem zch (h:zbd ks=.bad r):entR l file cnf fr n ks=.flt (zcr l file r):=by unfold entR;rw[h];rfl
theorem zo0 (h:zbd ks=.ok (nm,role,rat) r) (hr:zdc cnf role=false):entR l file cnf fr n ks=.flt ⟨file,rat,241⟩:=by unfold entR;rw[h,Rd.out_ok,if_pos hr]
theorem zju (h:zbd ks=.ok (nm,role,rat) r) (hr:zdc cnf role=true) (hd:zb0 l (l.length-r.length:Nat)=(f,nx,er)):entR l file cnf fr n ks=if er≠0 then .flt ⟨file,(zre l nx).at',er⟩
  else (zdp (l.drop nx.toNat)).out l file fun _ r'=>if za1 cnf f≠0 then .flt ⟨file,fr,za1 cnf f⟩else if 200≤n then .flt ⟨file,fr,3⟩else .ok (⟨cnf,nm,role,f⟩,r'):=by
 unfold entR;rw[h,Rd.out_ok,if_neg (by rw[hr];decide)];simp only[hd]
theorem zo1 (h:zbd ks=.ok (nm,role,rat) r) (hr:zdc cnf role=true) (hd:zb0 l (l.length-r.length:Nat)=(f,nx,er)) (he:er≠0):entR l file cnf fr n ks=.flt ⟨file,(zre l nx).at',er⟩:=by
 rw[zju h hr hd,if_pos he]
theorem zi2 (h:zbd ks=.ok (nm,role,rat) r) (hr:zdc cnf role=true) (hd:zb0 l (l.length-r.length:Nat)=(f,nx,0)) (hb:zdp (l.drop nx.toNat)=.bad r'):entR l file cnf fr n ks=.flt (zcr l file r'):=by
 rw[zju h hr hd,if_neg (fun h=>h rfl),hb];rfl
theorem zo2 (h:zbd ks=.ok (nm,role,rat) r) (hr:zdc cnf role=true) (hd:zb0 l (l.length-r.length:Nat)=(f,nx,0)) (hb:zdp (l.drop nx.toNat)=.ok u r'):entR l file cnf fr n ks=if za1 cnf f≠0 then .flt ⟨file,fr,za1 cnf f⟩else if 200≤n then .flt ⟨file,fr,3⟩else .ok (⟨cnf,nm,role,f⟩,r'):=by
 rw[zju h hr hd,if_neg (fun h=>h rfl),hb];rfl
theorem zsv (h:zl zbo ks=.bad r):zdp ks=.bad r:=by simp[zdp,h]
theorem zsw (h:zl zbo ks=.ok u k1) (h2:zl sDot k1=.bad r):zdp ks=.bad r:=by simp[zdp,h,h2]
theorem zo3 (h:zl zbo ks=.ok u k1) (h2:zl sDot k1=.ok u' r):zdp ks=.ok u' r:=by simp[zdp,h,h2]
end
def PRd (rb:Nat) (l:List Tok) (w:World) (ks:List Tok) (file:Int) (v:Value):Prop :=
 Cur rb l w ks∧(w.cell? ⟨rb,2,none⟩=some (.int .i64 file)∧w.frozen? ⟨rb,2,none⟩=false)∧w.cell? ⟨rb,3,none⟩=some v∧w.frozen? ⟨rb,3,none⟩=false
theorem PRd.kept {rb:Nat}{l ks r:List Tok}{w w':World}{file:Int}{v:Value}(h:PRd rb l w ks file v) (hk:Kept rb w w') (hc:Cur rb l w' r):PRd rb l w' r file v :=
 ⟨hc,⟨hk.cell 2 (by decide) _ h.2.1.1,hk.frozen 2 (by decide) _ _ h.2.1.1 h.2.1.2⟩,hk.cell 3 (by decide) _ h.2.2.1,hk.frozen 3 (by decide) _ _ h.2.2.1 h.2.2.2⟩
theorem PRd.ext {rb:Nat}{l ks:List Tok}{w w':World}{file:Int}{v:Value}(h:PRd rb l w ks file v) (hx:Ext w w'):PRd rb l w' ks file v:=h.kept (Kept.of_ext hx) (h.1.ext hx)
theorem PRd.chg {S:List Nat}{rb:Nat}{l ks:List Tok}{w w':World}{file:Int}{v:Value}(h:PRd rb l w ks file v) (hx:Chg S w w') (hS:∀b∈S,rb<b):PRd rb l w' ks file v :=
 have hn:rb∉S:=fun hm=>by have:=hS rb hm;omega
 ⟨h.1.chg hx hS,⟨hx.cell h.2.1.1 hn,hx.frozen h.2.1.1 hn h.2.1.2⟩,hx.cell h.2.2.1 hn,hx.frozen h.2.2.1 hn h.2.2.2⟩
def zef (t:Flt):PanicEntry:={ v:=.iface 102 (.agg #[.int .i64 t.file,.int .i64 t.at',.int .i64 t.e]),recovered:=false }
def zjv (t:Flt) (e:Ending):Prop:=∃older:List PanicEntry,e=.panicked (zef t::older)∧older.all (fun p=>!p.goexit)=true
section
variable {rb:Nat}{l ks:List Tok}{w:World}{file:Int}{v:Value}
theorem zo4 (_hl:l.length≤1073741824) (h:PRd rb l w ks file v){n:Nat}(hn:n<l.length) :
  Calls Tryz.prog 110 #[.pointer (some ⟨rb,0,none⟩),.int .i64 n] w fun e w'=>e=.returned (.agg #[.int .i64 file,.int .i64 (zeb l n).at'])∧Ext w w':=by
 obtain⟨⟨hs,a,c,hown,hc,ht⟩,⟨q2,-⟩,-⟩:=h
 have HT:=Lib.hid (zes hn)
 obtain⟨b,o,rfl,hb,t0,t1,t2,hok⟩:=ht.look hn
 have hlt:=hown.lt
 obtain⟨c0,-⟩:=hown 0 _ rfl
 have hn':(n:Int)<(l.length:Nat):=by omega
 rw[HT.out]
 generalize l[n]=t at *
 have hd1:decide ((0:Int)≤n)=true:=by simp
 clear ht hown HT t0 t1 hok
 obtain⟨W,hW⟩:∃W,W=w.alloc (.cells #[.int .i64 0,.int .i64 0] 47):=⟨_,rfl⟩
 have hx:Ext w W:=by rw[hW];exact zd _ _
 have hnew:Own W w.heap.size [.int .i64 0,.int .i64 0]:=by rw[hW];exact own2 w _ _ _
 replace c0:=hx.cell c0
 replace q2:=hx.cell q2
 replace t2:=hx.cell t2
 have hWs:=hx.size
 have hnl:=hnew.lt
 obtain⟨n0,g0⟩:=hnew 0 _ rfl
 obtain⟨n1,g1⟩:=hnew 1 _ rfl
 go_enter Tryz.func110,Tryz.ntmps110
 go_upto_region 1 with fail
 rw[←hW]
 clear hW
 go_still_tail 14,(by kernel_rfl)
 change wpList _ _ _ _ _ W.drew
 go_wp2
 exact bodyPost_ret (v:=.agg #[.int .i64 file,.int .i64 t.at']) (by simp[results,Tryz.results110,go_sem,n0,n1]) rfl ⟨rfl,zau (zau hx.drew (Nat.le_refl _) _ _) (Nat.le_refl _) _ _⟩
theorem zsx (hl:l.length≤1073741824) (h:PRd rb l w ks file v){n:Nat}(hn:n<l.length) (er:Int) :
  Calls Tryz.prog 147 #[.pointer (some ⟨rb,0,none⟩),.int .i64 n,.int .i64 er] w fun e w'=>zjv ⟨file,(zeb l n).at',er⟩ e∧Ext w w':=by
 have H:=Lib.hid (zo4 hl h hn)
 clear h
 go_enter Tryz.func147,Tryz.ntmps147
 go_wp2_with (go_at_call 110;refine(H.out).mono ?_;rintro e w1 ⟨rfl,hx1⟩)
 exact⟨rfl,⟨[],rfl,rfl⟩,hx1⟩
theorem zlp (ks:List Tok):(∃t r,ks=t::r∧zed ks=.ok t.text r∧(t.named=true∨(t.named=false∧(t.kind != 5)=false)))∨((zq ks).named=false∧((zq ks).kind != 5)=true∧zed ks=.bad ks):=by
 cases ks with
 |nil=>exact .inr ⟨rfl,rfl,rfl⟩
 |cons t r =>
  rw[zee]
  cases hn:t.named with
  |true=>exact .inl ⟨t,r,rfl,by simp,.inl hn⟩
  |false =>
   by_cases h5:t.kind=5
   ·exact .inl ⟨t,r,rfl,by simp[h5],.inr ⟨hn,by rw[h5];rfl⟩⟩
   ·refine .inr ⟨hn,?_,by simp[h5]⟩
    show(t.kind != 5)=true
    rw[bne_iff_ne];exact h5
theorem zvp (ht:∀t∈ks,t.ok):(zq ks).text.size≤1073741824:=by
 cases ks with
 |nil=>exact Nat.zero_le _
 |cons t r=>exact(ht t (by simp)).2.1
theorem zo5 (hl:l.length≤1073741824) (hne:0<l.length) (h:Cur rb l w ks) :
  Calls Tryz.prog 145 #[.pointer (some ⟨rb,0,none⟩)] w fun e w'=>Kept rb w w'∧match zed ks with
   |.ok x r=>e=.returned (.string x)∧Cur rb l w' r
   |.bad r=>e=.panicked [zck (zbi l r)]∧Cur rb l w' ks:=by
 have HP:=Lib.hid (zak hl h)
 have HN:=Lib.hid (fun w=>zku (w:=w) (zq ks) (zvp h.toks))
 have HB:=Lib.hid (fun w' (hx:Ext w w')=>zgk hl hne (h.ext hx))
 have HCU:=Lib.hid h
 rcases zlp ks with ⟨t,r,rfl,hk,hway⟩|⟨h1,h2,hk⟩
 ·have HX:=Lib.hid (fun w' (hx:Ext w w')=>zqj hl (h.ext hx))
  have he:zq (t::r)=t:=rfl
  rw[hk]
  rw[he]at HP HN
  clear he hk HB h
  obtain⟨kd,tx,ta⟩:=t
  have hf0:=zem
  have hf1:=zfw
  rcases hway with h1|⟨h1,h2⟩
  all_goals
   rw[h1]at HN
   clear h1
   simp only[Tok.vals]at HN HP HX
   try simp only at h2
   go_enter Tryz.func145,Tryz.ntmps145
   go_wp2_with (first|(go_at_call 80;refine(HP.out).mono ?_;rintro e w1 ⟨rfl,hx1⟩)|(go_at_call 179;refine(HN.out _).mono ?_;rintro e w2 ⟨rfl,hx2⟩;have hb2:=((own3 w1 (.int .i64 kd) (.string tx) (.int .i64 ta) 77).ext hx2);have hl2:=hb2.lt;(obtain⟨r0,-⟩:=hb2 0 _ rfl))|(go_at_call 180;refine(HX.out _ ((hx1.alloc _).trans hx2)).mono ?_;rintro e w3 ⟨rfl,hc3,hx3⟩))
   go_ret
   exact⟨(Kept.of_ext ((hx1.alloc _).trans hx2)).trans hx3,rfl,hc3⟩
 ·rw[hk]
  generalize zq ks=t at *
  clear hk h
  obtain⟨kd,tx,ta⟩:=t
  rw[h1]at HN
  clear h1
  simp only[Tok.vals]at HN HP
  simp only at h2
  go_enter Tryz.func145,Tryz.ntmps145
  go_wp2_with (first|(go_at_call 80;refine(HP.out).mono ?_;rintro e w1 ⟨rfl,hx1⟩)|(go_at_call 179;refine(HN.out _).mono ?_;rintro e w2 ⟨rfl,hx2⟩;have hb2:=((own3 w1 (.int .i64 kd) (.string tx) (.int .i64 ta) 77).ext hx2);have hl2:=hb2.lt;(obtain⟨r0,-⟩:=hb2 0 _ rfl))|(go_at_call 113;refine(HB.out _ ((hx1.alloc _).trans hx2)).mono ?_;rintro e w3 ⟨rfl,hx3⟩))
  exact⟨rfl,Kept.of_ext (((hx1.alloc _).trans hx2).trans hx3),rfl,HCU.out.ext (((hx1.alloc _).trans hx2).trans hx3)⟩
end
def zfa {α:Type}(xs:List α) (o:Nat):List α→List α
 |[]=>xs
 |u::us=>zfa (xs.set o u) (o+1) us
theorem zlq {α:Type}:∀(us xs:List α) (o:Nat),o+us.length≤xs.length→zfa xs o us=xs.take o++us++xs.drop (o+us.length)
 |[],xs,o,_=>by simp[zfa]
 |u::us,xs,o,h=>by
  simp only[List.length_cons]at h
  unfold zfa
  rw[zlq us (xs.set o u) (o+1) (by simp;omega),List.drop_set_of_lt (by omega),List.take_set,List.take_succ_eq_append_getElem (by omega:o<xs.length)]
  rw[List.set_append_right _ _ (by simp;omega)]
  have:o-(xs.take o).length=0:=by rw[List.length_take];omega
  rw[this]
  simp only[List.set_cons_zero,List.length_cons]
  rw[show o+1+us.length=o+(us.length+1) by omega]
  simp
theorem zf9 {α:Type}:∀(us xs:List α) (o:Nat),xs.length≤o→zfa xs o us=xs
 |[],_,_,_=>rfl
 |u::us,xs,o,h=>by
  unfold zfa
  rw[List.set_eq_of_length_le h,zf9 us xs (o+1) (by omega)]
theorem zd1 {α:Type}{m:Nat}:∀(cs:List (List α)) (i:Nat),(∀c∈cs,c.length=m)→i≤cs.length→cs.flatten.take (i * m)=(cs.take i).flatten
 |[],i,_,h=>by simp
 |c::cs,0,_,_=>by simp
 |c::cs,i+1,hl,h=>by
  have hc:=hl c (by simp)
  rw[List.flatten_cons,List.take_succ_cons,List.flatten_cons,←zd1 cs i (fun x hx=>hl x (by simp[hx])) (by simpa using h),List.take_append,hc,List.take_of_length_le (by rw[hc,Nat.add_mul];omega)]
  rw[show(i+1) * m-m=i * m by rw[Nat.add_mul];omega]
theorem zin {α:Type}{m:Nat}:∀(cs:List (List α)) (i:Nat),(∀c∈cs,c.length=m)→i≤cs.length→cs.flatten.drop (i * m)=(cs.drop i).flatten
 |[],i,_,h=>by simp
 |c::cs,0,_,_=>by simp
 |c::cs,i+1,hl,h=>by
  have hc:=hl c (by simp)
  rw[List.flatten_cons,List.drop_succ_cons,←zin cs i (fun x hx=>hl x (by simp[hx])) (by simpa using h),List.drop_append,hc,List.drop_of_length_le (by rw[hc,Nat.add_mul];omega)]
  rw[show(i+1) * m-m=i * m by rw[Nat.add_mul];omega]
  simp
theorem zrn {α:Type}{m:Nat}{cs:List (List α)}{i:Nat}{c:List α}(hl:∀c∈cs,c.length=m) (hi:i<cs.length) (hc:c.length=m):(cs.set i c).flatten=zfa cs.flatten (i * m) c:=by
 have hlen:cs.flatten.length=cs.length * m:=by
  clear hi
  induction cs with
  |nil=>simp
  |cons x cs ih=>rw[List.flatten_cons,List.length_append,hl x (by simp),ih (fun y hy=>hl y (by simp[hy])),List.length_cons,Nat.add_mul];omega
 have hle:i * m+m≤cs.length * m:=by
  have:=Nat.mul_le_mul_right m (show i+1≤cs.length from hi)
  rw[Nat.add_mul]at this;omega
 rw[zlq c cs.flatten (i * m) (by rw[hlen,hc];exact hle),hc,zd1 cs i hl (by omega),show i * m+m=(i+1) * m by rw[Nat.add_mul];omega,zin cs (i+1) hl hi,List.set_eq_take_append_cons_drop]
 rw[if_pos hi]
 simp
theorem zfb {base size n g cap:Nat}{e:TypeId}:∀(us xs:List Value) (o:Nat) (w:World),w.ownsRow base e size (.slice (some ⟨g,0,none⟩) n cap) n xs→(w.setCells g o us).ownsRow base e size (.slice (some ⟨g,0,none⟩) n cap) n (zfa xs o us)∧Chg [g] w (w.setCells g o us)
 |[],xs,o,w,h=>⟨h,Chg.refl _ _⟩
 |u::us,xs,o,w,h=>by
  obtain⟨h1,-⟩:=h.stored o u
  obtain⟨h2,h3⟩:=zfb us (xs.set o u) (o+1) (w.setCell ⟨g,o,none⟩ u) h1
  exact⟨h2,((Chg.refl [g] w).setCell _ (.inl (by simp))).trans h3⟩
theorem zsy {base size n g cap k:Nat}{e:TypeId}{w:World}{xs:List Value}(h:w.ownsRow base e size (.slice (some ⟨g,0,none⟩) n cap) n xs) (hk:k≤n):w.ownsRow base e size (.slice (some ⟨g,0,none⟩) k cap) k (xs.take (k * size)):=by
 have hle:=Nat.mul_le_mul_right size hk
 obtain⟨h1,h2⟩:=h
 rcases h2 with ⟨h2,-⟩|⟨g',cap',cur,hv,hb,hh,hn,hm,hs,ht⟩
 ·cases h2
 ·injection hv with e1 _ e3
  injection e1 with e1;injection e1 with e1 _ _
  subst e1;subst e3
  refine⟨by rw[List.length_take,h1];omega,.inr ⟨g,cap,cur,rfl,hb,hh,by omega,hm,hs,?_⟩⟩
  rw[←ht,List.take_take,Nat.min_eq_left hle]
section
variable {m e B g n cap:Nat}{w:World}{l:List (List Dat)}
theorem GRow.put {x:List Dat}{c:List Value}{i:Nat}(h:GRow (zz m) e B w (.slice (some ⟨g,0,none⟩) n cap) l) (hi:i<l.length) (hc:(zz m).is (fun b=>B≤b∧b≠g) w c x) :
  GRow (zz m) e B (w.setCells g (i * m) c) (.slice (some ⟨g,0,none⟩) n cap) (l.set i x)∧Chg [g] w (w.setCells g (i * m) c):=by
 obtain⟨a0,c0,hv0,-⟩:=h.form
 obtain⟨cs,h1,h2,h3⟩:=h
 injection hv0 with _ hn _
 subst hn
 obtain⟨h4,h5⟩:=zfb c cs.flatten (i * m) w h2
 have hl:∀c∈cs,c.length=m:=by
  intro c hc
  obtain⟨k,hk,rfl⟩:=List.getElem_of_mem hc
  exact(h3 k (by omega) hk).1
 refine⟨⟨cs.set i c,by simp[h1],?_,fun j hj hj'=>?_⟩,h5⟩
 ·rw[zrn hl (by omega) hc.1,List.length_set]
  exact h4
 ·by_cases hji:j=i
  ·subst hji
   rw[List.getElem_set_self,List.getElem_set_self]
   exact⟨hc.1,(hc.2.mono fun b hb _=>⟨hb.1,fun he=>hb.2 (by injection he with he;exact he.symm)⟩).chg h5 fun b hb hm=>hb.2 (by simp at hm;subst hm;rfl)⟩
  ·rw[List.getElem_set_ne (Ne.symm hji),List.getElem_set_ne (Ne.symm hji)]
   have:=h3 j (by simpa using hj) (by simpa using hj')
   exact⟨this.1,this.2.chg h5 fun b hb hm=>hb.2 (by simp at hm;subst hm;rfl)⟩
theorem GRow.take {k:Nat}(h:GRow (zz m) e B w (.slice (some ⟨g,0,none⟩) n cap) l) (hk:k≤l.length):GRow (zz m) e B w (.slice (some ⟨g,0,none⟩) k cap) (l.take k):=by
 obtain⟨a0,c0,hv0,-⟩:=h.form
 obtain⟨cs,h1,h2,h3⟩:=h
 injection hv0 with _ hn _
 subst hn
 have hl:∀c∈cs,c.length=m:=by
  intro c hc
  obtain⟨k,hk,rfl⟩:=List.getElem_of_mem hc
  exact(h3 k (by omega) hk).1
 have hlen:(l.take k).length=k:=by rw[List.length_take];omega
 refine⟨cs.take k,by rw[List.length_take,List.length_take];omega,?_,fun j hj hj'=>?_⟩
 ·rw[hlen,←zd1 cs k hl (by omega)]
  exact zsy h2 hk
 ·rw[List.getElem_take,List.getElem_take]
  exact h3 j (by rw[hlen]at hj;omega) (by rw[List.length_take]at hj';omega)
theorem GRow.beyond {us:List Value}{o:Nat}(h:GRow (zz m) e B w (.slice (some ⟨g,0,none⟩) n cap) l) (ho:l.length * m≤o):GRow (zz m) e B (w.setCells g o us) (.slice (some ⟨g,0,none⟩) n cap) l∧Chg [g] w (w.setCells g o us):=by
 obtain⟨a0,c0,hv0,-⟩:=h.form
 obtain⟨cs,h1,h2,h3⟩:=h
 injection hv0 with _ hn _
 subst hn
 obtain⟨h4,h5⟩:=zfb us cs.flatten o w h2
 rw[zf9 us cs.flatten o (by rw[h2.1];exact ho)]at h4
 exact⟨⟨cs,h1,h4,fun j hj hj'=>⟨(h3 j hj hj').1,(h3 j hj hj').2.chg h5 fun b hb hm=>hb.2 (by simp at hm;subst hm;rfl)⟩⟩,h5⟩
end
theorem zjw {w:World}{t e:TypeId}{z:Value}{m:Nat}(ht:Tryz.prog.underlying t=some (.slice e)) (hv:∀w,(zeroValue e).run Tryz.prog w=.ok z w) (hz:z.cells.size=m) (h1:∀u∈z.cells.toList,u.oneCell'=true) (hm:0<m){b o n c:Nat}
  (hc:∀j,j<n * m→(w.cell? ⟨b,o+j,none⟩).isSome=true) (hf:∀j,j<n * m→w.frozen? ⟨b,o+j,none⟩=false) :
  ∃us,∀ty,(Builtin.clear_ #[t] ty #[.slice (some ⟨b,o,none⟩) n c]).run Tryz.prog w=.ok (.tuple #[]) (w.setCells b o us):=by
 cases n with
 |zero=>exact⟨[],fun ty=>by simp[Builtin.clear_,run_underlying ht];rfl⟩
 |succ k =>
  refine⟨(Builtin.zeroCells z.cells (k+1)).toList,fun ty=>?_⟩
  have hlen:(Builtin.zeroCells z.cells (k+1)).toList.length=(k+1) * m:=by simp[Builtin.zeroCells,hz]
  have hst:=run_storeCells_cells (P:=Tryz.prog) b o (Builtin.zeroCells z.cells (k+1)).toList 0 w (by rw[hlen];simpa using hc) (by rw[hlen];simpa using hf) (by
   intro v hv'
   simp only[Builtin.zeroCells,Array.toList_map,List.mem_map]at hv'
   obtain⟨i,-,rfl⟩:=hv'
   have hlt:i % z.cells.size<z.cells.size:=Nat.mod_lt _ (by omega)
   rw[getElem!_pos z.cells _ hlt]
   exact h1 _ (by simp))
  simp only[Nat.add_zero]at hst
  simp[Builtin.clear_,run_underlying ht,hv,hst]
end Go.Proofs.YtnclgkdpafhogaaGreat
