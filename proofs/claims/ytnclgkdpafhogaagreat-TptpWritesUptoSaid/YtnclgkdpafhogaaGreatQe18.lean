/- formula.CopyExpr. Condition: at most 4194304 parts. -/
import Derived.Test.YtnclgkdpafhogaaGreatQe8
import Derived.Test.YtnclgkdpafhogaaGreatQe1
import Derived.Test.YtnclgkdpafhogaaGreatQe3
import Derived.Deep.RegionLaw
import Derived.Deep.CutRange
import Derived.Deep.CutBlock
set_option maxHeartbeats 16000000
set_option maxRecDepth 100000
namespace Go.Proofs.YtnclgkdpafhogaaGreat
open Go.ChangeShapes Go.WideShapes Go.ChangeAt Go.RowKit
theorem zeg {w1 w2:World}{b:Nat}{vs:List Value}{v:Value}(h:Own w1 b vs) (hg:w1.grownBy w2 v.ownBlock) (hb:v.ownBlock≠some b):Own w2 b vs:=by
 cases ho:v.ownBlock with
 |none =>
  rw[ho]at hg
  exact h.chg (S:=[]) (Chg.of_grown hg (by simp)) (by simp)
 |some g =>
  rw[ho]at hg
  exact h.chg (S:=[g]) (Chg.of_grown hg (by simp)) (by simp;intro he;subst he;exact hb ho)
theorem zpq (t:Ex):∀(P:Nat→Prop) (w:World) (x y z:Value),IsEx P w x y z t→t.size≤4194304 →
  Calls Tryz.prog 121 #[.agg #[x,y,z]] w fun e w'=>(∃v,e=.returned v∧zye (fun g=>w.heap.size≤g) w' v t)∧Ext w w':=by
 induction t using Ex.ind with
 |h v nm l ih =>
  intro P w x y z ht hs
  obtain⟨a,c,rfl,rfl,rfl,hn,hc1,hk⟩:=ht.form
  simp only[Ex.var,Ex.name,Ex.args]at hn hc1 hk ⊢
  simp only[Ex.size]at hs
  have hkl:=Ex.length_le_sizes l
  obtain⟨i0,hi0,hz0,hz1',hz2'⟩:=info_parts zyf
  have HIH:=Lib.hid ih
  clear ih ht
  go_enter Tryz.func121,Tryz.ntmps121
  go_wp2_with fail
  obtain⟨W0,hW0⟩:∃W0,W0=((w.alloc (.cells #[.bool v,.string nm,.slice a l.length c] 73)).alloc (.cells #[.bool false,.string ⟨#[]⟩,.slice none 0 0] 73)).alloc (.cells #[.bool v,.string nm,.slice none 0 0] 73):=⟨_,rfl⟩
  have hx:Ext w W0:=by rw[hW0];exact((zb _ _).alloc _).alloc _
  have hz:W0.heap.size=w.heap.size+3:=by rw[hW0];simp
  have hnb:Own W0 (w.heap.size+1) [.bool false,.string ⟨#[]⟩,.slice none 0 0]:=by
   rw[hW0]
   have:=(own3 (w.alloc (.cells #[.bool v,.string nm,.slice a l.length c] 73)) (.bool false) (.string ⟨#[]⟩) (.slice none 0 0) 73).ext (zb _ (.cells #[.bool v,.string nm,.slice none 0 0] 73))
   rw[World.size_alloc]at this;exact this
  have hob:Own W0 (w.heap.size+1+1) [.bool v,.string nm,.slice none 0 0]:=by
   rw[hW0]
   have:=own3 ((w.alloc (.cells #[.bool v,.string nm,.slice a l.length c] 73)).alloc (.cells #[.bool false,.string ⟨#[]⟩,.slice none 0 0] 73)) (.bool v) (.string nm) (.slice none 0 0) 73
   rw[World.size_alloc,World.size_alloc]at this;exact this
  rw[←hW0]
  have HZ:=Lib.hid hz
  have hzl:w.heap.size+3≤W0.heap.size:=by omega
  clear hW0 hz
  obtain⟨nb,hnbe⟩:∃nb,nb=w.heap.size+1:=⟨_,rfl⟩
  obtain⟨ob,hobe⟩:∃ob,ob=w.heap.size+1+1:=⟨_,rfl⟩
  rw[←hobe]at hob
  rw[←hnbe]at hnb
  rw[←hobe,←hnbe]
  have hw1:w.heap.size≤nb:=by omega
  have hw2:nb<ob:=by omega
  have hw3:ob<W0.heap.size:=by omega
  clear hnbe hobe
  go_loopw [14] (fun i wr=>∃(k:Nat) (vv:Value),k≤l.length∧i=.int .i64 k∧GRow (z6 3) 73 W0.heap.size wr vv ((l.take k).map Ex.dat)∧Own wr ob [.bool v,.string nm,vv]∧Own wr nb [.bool false,.string ⟨#[]⟩,.slice none 0 0]∧Chg [ob] W0 wr) (fun i _=>l.length-(intOf i).toNat)
  case atStart=>exact⟨0,_,Nat.zero_le _,rfl,GRow.nil,hob,hnb,Chg.refl _ _⟩
  case round =>
   obtain⟨k,vv,hkk,rfl,hrow,ho,hn2,hch⟩:=hrel
   have hxr:Ext w wr:=Chg.ext hx hch (by simp;omega)
   have HML:((l.take k).map Ex.dat).length=k:=by rw[List.length_map,List.length_take];omega
   obtain⟨va,vc,hv,hvc⟩:=hrow.form
   rw[HML]at hv hvc
   subst hv
   have Hml:=Lib.hid HML
   clear HML hob hnb
   obtain⟨q0,r0⟩:=ho 0 _ rfl
   obtain⟨q1,r1⟩:=ho 1 _ rfl
   obtain⟨q2,r2⟩:=ho 2 _ rfl
   have hWr:W0.heap.size≤wr.heap.size:=hch.size
   by_cases hlt:k<l.length
   ·have hk1:(k:Int)<l.length:=by omega
    obtain⟨b',o',a',c',rfl,hbP,g1,g2,g3,hi⟩:=(IsExs.ext hk hxr).look hlt
    have Hi:=Lib.hid (fun w' (hx:Ext wr w')=>HIH.out _ (List.getElem_mem hlt) P w' _ _ _ (hi.ext hx) (by have:=Ex.size_le_sizes hlt;omega))
    have hown:∀g,(Value.slice va k vc).ownBlock=some g→g<wr.heap.size:=fun g hg=>(hrow.own_ge hg).2
    have hown2:∀g,(Value.slice va k vc).ownBlock=some g→W0.heap.size≤g:=fun g hg=>(hrow.own_ge hg).1
    go_upto_region 5 with fail
    obtain⟨V,hV⟩:∃V,V=wr.alloc (.cells #[.bool l[k].var,.string l[k].name,.slice a' l[k].args.length c'] 73):=⟨_,rfl⟩
    have hxV:Ext wr V:=by rw[hV];exact zb _ _
    have hbx:Own V wr.heap.size [.bool l[k].var,.string l[k].name,.slice a' l[k].args.length c']:=by rw[hV];exact own3 wr _ _ _ _
    obtain⟨e0,-⟩:=hbx 0 _ rfl
    obtain⟨e1,-⟩:=hbx 1 _ rfl
    obtain⟨e2,-⟩:=hbx 2 _ rfl
    have p2:=hxV.cell q2
    have y2:=hxV.frozen q2 r2
    rw[←hV]
    clear hV hi g1 g2 g3
    go_region_law ((first
     |(go_simp;go_at_call 121;refine(Hi.out _ (hxV.trans (Ext.drew (Below.refl _ _)))).mono ?_;rintro e w2 ⟨⟨vv2,rfl,x0,x1,x2,rfl,hex⟩,hx2⟩;(have hx2':Ext V w2:=(Ext.drew (Below.refl _ V)).trans hx2);(obtain⟨d1,e1',rfl,rfl,rfl,-⟩:=hex.form);(have d5:=hx2'.cell p2);(have d6:=hx2'.frozen p2 y2);(have d7:=(zb w2 (.cells #[.bool l[k].var,.string l[k].name,.slice d1 l[k].args.length e1'] 73)).cell d5);(try simp only[]))
     |(refine zbz rfl (.tmp 19) (.tmp 22) _ rfl 73 i0 _ 48 Tryz.underlying26 hi0 hz0 hz1' hz2' rfl (by decide) W0.heap.size (.slice va k vc) ((l.take k).map Ex.dat) (by rfl) wr hrow ((hxV.trans hx2').trans (zb _ _)) w2.heap.size (by rfl) _ _ (heap_alloc_new _ _) l[k].dat (z0q (hex.ext (zb _ _)) fun g hg hlt=>(show W0.heap.size≤g∧(Value.slice va k vc).ownBlock≠some g from ⟨by have:V.heap.size≤g:=hg;have:=hxV.size;omega,fun e=>by have:=hown g e;have:V.heap.size≤g:=hg;have:=hxV.size;omega⟩)) (by rw[Hml.out];simp only[maxLen];omega) (by rw[Hml.out];omega) (Nat.le_trans hWr ((hxV.trans hx2').trans (zb _ _)).size) ?_;intro g cap w4 hrow4 hgrow hat hlt4;(have hfar:(some (⟨ob,2,none⟩:Addr).block)≠(Value.slice va k vc).ownBlock:=fun e=>by have:=hown2 _ e.symm;simp only at this;omega);(have hlt5:(⟨ob,2,none⟩:Addr).block<(w2.alloc (.cells #[.bool l[k].var,.string l[k].name,.slice d1 l[k].args.length e1'] 73)).heap.size:=Nat.lt_of_lt_of_le (zf d5) (zb w2 _).size);(have e5:=(hgrow.cell_far ⟨ob,2,none⟩ hlt5 hfar).trans ((zb w2 _).cell d5));(have e6:=(hgrow.frozen_far ⟨ob,2,none⟩ hlt5 hfar).trans ((zb w2 _).frozen d5 d6)))))
    all_goals
     go_wp2_with fail
     go_roundw
     case rel =>
      have hx5:=(hxV.trans hx2').trans (zb w2 (.cells #[.bool l[k].var,.string l[k].name,.slice d1 l[k].args.length e1'] 73))
      have hset:=(Chg.refl [ob] w4).setCell (p:=⟨ob,2,none⟩) (.slice (some ⟨g,0,none⟩) (k+1) cap) (.inl (by simp))
      have hnot:∀b,b<W0.heap.size→(Value.slice va k vc).ownBlock≠some b:=fun b hb e=>by have:=hown2 _ e;omega
      have hrow5:=hrow4
      rw[Hml.out]at hrow5
      refine⟨k+1,.slice (some ⟨g,0,none⟩) (k+1) cap,by omega,by go_num,?_,?_,?_,(zci hch hrow (Nat.le_refl _) hx5 hgrow).trans (by simpa[Hml.out]using hset)⟩
      ·rw[List.take_succ_eq_append_getElem hlt,List.map_append]
       exact hrow5.chg hset (by simp;omega)
      ·have h1:=(zeg (ho.ext hx5) hgrow (hnot ob hw3)).set (i:=2) (by simp) (.slice (some ⟨g,0,none⟩) (k+1) cap)
       exact h1
      ·have h1:=(zeg (hn2.ext hx5) hgrow (hnot nb (by omega))).chg hset (by simp;omega)
       exact h1
     case measure=>simp[intOf];omega
   ·have hk1:¬(k:Int)<l.length:=by omega
    have hke:k=l.length:=by omega
    obtain⟨n0,s0⟩:=hn2 0 _ rfl
    obtain⟨n1,s1⟩:=hn2 1 _ rfl
    obtain⟨n2,s2⟩:=hn2 2 _ rfl
    obtain⟨a1,c1,hv1,hvc1,hd⟩:=GRow.dat (by decide) hrow
    have HKE:=Lib.hid hke
    have HV1:=Lib.hid hv1
    clear hke hv1
    go_wp2_with fail
    have hres:=zc8 hn2 (.bool v) (.string nm) (.slice va k vc)
    have hch2:=zd2 wr nb (.bool v) (.string nm) (.slice va k vc)
    have hxf:Ext w (((wr.setCell ⟨nb,0,none⟩ (.bool v)).setCell ⟨nb,1,none⟩ (.string nm)).setCell ⟨nb,2,none⟩ (.slice va k vc)):=zd1 (zd1 (zd1 hxr hw1 _ _) hw1 _ _) hw1 _ _
    obtain⟨f0,f1,f2⟩:=zkd hres
    generalize ((wr.setCell ⟨nb,0,none⟩ (.bool v)).setCell ⟨nb,1,none⟩ (.string nm)).setCell ⟨nb,2,none⟩ (.slice va k vc)=W2 at *
    refine bodyPost_ret (v:=.agg #[.bool v,.string nm,.slice va k vc]) (by simp[results,Tryz.results121,go_sem,f0,f1,f2]) rfl ⟨⟨_,rfl,_,_,_,rfl,?_⟩,hxf⟩
    have hke:=HKE.out
    subst hke
    have hv1:=HV1.out
    rw[Hml.out]at hv1
    injection hv1 with e1 _ _
    subst e1
    have hd2:=Dat.Rows.mono (Dat.Rows.chg hd hch2 (fun g hg=>by simp;omega)) (Q:=fun g=>w.heap.size≤g) (fun g hg _=>by omega)
    rw[List.take_length]at hd2
    exact IsEx.mk' hn hvc (by unfold IsExs;rw[Ex.dats_map];exact hd2)
end Go.Proofs.YtnclgkdpafhogaaGreat
