/- token.All: a text's tokens, or the first fault. Conditions: a text of at most 1048576 bytes; the library's variable holds a number.
token.Cut. Condition: a text of at most 1048576 bytes; the library's variable holds a number. -/
import Derived.Test.YtnclgkdpafhogaaGreatQe35
import Derived.Test.YtnclgkdpafhogaaGreatQe14
import Derived.Maps.OwnIn
set_option maxHeartbeats 16000000
set_option maxRecDepth 100000
namespace Go.Proofs.YtnclgkdpafhogaaGreat
open Go.ChangeShapes Go.WideShapes Go.ChangeAt Go.RowKit
attribute [local go_sem] fw_round fw_depth fw_fn Oper.semAt_some
theorem zoz {w:World}{B e size n:Nat}{v:Value}{xs:List Value}(h:w.ownsRow B e size v n xs):∃a c,v=.slice a n c:=by
 rcases h.2 with ⟨h1,h2⟩|⟨g,cap,cur,hv,-⟩
 ·exact⟨none,0,by rw[h1,h2]⟩
 ·exact⟨_,_,hv⟩
theorem zl4 {n:Nat}{fn:Func}{R:Ending→World→Prop}{a:Act}{W:World}{D:Nat}{v:Value}(hd:a.defers=[{ target:=.collected D,args:=#[] }]) (hK:W.heap[D]?=some (.deferred (some [])))
  (hr:(results fn a.tmps).run Tryz.prog (W.putObj D (.deferred none))=.ok v (W.putObj D (.deferred none))) (hR:R (.returned v) (W.putObj D (.deferred none))):bodyPostM (Fw none) n Tryz.prog fn R .ret a W:=by
 show LeavesInM _ _ _ _ _ _ a.defers .returning W
 rw[hd]
 exact⟨by simp,.inl ⟨_,_,rfl,run_takeDeferred hK,⟨v,hr,hR⟩⟩⟩
theorem zl5 {W:World}{D:Nat}{o:Obj}{p:Addr}{v:Value}(h:W.cell? p=some v) (hD:p.block≠D):(W.putObj D o).cell? p=some v:=(zy W D o).cell h (by simpa using hD)
def Tok.vs (t:Tok):List Value:=[.int .i64 t.kind,.string t.text,.int .i64 t.at']
def znq (l:List Tok):List Value:=(l.map Tok.vs).flatten
theorem zo0 (l:List Tok) (x:Tok):znq (l++[x])=znq l++x.vs:=by simp[znq]
theorem TokRow.of_own {B:Nat}{w:World}{v:Value}{l:List Tok}(hok:∀t∈l,t.ok) (h:w.ownsRow B 77 3 v l.length (znq l)):TokRow B w v l:=by
 refine⟨l.map Tok.vs,by simp,by rw[List.length_map];exact h,fun j h1 h2=>?_⟩
 simp only[List.getElem_map]
 exact Tok.fs (hok _ (List.getElem_mem _)) _ _
def TkJ (B:Nat) (W:World) (pre:List Tok) (S:List Nat):Prop :=
 ∃v,Own W B [v]∧W.ownsRow (B+1) 77 3 v pre.length (znq pre)∧(∀t∈pre,t.ok)∧S=B::v.ownBlock.toList
theorem z1r (s:ByteArray) (hs:s.size≤1048576) (w:World) (m:Int) (hm:w.cell? ⟨0,0,none⟩=some (.int .i64 m)):Calls Tryz.prog 87 #[.string s] w (CutSays (zfa s) w):=by
 obtain⟨i0,hi0,hz0,hz1',hz2'⟩:=info_parts z1h
 have hmlt:=zf hm
 simp only at hmlt
 obtain⟨V,hV⟩:∃V,V=(w.alloc (.cells #[.slice none 0 0] 22)).alloc (.cells #[.string s,.int .i64 0,.int .i64 0] 163):=⟨_,rfl⟩
 have hxV:Ext w V:=by subst hV;exact(zb _ _).trans (zb _ _)
 have hsV:V.heap.size=w.heap.size+2:=by subst hV;simp
 have ho1:Own V w.heap.size [.slice none 0 0]:=by subst hV;exact(own1 w _ _).ext (zb _ _)
 have hoc:Own V (w.heap.size+1) [.string s,.int .i64 0,.int .i64 0]:=by
  subst hV
  have:=own3 (w.alloc (.cells #[.slice none 0 0] 22)) (.string s) (.int .i64 0) (.int .i64 0) 163
  rw[World.size_alloc]at this;exact this
 have hmV:=hxV.cell hm
 obtain⟨B,hB⟩:∃B,B=w.heap.size:=⟨_,rfl⟩
 rw[←hB]at ho1 hoc hsV hmlt
 refine zle.1 (callsIn_of_wp_marks (n:=0) Tryz.func87 rfl trivial (wpIn_wide.2 ?_))
 simp only[Tryz.ntmps87,List.size_toArray,List.length_cons,List.length_nil,Nat.reduceAdd,Nat.reduceSub,Array.replicate_succ,Array.replicate_zero,List.push_toArray,List.append_toArray,List.nil_append,List.cons_append]
 go_wp2_with fail
 rw[←hV,←hB]
 have HB:=Lib.hid hB;clear hV hB
 refine(wpIn_wide (n:=0)).1 ?_
 refine zhs (n:=0) (gf:=136) (fb:=#[.pointer (some ⟨B+1,0,none⟩)]) (lb:=#[]) (by rfl) (fun _ _=>rfl) (z1q s hs (B+1) m) (fun x args w h=>by obtain⟨rfl,-⟩:=h;rfl)
  [B] (by intro b hb;simp at hb;subst hb;simp;omega) (TkJ B) (fun _ _ _ _=>False) ?hD ?hS0 ?h0 ?hJ ?hJx ?hJe ?hJxe ?hJT ?hJxT ?hE ?body ?done ?stop
 case hD =>
  intro w' hw'
  exact⟨hoc.ext hw',hw'.cell hmV,by simp;omega⟩
 case hS0=>intro b hb;simp at hb;omega
 case h0=>exact⟨_,ho1,World.ownsRow_nil _ _ _ _,by simp,rfl⟩
 case hJ =>
  intro w1 w2 s S hne h k
  obtain⟨v,h1,h3,h4,rfl⟩:=h
  refine⟨v,h1.chg k (by have:=hne B (by simp);simpa using this),zdr h3 fun g hg hlt=>k.block g hlt (by have:=hne g (by simp[hg]);simpa using this),h4,rfl⟩
 case hJx=>exact fun _ _ _ _ _ _ h _=>h.elim
 case hJe =>
  intro w1 w2 s S h k
  obtain⟨v,h1,h3,h4,rfl⟩:=h
  exact⟨v,h1.ext k,zll h3 k,h4,rfl⟩
 case hJxe=>exact fun _ _ _ _ _ h _=>h.elim
 case hJT =>
  intro w1 w2 s S hne h k
  obtain⟨v,h1,h3,h4,rfl⟩:=h
  have hn:=hne (B+1) (by simp)
  refine⟨v,h1.chg k (by simp),zdr h3 fun g hg hlt=>k.block g hlt (by simp;rintro rfl;exact hn (by simp[hg])),h4,rfl⟩
 case hJxT=>exact fun _ _ _ _ _ _ h _=>h.elim
 case hE =>
  rintro w1 w2 ⟨z,h1,h2⟩ k
  exact⟨z,h1.chg k (by simp;omega),h2⟩
 case stop=>exact fun _ _ _ _ _ _ h _=>h.elim
 case body =>
  intro pre x rest hitems args W S mm hG hj hSne hVl
  obtain⟨rfl,hxk⟩:=hG
  obtain⟨v,q1,q3,q5,rfl⟩:=hj
  obtain⟨va,vc,rfl⟩:=zoz q3
  have hpl:pre.length+1≤1048577:=by
   have h2:(zq s 0).1.length=pre.length+(rest.length+1):=by rw[hitems];simp
   have:=zkn (s:=s) (k:=0) (Nat.zero_le _)
   omega
  clear hitems
  have hBn:=hSne B (by simp)
  have hgn:∀g,(Value.slice va pre.length vc).ownBlock=some g→g≠V.heap.size+1:=fun g hg=>(hSne g (by simp[hg])).2
  have Hq3:=Lib.hid q3;clear q3 hSne
  obtain⟨xk,xt,xa⟩:=x
  simp only[Tok.vals]
  gi_wp2
  intro V2 hc2 hcell2
  refine⟨Mv.of_ext (zb _ _),?_⟩
  have hA1:=zb W (.cells #[.int .i64 xk,.string xt,.int .i64 xa] 77)
  obtain⟨q1c,q1f⟩:=q1 0 _ rfl
  have q2:=hc2.frozen (hA1.cell q1c) (by simpa using hBn.2) (hA1.frozen q1c q1f)
  have q2c:=hcell2 _ _ (hA1.cell q1c)
  have x0:=hcell2 _ _ (own3 W (.int .i64 xk) (.string xt) (.int .i64 xa) 77 0 _ rfl).1
  have x1:=hcell2 _ _ (own3 W (.int .i64 xk) (.string xt) (.int .i64 xa) 77 1 _ rfl).1
  have x2:=hcell2 _ _ (own3 W (.int .i64 xk) (.string xt) (.int .i64 xa) 77 2 _ rfl).1
  have h4:=zdr (zll Hq3.out hA1) fun g hg hlt=>hc2.block g hlt (by simpa using hgn g hg)
  have hown:(V2.alloc (.cells #[.int .i64 xk,.string xt,.int .i64 xa] 77)).ownsRow (B+1) 77 3 (.slice va pre.length vc) pre.length (znq pre):=zll h4 (zb _ _)
  have hsz:=hc2.size
  have hsz1:=hA1.size
  have hbz:B+1≤(V2.alloc (.cells #[.int .i64 xk,.string xt,.int .i64 xa] 77)).heap.size:=by simp;omega
  have HO:=Lib.hid (And.intro h4 hown);clear h4 hown Hq3
  have hA:=zb V2 (.cells #[.int .i64 xk,.string xt,.int .i64 xa] 77)
  gi_wp2_with (gi_at_builtin;refine wpListIn_append_own_at _ rfl _ _ 22 rfl (B+1) 77 i0 _ 3 32 Tryz.underlying22 hi0 hz0 hz1' hz2' rfl (by decide) (.slice va pre.length vc) pre.length _ rfl HO.out.2 ⟨V2.heap.size,0,none⟩ 1 1 [.int .i64 xk,.string xt,.int .i64 xa] rfl rfl (World.news_of_block (heap_alloc_new _ _)) (by intro u hu;simp at hu;rcases hu with rfl|rfl|rfl<;>rfl) (by unfold maxLen;omega) (by omega) hbz ?_;intro v' w1 hown' hgrow hnil hloc;clear hnil;obtain⟨va',vc',rfl⟩:=zoz hown';(have hfar:(some B)≠(Value.slice va pre.length vc).ownBlock:=fun e=>by have:=(zqf HO.out.1 e.symm).1;omega);(have hlt5:B<(V2.alloc (.cells #[.int .i64 xk,.string xt,.int .i64 xa] 77)).heap.size:=by simp;omega);(have y1:=(hgrow.cell_far ⟨B,0,none⟩ hlt5 hfar).trans (hA.cell q2c));(have yf:=(hgrow.frozen_far ⟨B,0,none⟩ hlt5 hfar).trans (hA.frozen q2c q2));(have HN:=Lib.hid (And.intro hown' (And.intro hgrow hloc)));clear hown' hgrow hloc hfar)
  obtain⟨hown',hgrow,hloc⟩:=HN.out
  have hchB:Chg [B] w1 (w1.setCell ⟨B,0,none⟩ (.slice va' (pre.length+1) vc')):=(Chg.refl _ _).setCell (p:=⟨B,0,none⟩) _ (.inl (by simp))
  refine⟨B::(Value.slice va' (pre.length+1) vc').ownBlock.toList,⟨?_,?_⟩,?_⟩
  ·refine((Chg.of_ext hA).trans (Chg.of_grown hgrow fun g hg=>.inl ?_)).trans (hchB.mono (by simp))
   simp[hg]
  ·intro b hb
   rcases List.mem_cons.1 hb with rfl|hb
   ·exact .inl (by simp)
   ·rw[Option.mem_toList]at hb
    rcases hloc with h|h
    ·rw[h]at hb;exact .inl (by simp[hb])
    ·have h1:=zqf hown' hb
     rw[h]at hb
     injection hb with hb
     refine .inr ⟨?_,?_⟩
     ·rw[←hb];simp
     ·have:=hchB.size;omega
  ·refine⟨.slice va' (pre.length+1) vc',?_,?_,?_,rfl⟩
   ·intro i v hv
    match i,hv with
    |0,hv=>injection hv with hv;subst hv;exact⟨World.cell?_setCell_same _ _ _ y1,(World.frozen?_setCell _ _ _ _).trans yf⟩
    |n+1,hv=>simp at hv
   ·have h5:=zsb hown' hchB (by simp)
    rw[zo0]
    simpa[Tok.vs]using h5
   ·intro t ht
    rcases List.mem_append.1 ht with h|h
    ·exact q5 t h
    ·simp at h;subst h;exact hxk
 case done =>
  intro W S hm hj hE hK
  obtain⟨v,q1,q3,q5,rfl⟩:=hj
  obtain⟨va,vc,rfl⟩:=zoz q3
  obtain⟨z,e1,e2⟩:=hE
  obtain⟨r0,r1⟩:=q1 0 _ rfl
  obtain⟨d0,-⟩:=e1 0 _ rfl
  obtain⟨d1,-⟩:=e1 1 _ rfl
  obtain⟨d2,-⟩:=e1 2 _ rfl
  have Hq3:=Lib.hid q3;clear q3
  have hD1:V.heap.size<W.heap.size:=(Array.getElem?_eq_some_iff.1 hK).1
  by_cases hz:(zq s 0).2.2=0
  ·have hzb:((zq s 0).2.2 != 0)=false:=by rw[hz];rfl
   go_wp2_with fail
   have hK2:(W.setCell ⟨B,0,none⟩ (.slice va (zq s 0).1.length vc)).heap[V.heap.size]?=some (.deferred (some [])):=(Below.heap_setCell _ _ _ _ (by simp;omega)).trans hK
   have c1:=zl5 (D:=V.heap.size) (o:=.deferred none) (World.cell?_setCell_same (a:=(⟨B,0,none⟩:Addr)) (w:=W) (v:=.slice va (zq s 0).1.length vc) r0) (by simp;omega)
   refine zl4 (v:=.tuple #[.slice va (zq s 0).1.length vc,.int .i64 (0:Nat),.int .i64 0]) rfl hK2 (by simp[results,Tryz.results87,go_sem,c1]) ?_
   have hch2:=zy (W.setCell ⟨B,0,none⟩ (.slice va (zq s 0).1.length vc)) V.heap.size (.deferred none)
   have hch1:Chg [B] W (W.setCell ⟨B,0,none⟩ (.slice va (zq s 0).1.length vc)):=(Chg.refl _ _).setCell (p:=⟨B,0,none⟩) _ (.inl (by simp))
   have hDK:∀g,(Value.slice va (zq s 0).1.length vc).ownBlock=some g→g≠V.heap.size:=by
    rintro g hg rfl
    rcases Hq3.out.2 with ⟨h1,-⟩|⟨g',cap,cur,hv,hg',hh,hr⟩
    ·rw[h1]at hg;cases hg
    ·rw[hv]at hg
     injection hg with hg
     simp only at hg
     subst hg
     rw[hK]at hh
     cases hh
   have hc:zfa s=((zq s 0).1,0,0):=by unfold zfa;rw[if_pos hz]
   rw[hc]
   refine CutSays.mk rfl (TokRow.of_own q5 ?_) ?_
   ·have h4:=zdr (zsb Hq3.out hch1 (by simp)) fun g hg hlt=>hch2.block g hlt (by simpa using hDK g hg)
    have hB:=HB.out
    refine⟨h4.1,h4.2.imp id ?_⟩
    rintro⟨g,cap,cur,h5,h6,h7⟩
    exact⟨g,cap,cur,h5,by omega,h7⟩
   ·exact Chg.ext hxV (((hm.chg.mono (T:=[B+1,B,V.heap.size]) (by simp)).trans (hch1.mono (by simp))).trans (hch2.mono (by simp))) (by have hB:=HB.out;simp;omega)
  ·have hzb:((zq s 0).2.2 != 0)=true:=by simpa using hz
   go_wp2_with fail
   have hWl:=q1.lt
   have hcl:B+1<W.heap.size:=e1.lt
   have HSV:=Lib.hid hsV
   clear hsV
   go_cut [3,4]from 22 to 29 (fun x y wx=>x=.int .i64 (zq s 0).2.1∧y=.int .i64 (zq s 0).2.2∧Own wx B [.slice none 0 0]∧Chg [B] W wx)
   case first =>
    refine wp_region_noPanic ?_
    go_region_with fail
    all_goals
     refine NoPanic.normal ?_
     (try simp only[Act.put,List.getElem_toArray,List.getElem_cons_succ,List.getElem_cons_zero,List.setIfInBounds_toArray,List.set_cons_zero,List.set_cons_succ])
     go_wp2_with fail
     go_meet
     exact⟨rfl,rfl,(q1.ext (Ext.drew (Below.refl _ W))).set (i:=0) (by simp) _,((Chg.refl [B] W).drew).setCell (p:=⟨B,0,none⟩) _ (.inl (by simp))⟩
   case rest =>
    obtain⟨rfl,rfl,hn,hch⟩:=hcut
    obtain⟨y0,-⟩:=hn 0 _ rfl
    have hK2:=(hch.block V.heap.size hD1 (by have:=HSV.out;simp;omega)).trans hK
    have c1:=zl5 (D:=V.heap.size) (o:=.deferred none) y0 (by have:=HSV.out;simp;omega)
    go_wp2_with fail
    refine zl4 (v:=.tuple #[.slice none 0 0,.int .i64 (zq s 0).2.1,.int .i64 (zq s 0).2.2]) rfl hK2 (by simp[results,Tryz.results87,go_sem,c1]) ?_
    have hch2:=zy wc V.heap.size (.deferred none)
    have hc:zfa s=([],(zq s 0).2):=by unfold zfa;rw[if_neg hz]
    rw[hc]
    refine CutSays.mk rfl GRow.nil ?_
    exact Chg.ext hxV (((hm.chg.mono (T:=[B+1,B,V.heap.size]) (by simp)).trans (hch.mono (by simp))).trans (hch2.mono (by simp))) (by have hB:=HB.out;have:=HSV.out;simp;omega)
end Go.Proofs.YtnclgkdpafhogaaGreat
namespace Go.Proofs.YtnclgkdpafhogaaGreat
open Go.ChangeShapes Go.WideShapes Go.ChangeAt Go.RowKit
theorem z1s (s:ByteArray) (hs:s.size≤1048576) (w:World) (m:Int) (hm:w.cell? ⟨0,0,none⟩=some (.int .i64 m)):Calls Tryz.prog 43 #[.string s] w (CutSays (cutS s) w):=by
 by_cases hl:8000<s.size
 ·have hd:decide ((8000:Int)<(s.size:Nat))=true:=decide_eq_true (by omega)
  have HC:=Lib.hid (show cutS s=([],0,3) by unfold cutS;rw[if_pos hl])
  rw[HC.out]
  go_enter Tryz.func43,Tryz.ntmps43
  go_wp2_with fail
  go_ret3
  exact CutSays.mk rfl GRow.nil (Below.refl _ _)
 ·have hd:decide ((8000:Int)<(s.size:Nat))=false:=decide_eq_false (by omega)
  have HC:=Lib.hid (show cutS s=zfa s by unfold cutS;rw[if_neg hl])
  have HT:=Lib.hid (z1r s hs w m hm)
  rw[HC.out]
  clear HC hl
  go_enter Tryz.func43,Tryz.ntmps43
  go_wp2_with (go_at_call 87;refine(HT.out).mono ?_;rintro e w1 ⟨⟨v,rfl,hv⟩,hx1⟩)
  go_ret3
  exact CutSays.mk rfl hv hx1
end Go.Proofs.YtnclgkdpafhogaaGreat
