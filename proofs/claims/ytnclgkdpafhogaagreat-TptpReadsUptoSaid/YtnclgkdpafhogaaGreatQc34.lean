/- The reference's item: formula. Condition: at most 8001 tokens, at most 8000000 entries. -/
import Derived.Test.YtnclgkdpafhogaaGreatQc33
import Derived.Test.YtnclgkdpafhogaaGreatQc23
import Derived.Deep.CutRange
import Derived.Deep.CutBlock
import Derived.Deep.DeepMust
set_option maxHeartbeats 16000000
set_option maxRecDepth 100000
namespace Go.Proofs.YtnclgkdpafhogaaGreat
open Go.ChangeShapes Go.WideShapes Go.ChangeAt Go.RowKit
def FormulaP (lb zb ib:Nat) (file:Int) (l:List Tok) (P:Nat→Prop) (files:List (ByteArray×ByteArray)) (opn:List Nat) (all:List Ent) (cnt:Nat) (vo va:Value) (w:World) (res:Out (Ent×List Tok)) (e:Ending) (w':World):Prop :=
 Chg (ib::lb::va.ownBlock.toList) w w'∧match res with
 |.ok x=>e=.returned (.bool true)∧ISt lb zb file ib l w' (.ok () x.2)∧∃va',LSt lb (fun b=>P b∨w.heap.size≤b) w' files opn (all++[x.1]) cnt vo va'∧Moved w va va'
 |.flt t=>e=.returned (.bool false)∧LFl lb w' t opn.length
section
variable {lb zb ib:Nat}{file:Int}{l:List Tok}{P:Nat→Prop}{w:World}{st:Rd Unit}{files:List (ByteArray×ByteArray)}{opn:List Nat}{all:List Ent}{cnt:Nat}{vo va:Value}
theorem FormulaP.bad {res:Out (Ent×List Tok)}{t:Flt}{w':World}(hr:res=.flt t) (h:LFl lb w' t opn.length) (hx:Chg [ib,lb] w w'):FormulaP lb zb ib file l P files opn all cnt vo va w res (.returned (.bool false)) w':=by
 subst hr
 exact⟨hx.mono (by simp),rfl,h⟩
theorem LSt.put {v':Value}{new:List Ent}{w1:World}(h:LSt lb P w files opn all cnt vo va) (hr:PRow 7 53 (lb+1) (fun b=>P b∧lb<b∧vo.ownBlock≠some b) w1 v' (new.map Ent.dat)) (hf:RFr w va w1 v'):LSt lb P (w1.setCell ⟨lb,2,none⟩ v') files opn new cnt vo v':=by
 obtain⟨fa,fc,h1,h2,h3,h4,h5,h6⟩:=h
 have hn:∀i∈va.ownBlock.toList,lb<i:=fun i hi=>by have:=(h5.own_ge (g:=i) (by simpa using hi)).1;omega
 have hc:Chg [lb] w1 (w1.setCell ⟨lb,2,none⟩ v'):=(Chg.refl [lb] w1).setCell _ (.inl (by simp))
 refine⟨fa,fc,(h1.chg hf.chg (fun hm=>by have:=hn lb hm;omega)).set (i:=2) (by simp) _,h2,Dat.Rows.chg (Dat.Rows.chg h3 hf.chg (fun b hb hm=>by have:=hn b hm;omega)) hc (fun b hb=>by simp;omega),(h4.chg hf.chg (fun i hi=>⟨fun e=>h6 i e (by simpa using hi),fun hb=>hb.elim⟩)).chg hc (fun i hi=>⟨fun e=>by have:=(h4.own_ge e).1;simp at hi;omega,fun hb=>hb.elim⟩),hr.chg hc (fun i hi=>⟨fun e=>by have:=(hr.own_ge e).1;simp at hi;omega,fun hb=>by have:=hb.2.1;simp at hi;omega⟩),fun g hg he=>?_⟩
 rcases hf.own with e|e
 ·exact h6 g hg (by rw[←e];exact he)
 ·have:=e g he;have:=(h4.own_ge hg).2;omega
theorem zwq {res:Out (Ent×List Tok)}{x:Ent}{r:List Tok}{wA w13:World}{v':Value}(ha:Ap lb zb ib P w vo va) (hL:LSt lb P w files opn all cnt vo va) (hres:res=.ok (x,r)) (hc:Chg [ib] w wA) (hI:ISt lb zb file ib l wA (.ok () r))
  (hrow:PRow 7 53 (lb+1) (fun b=>(P b∨w.heap.size≤b)∧lb<b∧vo.ownBlock≠some b) w13 v' (all.map Ent.dat++[x.dat])) (hf:RFr wA va w13 v'):FormulaP lb zb ib file l P files opn all cnt vo va w res (.returned (.bool true)) (w13.setCell ⟨lb,2,none⟩ v'):=by
 subst hres
 have hset:Chg [lb] w13 (w13.setCell ⟨lb,2,none⟩ v'):=(Chg.refl [lb] w13).setCell _ (.inl (by simp))
 have hs:=hc.size
 refine⟨((hc.mono (by simp)).trans (hf.chg.mono (fun i hi=>by simp;exact .inr (.inr (by simpa using hi))))).trans (hset.mono (by simp)),rfl,?_,v',?_,?_⟩
 ·exact(hI.chg hf.chg (fun b hb=>by have:=ha.h3 b (by simpa using hb);omega)).chg hset (fun b hb=>.inr (by have:=ha.h1;simp at hb;omega))
 ·exact LSt.put ((hL.chg hc ha.item).mono fun b hb _=>.inl hb) (by rw[List.map_append];exact hrow) hf
 ·exact hf.own.imp id fun h g hg=>Nat.le_trans hs (h g hg)
theorem ziv (hl:l.length≤8001) (hE:Ends l){ks:List Tok}{u:Unit}(hEk:Ends ks) (ha:Ap lb zb ib P w vo va) (h:ISt lb zb file ib l w (.ok u ks)) (hL:LSt lb P w files opn all cnt vo va) (hall:all.length≤8000000) (cnf:Bool) (fr:Int) :
  Calls Tryz.prog 115 #[.pointer (some ⟨ib,0,none⟩),.bool cnf,.int .i64 fr] w (FormulaP lb zb ib file l P files opn all cnt vo va w (entR l file cnf fr all.length ks)):=by
 have h0:=hE.pos
 have hl2:l.length≤1073741824:=by omega
 have hl3:l.length≤1073741823:=by omega
 have HMU:=Lib.hid (fun (S:World) (r:List Tok) (hm:ISt lb zb file ib l S (.ok () r)) (hx:Chg [ib] w S) (s:ByteArray)=>znf hl2 h0 (ha.grow hx.size) hm (hL.chg hx ha.item) s)
 have HNA:=Lib.hid (fun (S:World) (r:List Tok) (hm:ISt lb zb file ib l S (.ok () r)) (hx:Chg [ib] w S)=>ztc hl3 h0 (ha.grow hx.size) hm (hL.chg hx ha.item))
 have hlt:=ha.h5
 have HH:=Lib.hid h
 unfold Fine at HMU
 unfold zzu at HNA
 have ksuf:ks <:+ l:=by obtain⟨_,_,_,-,-,-,hs,-⟩:=h.good;exact hs
 go_enter Tryz.func115,Tryz.ntmps115
 go_upto_region 1 with fail
 have HM1:=Lib.hid (HMU.out w ks HH.out (Chg.refl _ _) za6)
 rcases zav (zl za6 ks)with ⟨r1,hq1⟩|⟨u1,r1,hq1⟩
 ·have HE:=Lib.hid (zch (l:=l) (file:=file) (cnf:=cnf) (fr:=fr) (n:=all.length) (zov hq1))
  simp only[hq1,Rd.isOk]at HM1
  simp only[za6]at HM1
  clear hq1
  go_wp2_with (go_at_call 155;refine(HM1.out).mono ?_;rintro e w1 ⟨rfl,h1,hx1⟩)
  go_ret
  exact FormulaP.bad HE.out h1 hx1
 simp only[hq1,Rd.isOk]at HM1
 simp only[za6]at HM1
 have HQ1:=Lib.hid hq1
 clear hq1
 go_upto_region 3 with (go_at_call 155;refine(HM1.out).mono ?_;rintro e w1 ⟨rfl,h1,hx1⟩)
 have HN2:=Lib.hid (HNA.out w1 r1 h1 hx1)
 rcases zav (zed r1)with ⟨r2,hq2⟩|⟨nm,r2,hq2⟩
 ·have HE:=Lib.hid (zch (l:=l) (file:=file) (cnf:=cnf) (fr:=fr) (n:=all.length) (zow HQ1.out hq2))
  simp only[hq2,Rd.isOk]at HN2
  clear hq2
  go_wp2_with (go_at_call 156;refine(HN2.out).mono ?_;rintro e w2 ⟨⟨s2,rfl,-,-⟩,h2,hx2⟩)
  go_ret
  exact FormulaP.bad HE.out h2 ((hx1.mono (by simp)).trans hx2)
 simp only[hq2,Rd.isOk]at HN2
 have HQ2:=Lib.hid hq2
 clear hq2
 go_upto_region 4 with (go_at_call 156;refine(HN2.out).mono ?_;rintro e w2 ⟨⟨s2,rfl,hns,hse⟩,h2,hx2'⟩;obtain rfl:=hse _ _ rfl;have hx2:=hx1.trans hx2')
 have HM3:=Lib.hid (HMU.out w2 r2 h2 hx2 zj)
 rcases zav (zl zj r2)with ⟨r3,hq3⟩|⟨u3,r3,hq3⟩
 ·have HE:=Lib.hid (zch (l:=l) (file:=file) (cnf:=cnf) (fr:=fr) (n:=all.length) (zox HQ1.out HQ2.out hq3))
  simp only[hq3,Rd.isOk]at HM3
  simp only[zj]at HM3
  clear hq3
  go_wp2_with (go_at_call 155;refine(HM3.out).mono ?_;rintro e w3 ⟨rfl,h3,hx3⟩)
  go_ret
  exact FormulaP.bad HE.out h3 ((hx2.mono (by simp)).trans hx3)
 simp only[hq3,Rd.isOk]at HM3
 simp only[zj]at HM3
 have HQ3:=Lib.hid hq3
 clear hq3
 go_upto_region 6 with (go_at_call 155;refine(HM3.out).mono ?_;rintro e w3 ⟨rfl,h3,hx3'⟩;have hx3:=hx2.trans hx3')
 have HP:=Lib.hid (zei hl2 h3)
 have HWR:=Lib.hid (fun (S:World) (hx:Ext w3 S)=>zdn hl2 (h3.ext hx))
 have HF:=Lib.hid (fun (S T:World) (hx:Chg [ib] w S) (hm:ISt lb zb file ib l T (.bad r3)) (hc:Chg [ib] S T)=>zfu hl2 h0 (by have:=ha.h1;have:=ha.h6;omega) hm (hL.chg (hx.trans hc) ha.item))
 have hs3:=hx3.size
 have h5T:∀t∈r3,t.ok:=fun t ht=>by obtain⟨_,_,_,-,-,-,hs,-⟩:=h3.good;exact h3.toks t (hs.subset ht)
 clear hx2' hx3' hse h1 h2 hx1 hx2
 rcases zav (za2 1 r3)with ⟨r4,hq4⟩|⟨role,r4,hq4⟩
 ·have HE:=Lib.hid (zch (l:=l) (file:=file) (cnf:=cnf) (fr:=fr) (n:=all.length) (zoy HQ1.out HQ2.out HQ3.out hq4))
  obtain⟨hkn,rfl⟩:=zhu (by decide) hq4
  obtain⟨T,hT⟩:∃T,T=zq r4:=⟨_,rfl⟩
  rw[←hT]at hkn
  have HT:=Lib.hid hT
  clear hq4 hT
  obtain⟨kd,tx,ta⟩:=T
  have q1:(kd != 1)=true:=by rw[bne_iff_ne];exact hkn
  clear hkn
  go_wp2_with (first
   |(go_at_call 84;refine(HP.out).mono ?_;rintro e w4 ⟨⟨t,rfl,hsz,ht⟩,hx4⟩;(obtain rfl:t=⟨kd,tx,ta⟩:=(ht _ _ rfl).trans HT.out.symm);clear ht;have hlt4:ib<w4.heap.size:=(by have:=hx4.size;omega);(have hx4':=hx4.trans (zd w4 (.cells #[.int .i64 kd,.string tx,.int .i64 ta] 77)));simp only[Tok.vals])
   |(go_at_call 117;refine(HWR.out _ hx4').mono ?_;rintro e w5 ⟨rfl,h5,hx5⟩)
   |(go_at_call 118;refine(HF.out _ _ (hx3.trans (Chg.of_ext hx4')) h5 hx5).mono ?_;rintro e w6 ⟨rfl,h6,hx6⟩))
  go_ret
  exact FormulaP.bad HE.out h6 ((((hx3.trans (Chg.of_ext hx4')).trans hx5).mono (by simp)).trans hx6)
 have HQ4:=Lib.hid hq4
 obtain⟨t,rfl,hk1,rfl⟩:=zc7 hq4
 obtain⟨kd,tx,ta⟩:=t
 simp only at hk1
 subst hk1
 obtain⟨a,c,p,hown,hp,hpk,hsuf3,hmove,-⟩:=h3.good
 obtain⟨c3,f3⟩:=hown 3 _ rfl
 have HM:=Lib.hid hmove
 have HPT:=Lib.hid (show ∀t:Tok,t=zq ((⟨1,tx,ta⟩:Tok)::r4)→t=⟨1,tx,ta⟩from fun t h=>h)
 have HKK:=Lib.hid (show((p:Int)+1)=((l.length-r4.length:Nat):Int) by have:=hsuf3.length_le;simp at this;simp at hpk;omega)
 have HR4:=Lib.hid ((List.suffix_cons (⟨1,tx,ta⟩:Tok) r4).trans hsuf3)
 have hp1:(p:Int)+1≤1073741824:=by have:=hsuf3.length_le;simp at this;simp at hpk;omega
 have htx:tx.size≤1073741824:=(h5T ⟨1,tx,ta⟩ (by simp)).2.1
 clear hq4 hpk hmove hown h5T
 go_upto_region 11 with (go_at_call 84;refine(HP.out).mono ?_;rintro e w4 ⟨⟨t,rfl,-,ht⟩,hx4⟩;(obtain rfl:t=⟨1,tx,ta⟩:=HPT.out _ (ht _ _ rfl));clear ht;have hlt4:ib<w4.heap.size:=(by have:=hx4.size;omega);(have hx4':=hx4.trans (zd w4 (.cells #[.int .i64 1,.string tx,.int .i64 ta] 77)));replace f3:=hx4.frozen c3 f3;replace c3:=hx4.cell c3;have hne4:w4.heap.size≠ib:=(by omega);simp only[Tok.vals])
 obtain⟨V5,hV5⟩:∃V5,V5=(w4.setCell ⟨ib,3,none⟩ (.int .i64 ((p:Int)+1))).alloc (.cells #[.int .i64 1,.string tx,.int .i64 ta] 77):=⟨_,rfl⟩
 have C5:Chg [ib] w V5:=by rw[hV5];exact((hx3.trans (Chg.of_ext hx4)).setCell _ (.inl (by simp))).alloc _
 have I5:ISt lb zb file ib l V5 (.ok () r4):=by rw[hV5];exact(HM.out _ (Chg.of_ext hx4) _ _ HR4.out HKK.out).ext (zd _ _)
 have b5:Own V5 w4.heap.size [.int .i64 1,.string tx,.int .i64 ta]:=by
  rw[hV5]
  have:=zaq (w4.setCell ⟨ib,3,none⟩ (.int .i64 ((p:Int)+1))) #[.int .i64 1,.string tx,.int .i64 ta] 77
  rw[show(w4.setCell ⟨ib,3,none⟩ (.int .i64 ((p:Int)+1))).heap.size=w4.heap.size by simp[World.setCell]]at this
  exact this
 have hwb:w.heap.size≤w4.heap.size:=by have:=hx4.size;omega
 rw[←hV5]
 clear hV5 c3 f3 hx4' hx4
 generalize w4.heap.size=tb at *
 have htb:tb∉[ib]:=by simp;omega
 have HM6:=Lib.hid (HMU.out V5 r4 I5 C5 zj)
 rcases zav (zl zj r4)with ⟨r5,hq5⟩|⟨u5,r5,hq5⟩
 ·have HE:=Lib.hid (zch (l:=l) (file:=file) (cnf:=cnf) (fr:=fr) (n:=all.length) (zoz HQ1.out HQ2.out HQ3.out HQ4.out hq5))
  simp only[hq5,Rd.isOk]at HM6
  simp only[zj]at HM6
  clear hq5
  go_wp2_with (go_at_call 155;refine(HM6.out).mono ?_;rintro e w6 ⟨rfl,h6,hx6⟩)
  go_ret
  exact FormulaP.bad HE.out h6 ((C5.mono (by simp)).trans hx6)
 have hH:=Lib.hid (zlo HQ1.out HQ2.out HQ3.out HQ4.out hq5)
 simp only[hq5,Rd.isOk]at HM6
 simp only[zj]at HM6
 clear hq5
 go_upto_region 13 with (go_at_call 155;refine(HM6.out).mono ?_;rintro e w6 ⟨rfl,h6,hx6⟩)
 have C6:=C5.trans hx6
 have b6:=b5.chg hx6 htb
 have L6:=hL.chg C6 ha.item
 have HR:=Lib.hid (fun w=>zos tx w)
 obtain⟨y0,-⟩:=b6 0 _ rfl
 obtain⟨y1,-⟩:=b6 1 _ rfl
 obtain⟨y2,-⟩:=b6 2 _ rfl
 have lt6:=b6.lt
 go_cut [65]from 54 to 65 (fun x wx=>x=.bool (!(zdc cnf tx))∧wx=w6)
 case first =>
  rcases zkf cnf tx with ⟨e0,e1⟩|⟨e0,e1,rfl,e3⟩|⟨e0,e1,rfl⟩|⟨e0,e1,rfl,e3⟩
  all_goals
   rw[e1]at HR
   try have q2:(tx.toList==[99,111,110,106,101,99,116,117,114,101])=_:=eqL (r:=zf0) (by rw[Go.ByteArray.toList_eq];rfl) e3
   have HE0:=Lib.hid e0
   clear e0 e1
   try clear e3
   go_wp2_with (go_at_call 73;refine(HR.out _).mono ?_;rintro e w7 ⟨rfl,hw7⟩;subst hw7)
   go_meet
   exact⟨by rw[HE0.out];rfl,rfl⟩
 case rest =>
  obtain⟨rfl,hwc⟩:=hcut
  rw[hwc]
  clear hwc
  have hne6:lb≠ib:=by have:=ha.h1;have:=ha.h6;omega
  obtain⟨a6,c6,p6,hown6,-,hpk6,hsuf6,-,-⟩:=h6.good
  have HPK6:=Lib.hid hpk6
  have HS6:=Lib.hid hsuf6
  clear hpk6 hsuf6 hsuf3 hp hp1 hne4
  obtain⟨i0,-⟩:=hown6 0 _ rfl
  obtain⟨i1,-⟩:=hown6 1 _ rfl
  have hlt6:ib<w6.heap.size:=h6.lt
  cases hro:zdc cnf tx with
  |false =>
   have HE:=Lib.hid (zo0 (l:=l) (file:=file) (fr:=fr) (n:=all.length) hH.out hro)
   have HFA:=Lib.hid (fun (S:World) (hx:Ext w6 S)=>zcp (file:=file) (L6.ext hx) (at':=ta) (e0:=241) (by decide))
   clear hro b6 hown6
   go_upto_region 14 with fail
   go_still_tail 10,(by kernel_rfl)
   change wpList _ _ _ _ _ w6.drew
   go_wp2_with (go_at_call 114;refine(HFA.out _ (Ext.drew (Below.refl _ _))).mono ?_;rintro e w7 ⟨rfl,h7,hx7⟩)
   go_ret
   exact FormulaP.bad HE.out h7 (((C6.mono (by simp)).drew).trans (hx7.mono (by simp)))
  |true =>
   have HRO:=Lib.hid hro
   have he5:Ends r5:=ze6 _ _ _ hEk hH.out
   have hr5:r5 <:+ l:=HS6.out
   clear hro
   obtain⟨f,nx,er,hd⟩:∃f nx er,zb0 l (l.length-r5.length:Nat)=(f,nx,er):=⟨_,_,_,rfl⟩
   have HD:=Lib.hid hd
   have hat:=zmq hE hr5 he5
   rw[hd]at hat
   simp only at hat
   obtain⟨aT,cT,pT,zT,hoT,hcT,htT,hpT,hsT,hkT,rfl⟩:=id h6
   obtain rfl:pT=l.length-r5.length:=by omega
   have HRD:=Lib.hid (fun w' (hx:Ext w6 w')=>zrr l (by omega) (P:=fun b=>zb≤b∧b<ib) (w:=w') (a:=aT) (c:=cT) (Dat.Rows.ext htT.2 hx) hcT (l.length-r5.length:Nat) (by omega) (by omega))
   rw[hd]at HRD
   unfold ReadSays at HRD
   dsimp only at HRD
   have HTK:=Lib.hid (fun w' (hx:Ext w6 w')=>(htT.ext hx).toks)
   have HMV:=Lib.hid (show ∀w',Chg [] w6 w'→∀r z,r <:+ l→z=((l.length-r.length:Nat):Int)→ISt lb zb file ib l (w'.setCell ⟨ib,3,none⟩ (.int .i64 z)) (.ok () r)from by obtain⟨_,_,_,-,-,-,-,hm,-⟩:=h6.good;exact hm)
   obtain⟨j0,-⟩:=hoT 0 _ rfl
   obtain⟨j1,-⟩:=hoT 1 _ rfl
   obtain⟨j2,-⟩:=hoT 2 _ rfl
   obtain⟨j3,jf3⟩:=hoT 3 _ rfl
   clear hd htT hcT hpT hsT hkT i0 i1 hown6 y0 y1 y2
   go_upto_region 16 with fail
   go_cut [10,11,12]from 77 to 91 (fun x y z wx=>∃(fb:Nat) (x0 x1 x2 x3:Value),x=.pointer (some ⟨fb,0,none⟩)∧y=.int .i64 nx∧z=.int .i64 er∧Own wx fb [x0,x1,x2,x3]∧w6.heap.size≤fb∧IsFm (fun g=>w6.heap.size≤g∧g≠fb) wx x0 x1 x2 x3 f∧Ext w6 wx)
   case first =>
    clear b6 jf3
    go_region_law ((go_simp;go_at_call 13;refine(HRD.out _ (by first|exact Ext.drew (Below.refl _ _)|exact(Ext.drew (Below.refl _ _)).alloc _|exact Ext.drew (zd _ _))).mono ?_;rintro e w8 ⟨⟨v8,rfl,x0,x1,x2,x3,rfl,hfm⟩,hx8⟩;(obtain⟨d1,e1',d2,e2',d3,e3',rfl,rfl,rfl,rfl⟩:=zco hfm);first
     |((have hx9:Ext ((w6.alloc (.cells #[.int .i64 0,.slice none 0 0,.slice none 0 0,.slice none 0 0] 29)).drew) w8:=(by with_reducible exact hx8));(have hE:Ext w6 w8:=Ext.trans (Ext.drew (zd _ _)) hx9);(have hb:=((own4 w6 (.int .i64 0) (.slice none 0 0) (.slice none 0 0) (.slice none 0 0) 29).ext (Ext.trans (Ext.drew (Below.refl _ _)) hx9)));have hbl:=hb.lt;(obtain⟨⟨n0,m0⟩,⟨n1,m1⟩,⟨n2,m2⟩,⟨n3,m3⟩⟩:=hb.cells4))
     |((have hx0:Ext w6.drew w8:=(by with_reducible exact hx8));(have hE:Ext w6 w8:=Ext.trans (Ext.drew (Below.refl _ _)) hx0);(have hb:=(own4 w8 (.int .i64 0) (.slice none 0 0) (.slice none 0 0) (.slice none 0 0) 29));have hbl:=hb.lt;(obtain⟨⟨n0,m0⟩,⟨n1,m1⟩,⟨n2,m2⟩,⟨n3,m3⟩⟩:=hb.cells4))))
    all_goals
     go_wp2_with fail
     go_meet
     first
      |(have hw:=hx9
        have hch:=zai w8 w6.heap.size (.int .i64 f.op) (.slice d1 f.vars.length e1') (.slice d2 f.terms.length e2') (.slice d3 f.args.length e3')
        exact⟨w6.heap.size,_,_,_,_,rfl,rfl,rfl,zac hb _ _ _ _,Nat.le_refl _,Dat.Fs.mono (Dat.Fs.chg hfm hch (fun g hg=>by have h1:_≤g:=hg;simp at h1 ⊢;omega)) (fun g hg _=>by have h1:_≤g:=hg;simp at h1;omega),Chg.ext hE hch (by simp)⟩)
      |(have hw:=hx0
        exact⟨w8.heap.size,_,_,_,_,rfl,rfl,rfl,own4 w8 _ _ _ _ _,hE.size,Dat.Fs.ext (Dat.Fs.mono hfm fun g hg hlt=>⟨by have h1:_≤g:=hg;simpa using h1,by omega⟩) (zd _ _),hE.alloc _⟩)
   case rest =>
    obtain⟨fb,x0,x1,x2,x3,rfl,rfl,rfl,hfb,hfbw,hfm,hxW⟩:=hcut
    have b7:=b6.ext hxW
    have C7:=C6.trans (Chg.of_ext hxW)
    have L7:=L6.ext hxW
    have hsW:=hxW.size
    obtain⟨k,hk⟩:∃k:Nat,nx=k:=⟨nx.toNat,by omega⟩
    subst hk
    have hkl:k<l.length:=by omega
    replace jf3:=hxW.frozen j3 jf3
    replace j0:=hxW.cell j0
    replace j1:=hxW.cell j1
    replace j2:=hxW.cell j2
    replace j3:=hxW.cell j3
    have hltW:=zf j0
    simp only at hltW
    clear b6 HRD
    by_cases her:er=0
    case neg =>
     have q:(er != 0)=true:=by rw[bne_iff_ne];exact her
     have HER:=Lib.hid her
     have HFL:=Lib.hid (fun (S:World) (hx:Ext wc S)=>zcp (file:=file) (L7.ext hx) (at':=(l[k]).at') (e0:=er) her)
     have HTO:=Lib.hid (show(zre l (k:Int)).at'=(l[k]).at' by rw[zpt (by omega) (by omega),Int.toNat_natCast,zes hkl])
     obtain⟨tb2,to2,hat2,htb2,t0,t1,t2,-⟩:=(HTK.out _ hxW).look hkl
     subst hat2
     have hkl':(k:Int)<l.length:=by omega
     generalize l[k]=tk at *
     clear her hat b7 hfb hfm jf3 HTK HMV
     go_upto_region 18 with fail
     go_still_tail 18,(by kernel_rfl)
     change wpList _ _ _ _ _ wc.drew
     go_wp2_with (go_at_call 114;refine(HFL.out _ (Ext.drew (Below.refl _ _))).mono ?_;rintro e w10 ⟨rfl,h10,hx10⟩)
     go_ret
     exact FormulaP.bad (zo1 hH.out HRO.out HD.out HER.out) (by rw[HTO.out];exact h10) (((C7.mono (by simp)).drew).trans (hx10.mono (by simp)))
    case pos =>
     subst her
     have hfsz:f.size≤4194304:=by have:=zh9 hr5 HD.out;omega
     obtain⟨a1,a2,a3⟩:=hat.2.2 rfl
     simp only[Int.toNat_natCast]at a1 a2 a3
     obtain⟨d1,e1,d2,e2,d3,e3,rfl,rfl,rfl,rfl⟩:=zco hfm
     have hs6:ib<w6.heap.size:=h6.lt
     have hfbi:fb∉[ib]:=by simp;omega
     have HAA:=Lib.hid (And.intro a1 hkl)
     clear hat HTK a1 a2 a3
     go_upto_region 21 with fail
     obtain⟨V8,hV8⟩:∃V8,V8=wc.setCell ⟨ib,3,none⟩ (.int .i64 k):=⟨_,rfl⟩
     have c8:Chg [ib] wc V8:=by rw[hV8];exact(Chg.refl [ib] wc).setCell _ (.inl (by simp))
     have I8:ISt lb zb file ib l V8 (.ok () (l.drop k)):=by rw[hV8];exact HMV.out wc (Chg.of_ext hxW) _ _ (HAA.out.1.trans hr5) (by rw[List.length_drop];have:=HAA.out.2;omega)
     have C8:=C7.trans c8
     have b8:=b7.chg c8 htb
     have hfb8:=hfb.chg c8 hfbi
     have hfm8:=Dat.Fs.chg hfm c8 (fun g hg=>by have h1:=hg.1;simp;omega)
     rw[←hV8]
     clear hV8 c8 b7 hfb hfm C7 j0 j1 j2 j3 jf3 HMV HAA
     have HM7:=Lib.hid (HMU.out V8 (l.drop k) I8 C8 zbo)
     rcases zav (zl zbo (l.drop k))with ⟨r6,hq6⟩|⟨u6,r6,hq6⟩
     ·have HE:=Lib.hid (zi2 (file:=file) (cnf:=cnf) (fr:=fr) (n:=all.length) hH.out HRO.out HD.out (by rw[Int.toNat_natCast];exact zsv hq6))
      simp only[hq6,Rd.isOk]at HM7
      simp only[zbo]at HM7
      clear hq6
      go_wp2_with (go_at_call 155;refine(HM7.out).mono ?_;rintro e w9 ⟨rfl,h9,hx9⟩)
      go_ret
      exact FormulaP.bad HE.out h9 ((C8.mono (by simp)).trans hx9)
     simp only[hq6,Rd.isOk]at HM7
     simp only[zbo]at HM7
     have HM8:=Lib.hid (fun (S:World) (hm:ISt lb zb file ib l S (.ok () r6)) (hx:Chg [ib] w S)=>HMU.out S r6 hm hx sDot)
     rcases zav (zl sDot r6)with ⟨r7,hq7⟩|⟨u7,r7,hq7⟩
     ·have HE:=Lib.hid (zi2 (file:=file) (cnf:=cnf) (fr:=fr) (n:=all.length) hH.out HRO.out HD.out (by rw[Int.toNat_natCast];exact zsw hq6 hq7))
      simp only[hq7,Rd.isOk]at HM8
      simp only[sDot]at HM8
      clear hq6 hq7
      go_wp2_with (first|(go_at_call 155;refine(HM8.out _ h9 (C8.trans hx9)).mono ?_;rintro e w10 ⟨rfl,h10,hx10⟩)|(go_at_call 155;refine(HM7.out).mono ?_;rintro e w9 ⟨rfl,h9,hx9⟩))
      go_ret
      exact FormulaP.bad HE.out h10 (((C8.trans hx9).mono (by simp)).trans hx10)
     have HL:=Lib.hid (zo2 (file:=file) (fr:=fr) (n:=all.length) (cnf:=cnf) hH.out HRO.out HD.out (by rw[Int.toNat_natCast];exact zo3 hq6 hq7))
     simp only[hq7,Rd.isOk]at HM8
     simp only[sDot]at HM8
     clear hq6 hq7
     go_upto_region 23 with (first|(go_at_call 155;refine(HM8.out _ h9 (C8.trans hx9)).mono ?_;rintro e w10 ⟨rfl,h10,hx10⟩)|(go_at_call 155;refine(HM7.out).mono ?_;rintro e w9 ⟨rfl,h9,hx9⟩))
     have c10:=hx9.trans hx10
     have C10:=C8.trans c10
     have b10:=b8.chg c10 htb
     have hfb10:=hfb8.chg c10 hfbi
     have hfm10:=Dat.Fs.chg hfm8 c10 (fun g hg=>by have h1:=hg.1;simp;omega)
     obtain⟨y1,-⟩:=b10 1 _ rfl
     obtain⟨⟨n0,-⟩,⟨n1,-⟩,⟨n2,-⟩,⟨n3,-⟩⟩:=hfb10.cells4
     have l10:=b10.lt
     have l11:=hfb10.lt
     have hs10:w6.heap.size≤w10.heap.size:=by have:=c10.size;have:=C8.size;have:=hfb8.lt;omega
     clear HM7 HM8 h9 hx9 hx10 b8 hfb8 hfm8 c10
     go_upto_region 24 with fail
     obtain⟨V11,hV11⟩:∃V11,V11=w10.alloc (.cells #[.bool cnf,.string s2,.string tx,.int .i64 f.op,.slice d1 f.vars.length e1,.slice d2 f.terms.length e2,.slice d3 f.args.length e3] 53):=⟨_,rfl⟩
     have e11:Ext w10 V11:=by rw[hV11];exact zd _ _
     have b11:Own V11 w10.heap.size [.bool cnf,.string s2,.string tx,.int .i64 f.op,.slice d1 f.vars.length e1,.slice d2 f.terms.length e2,.slice d3 f.args.length e3]:=by rw[hV11];exact zaq w10 _ _
     have hfm11:=Dat.Fs.ext hfm10 e11
     rw[←hV11]
     clear hV11 y1 n0 n1 n2 n3 b10 hfb10 hfm10
     obtain⟨xb,hxb⟩:∃xb,xb=w10.heap.size:=⟨_,rfl⟩
     rw[←hxb]at b11 ⊢
     have hxbw:w6.heap.size≤xb:=by omega
     clear hxb l10 l11
     obtain⟨⟨k0,k1,k2⟩,⟨k3,k4,k5,k6⟩,lt11⟩:=zcf b11
     have HSH:=Lib.hid (zna ⟨cnf,s2,tx,f⟩ _ _ _ _ _ _ ⟨hns,htx,hfm11⟩ hfsz)
     unfold entV at HSH
     simp only at HSH
     by_cases hse:za1 cnf f=0
     case neg =>
      have q:(za1 cnf f != 0)=true:=by rw[bne_iff_ne];exact hse
      have q':(za1 cnf f==0)=false:=by rw[beq_eq_false_iff_ne];exact hse
      replace HL:=Lib.hid (HL.out.trans (if_pos hse))
      have HSE:=Lib.hid hse
      clear hse
      generalize za1 cnf f=se at *
      go_upto_region 28 with (go_at_call 74;refine(HSH.out).mono ?_;rintro e w12 ⟨rfl,hx12⟩;(obtain⟨_,_,_,_,ho12,-⟩:=(h10.ext e11).ext hx12);(obtain⟨j0,-⟩:=ho12 0 _ rfl);(obtain⟨j1,-⟩:=ho12 1 _ rfl);have lt12:=ho12.lt;clear ho12)
      have C12:=C10.trans (Chg.of_ext (e11.trans hx12))
      have HFL:=Lib.hid (fun (S:World) (hx:Ext w12 S)=>zcp (file:=file) ((hL.chg C12 ha.item).ext hx) (at':=fr) (e0:=se) HSE.out)
      go_still_tail 10,(by kernel_rfl)
      change wpList _ _ _ _ _ w12.drew
      go_wp2_with (go_at_call 114;refine(HFL.out _ (Ext.drew (Below.refl _ _))).mono ?_;rintro e w13 ⟨rfl,h13,hx13⟩)
      go_ret
      exact FormulaP.bad HL.out h13 (((C12.mono (by simp)).drew).trans (hx13.mono (by simp)))
     case pos =>
      replace HL:=Lib.hid (HL.out.trans (if_neg (fun h=>h hse)))
      rw[hse]at HSH
      clear hse
      obtain⟨-,av,cv,hv,hcv⟩:=hL.form
      subst hv
      go_upto_region 25 with (go_at_call 74;refine(HSH.out).mono ?_;rintro e w12 ⟨rfl,hx12⟩)
      have C12:=C10.trans (Chg.of_ext (e11.trans hx12))
      have I12:=(h10.ext e11).ext hx12
      have L12:=hL.chg C12 ha.item
      have b12:=b11.ext hx12
      have hfm12:=Dat.Fs.ext hfm11 hx12
      have hs12:=hx12.size
      obtain⟨_,_,_,_,ho12,-⟩:=id I12
      obtain⟨j0,-⟩:=ho12 0 _ rfl
      obtain⟨j1,-⟩:=ho12 1 _ rfl
      have lt12:=ho12.lt
      obtain⟨fa,fc,g1,-,-,g4,g5,-⟩:=id L12
      obtain⟨q2,qf2⟩:=g1 2 _ rfl
      have ltl:=g1.lt
      clear ho12 g1 hx12 k0 k1 k2 k3 k4 k5 k6 HSH h10 e11 hfm11 b11 C10
      by_cases hlong:200≤all.length
      case pos =>
       have hlong':(200:Int)≤(all.length:Int):=by omega
       replace HL:=Lib.hid (HL.out.trans (if_pos hlong))
       clear hlong
       have HFL:=Lib.hid (fun (S:World) (hx:Ext w12 S)=>zcp (file:=file) (L12.ext hx) (at':=fr) (e0:=3) (by decide))
       go_upto_region 28 with fail
       go_still_tail 10,(by kernel_rfl)
       change wpList _ _ _ _ _ w12.drew
       go_wp2_with (go_at_call 114;refine(HFL.out _ (Ext.drew (Below.refl _ _))).mono ?_;rintro e w13 ⟨rfl,h13,hx13⟩)
       go_ret
       exact FormulaP.bad HL.out h13 (((C12.mono (by simp)).drew).trans (hx13.mono (by simp)))
      case neg =>
       have hlong':¬(200:Int)≤(all.length:Int):=by omega
       replace HL:=Lib.hid (HL.out.trans (if_neg hlong))
       clear hlong
       obtain⟨i0,hi0,hz0,hz1',hz2'⟩:=info_parts zkh
       obtain⟨⟨k0,k1,k2⟩,⟨k3,k4,k5,k6⟩,lt13⟩:=zcf b12
       have hW6:w.heap.size≤w6.heap.size:=C6.size
       have hW12:w.heap.size≤w12.heap.size:=C12.size
       have HVO:=Lib.hid (fun g (hg:vo.ownBlock=some g)=>(by obtain⟨_,_,_,-,-,h4,-⟩:=id hL;exact(h4.own_ge hg).2:g<w.heap.size))
       have HVA:=Lib.hid (fun g (hg:(Value.slice av all.length cv).ownBlock=some g)=>(by obtain⟨_,_,_,-,-,-,h5,-⟩:=id hL;exact⟨(h5.own_ge hg).1,(h5.own_ge hg).2⟩:lb+1≤g∧g<w.heap.size))
       have hlw:lb<w.heap.size:=hL.lt
       have hrow12:=g5.mono (Q:=fun b=>(P b∨w.heap.size≤b)∧lb<b∧vo.ownBlock≠some b) (fun b hb _=>⟨.inl hb.1,hb.2⟩)
       have hent:=Dat.Fs.mono (Q:=fun g=>w.heap.size≤g) (IsEnt.fs (x:=⟨cnf,s2,tx,f⟩) ⟨hns,htx,hfm12⟩) fun g hg _=>by have h1:=hg.1;omega
       have hfar:lb∉(Value.slice av all.length cv).ownBlock.toList:=fun hm=>by have:=HVA.out lb (by simpa using hm);omega
       have hfar2:ib∉(Value.slice av all.length cv).ownBlock.toList:=fun hm=>by have:=ha.h3 ib (by simpa using hm);have:=ha.h6;omega
       have Hml:=Lib.hid (show(all.map Ent.dat).length=all.length by rw[List.length_map])
       have H12:=Lib.hid (And.intro C12 I12)
       have hxA:=fun arr (t:TypeId)=>(Ext.drew (Below.refl _ w12)).trans (zd w12.drew (.cells arr t))
       clear g4 g5 L12 b12 hfm12 C12 I12
       go_upto_region 30 with fail
       go_region_law (refine ziy (m:=7) (Q:=fun b=>w.heap.size≤b) Tryz.underlying45 hi0 hz0 hz1' hz2' rfl (by decide) (by decide) rfl _ _ rfl rfl (v:=.slice av all.length cv) (l:=all.map Ent.dat) (M:=[Ent.dat ⟨cnf,s2,tx,f⟩]) (hrow12.ext (hxA _ _)) rfl (zwn (cs:=[.bool cnf,.string s2,.string tx,.int .i64 f.op,.slice d1 f.vars.length e1,.slice d2 f.terms.length e2,.slice d3 f.args.length e3]) (Dat.Fs.ext hent (Ext.drew (Below.refl _ _))) (by simp) hW12) (fun y hy=>(by rw[List.mem_singleton]at hy;subst hy;exact Ent.dat_length _)) (fun b hb _=>⟨⟨.inr hb,(by omega),fun e=>(by have:=HVO.out b e;omega)⟩,fun e=>(by have:=(HVA.out b e).2;omega)⟩) (by rw[Hml.out];simp only[List.length_cons,List.length_nil];omega) (Nat.le_trans (show lb+1≤w12.heap.size from (by omega)) (hxA _ _).size) ?_;intro v13 w13 hrow13 hfr13;(have q3:=hfr13.chg.cell ((hxA _ _).cell q2) hfar);(have qf3:=hfr13.chg.frozen ((hxA _ _).cell q2) hfar ((hxA _ _).frozen q2 qf2));(have j3:=hfr13.chg.cell ((hxA _ _).cell j0) hfar2);(have ltj:=zf j3);(have ltq:=zf q3);(obtain⟨a13,c13,hv13,-⟩:=hrow13.form);(rw[List.length_append,List.length_map,List.length_singleton]at hv13);subst hv13)
       all_goals
        go_wp2_with fail
        go_ret
        exact zwq ha hL HL.out (H12.out.1.trans (Chg.of_ext (hxA _ _))) (H12.out.2.ext (hxA _ _)) hrow13 hfr13
end
end Go.Proofs.YtnclgkdpafhogaaGreat
