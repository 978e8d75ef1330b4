/- The reference's Reader: bound, from what unit does. Condition: a row of at most 2^30 tokens, not empty.
The reference's Reader: atomic. Condition: a row of at most 2^30 tokens, not empty.
The reference's Reader: row, from what unit does. Condition: a row of at most 2^30 tokens, not empty. -/
import Derived.Test.YtnclgkdpafhogaaGreatQc19
set_option maxHeartbeats 16000000
set_option maxRecDepth 100000
namespace Go.Proofs.YtnclgkdpafhogaaGreat
open Go.ChangeShapes Go.WideShapes Go.ChangeAt Go.RowKit
def zbn (rb:Nat) (l:List Tok) (n:Nat):Prop:=∀st,toGo st≤n+1→∀w,RSt rb l w st→Calls Tryz.prog 83 #[.pointer (some ⟨rb,0,none⟩)] w (zar za8 rb l w (st.bind fun _ ks=>zi ks))
theorem zo6 {α:Type}{one:List Tok→Rd α}{sep:ByteArray}{st:Rd Unit}{x':α}(hv:∀x r,(st.bind fun _ ks=>one ks)=.ok x r→x'=x):(st.bind fun _ r=>rowR one sep r)=(st.bind fun _ ks=>one ks).st.bind fun _ r=>(more one sep r).map ([x']++·):=by
 cases st with
 |bad r=>rfl
 |ok u r=>exact zop hv
theorem zvq {α:Type}{one:List Tok→Rd α}{st:Rd Unit}(hs:∀n,zbk one n):toGo (st.bind fun _ ks=>one ks).st+1≤toGo st∨toGo (st.bind fun _ ks=>one ks).st=0:=by
 cases st with
 |bad r=>exact .inr rfl
 |ok u r =>
  simp only[Rd.bind_ok]
  cases h:one r with
  |bad r=>exact .inr rfl
  |ok x k=>have:=hs _ r x k (Nat.le_refl _) h;exact .inl (by simp only[Rd.st,toGo];omega)
theorem zo7 {s:ByteArray}{st:Rd Unit}:toGo (st.bind fun _ ks=>zl s ks)≤toGo st:=by
 cases st with
 |bad r=>exact Nat.le_refl _
 |ok u r =>
  simp only[Rd.bind_ok]
  cases h:zl s r with
  |bad r=>exact Nat.zero_le _
  |ok x k=>have:=zbe h;simp only[toGo];omega
theorem zeg {rb nb:Nat}{l:List Tok}{st:Rd Unit}{w w2:World}{z0 z1 z2 z3 x0 x1 x2 x3:Value}{fn:Func}{R:Ending→World→Prop}{a:Act}(hq:Chg [rb] w w2) (hnb:w.heap.size≤nb) (hcb:rb<nb) (hc:RSt rb l w2 st) (hn:Own w2 nb [z0,z1,z2,z3])
  (hr:∀W2:World,W2.cell? ⟨nb,0,none⟩=some x0→W2.cell? ⟨nb,1,none⟩=some x1→W2.cell? ⟨nb,2,none⟩=some x2→W2.cell? ⟨nb,3,none⟩=some x3→(results fn a.tmps).run Tryz.prog W2=.ok (.agg #[x0,x1,x2,x3]) W2)
  (hd:a.defers=[]) (hR:∀W2,RSt rb l W2 st→Chg [rb] w W2→Chg [nb] w2 W2→R (.returned (.agg #[x0,x1,x2,x3])) W2) :
  bodyPost Tryz.prog fn R .ret a ((((w2.setCell ⟨nb,0,none⟩ x0).setCell ⟨nb,1,none⟩ x1).setCell ⟨nb,2,none⟩ x2).setCell ⟨nb,3,none⟩ x3):=by
 have hres:=zac hn x0 x1 x2 x3
 have hch:=zai w2 nb x0 x1 x2 x3
 have hcq:=Chg.drop (T:=[rb]) (Below.refl _ _) ((hq.mono (T:=[rb,nb]) (by simp)).trans (hch.mono (by simp))) (by simp;omega)
 obtain⟨r0,r1,r2,r3⟩:=za9 hres
 exact bodyPost_ret (hr _ r0 r1 r2 r3) hd (hR _ (hc.chg hch (by simpa using hcb)) hcq hch)
def zzl (rb:Nat) (l:List Tok) (V:World) (B xb nb:Nat) (op:Int) (m:Nat) (A:Rd (List ByteArray)) (g:Nat) (wr:World):Prop :=
 ∃(st:Rd Unit) (pre:List ByteArray) (vv:Value),g=toGo st∧RSt rb l wr st∧GRow (zz 1) 9 B wr vv (pre.map zct)∧Own wr xb [.int .i64 op,vv,.slice none 0 0,.slice none 0 0]∧Own wr nb [.int .i64 0,.slice none 0 0,.slice none 0 0,.slice none 0 0]∧Chg [rb,xb] V wr ∧
  pre.length+toGo st≤m∧A=st.bind fun _ r=>(more (za2 2) zj r).map (pre++·)
theorem zzc {rb:Nat}{l:List Tok}{V wr w4 w5:World}{B xb nb:Nat}{op:Int}{m:Nat}{A:Rd (List ByteArray)}{st:Rd Unit}{pre:List ByteArray}{x':ByteArray}{vv vv':Value}{o:Obj}
  (hq:Chg [rb,xb] V wr) (hx4:Chg [rb] wr w4) (hst:RSt rb l w4 st) (hrow4:GRow (zz 1) 9 B w4 vv (pre.map zct)) (hxb:Own wr xb [.int .i64 op,vv,.slice none 0 0,.slice none 0 0]) (hnb:Own wr nb [.int .i64 0,.slice none 0 0,.slice none 0 0,.slice none 0 0])
  (hgrow:(w4.alloc o).grownBy w5 vv.ownBlock) (hrow5:GRow (zz 1) 9 B w5 vv' (pre.map zct++[zct x'])) (h1:rb<xb) (h2:xb<B) (h3:nb<B) (h4:nb≠xb) (h5:nb≠rb) (hV:V.heap.size≤B)
  (hlen:pre.length+1+toGo st≤m) (hA:A=st.bind fun _ r=>(more (za2 2) zj r).map ((pre++[x'])++·)):zzl rb l V B xb nb op m A (toGo st) (w5.setCell ⟨xb,1,none⟩ vv'):=by
 have hset:=(Chg.refl [xb] w5).setCell (p:=⟨xb,1,none⟩) vv' (.inl (by simp))
 have hnot:∀b,b<B→vv.ownBlock≠some b:=fun b hb e=>by have:=(hrow4.own_ge e).1;omega
 refine⟨st,pre++[x'],vv',rfl,((hst.ext (zd _ o)).append hrow4 (by omega) hgrow).chg hset (by simp;omega),?_,?_,?_,?_,by simp;omega,hA⟩
 ·rw[List.map_append]
  exact hrow5.chg hset (by simp;omega)
 ·exact(zb5 ((hxb.chg hx4 (by simp;omega)).ext (zd _ o)) hgrow (hnot _ h2)).set (i:=1) (by simp) vv'
 ·exact(zb5 ((hnb.chg hx4 (by simpa using h5)).ext (zd _ o)) hgrow (hnot _ h3)).chg hset (by simpa using h4)
 ·exact(zbr (hq.trans (hx4.mono (by simp))) hrow4 hV (zd _ o) hgrow).trans (hset.mono (by simp))
theorem zlr {rb:Nat}{l:List Tok}(hl:l.length≤1073741820){n:Nat}(ih:zbn rb l n){u:Unit}{ks:List Tok}(hkn:ks.length≤n){w:World}(h:RSt rb l w (.ok u ks)) (op:Int) (h0:-9223372036854775808≤op) (h0':op≤9223372036854775807) :
  Calls Tryz.prog 133 #[.pointer (some ⟨rb,0,none⟩),.int .i64 op] w (zar za8 rb l w (z8 zi op ks)):=by
 have hl2:l.length≤1073741824:=by omega
 have hlt:=h.lt
 have hkl:ks.length≤l.length:=by obtain⟨_,_,_,_,_,_,hs,_⟩:=h.good;exact hs.length_le
 have HIH:=Lib.hid ih
 clear ih
 obtain⟨W,hW⟩:∃W,W=(w.alloc (.cells #[.int .i64 0,.slice none 0 0,.slice none 0 0,.slice none 0 0] 29)).alloc (.cells #[.int .i64 op,.slice none 0 0,.slice none 0 0,.slice none 0 0] 29):=⟨_,rfl⟩
 have hx:Ext w W:=by rw[hW];exact(zd _ _).alloc _
 have hnb0:Own W w.heap.size [.int .i64 0,.slice none 0 0,.slice none 0 0,.slice none 0 0]:=by rw[hW];exact(own4 w _ _ _ _ _).ext (zd _ _)
 have hxb0:Own W (w.heap.size+1) [.int .i64 op,.slice none 0 0,.slice none 0 0,.slice none 0 0]:=by
  rw[hW];have:=own4 (w.alloc (.cells #[.int .i64 0,.slice none 0 0,.slice none 0 0,.slice none 0 0] 29)) (.int .i64 op) (.slice none 0 0) (.slice none 0 0) (.slice none 0 0) 29
  rw[World.size_alloc]at this;exact this
 have hc0:=h.ext hx
 have hq0:Chg [rb] w W:=Chg.of_ext hx
 have HM:=Lib.hid (ze5 hl2 hc0 zc3)
 simp only[zc3]at HM
 obtain⟨i0,hi0,hz0,hz1',hz2'⟩:=info_parts zw9
 obtain⟨j0,hj0,jz0,jz1',jz2'⟩:=info_parts zhw
 have hE1:=Lib.hid (show z8 zi op ks=((zl zc3 ks).bind fun _ r1=>rowR (za2 2) zj r1).bind fun vs r2=>(zl zc4 r2).bind fun _ r3=>(zl zdq r3).bind fun _ r4=>(zi r4).map fun f=>.mk op vs [] [f] by
  unfold z8
  cases zl zc3 ks<;>rfl)
 clear h hc0
 go_enter Tryz.func133,Tryz.ntmps133
 go_upto_region 3 with (rw[←hW];clear hW;go_at_call 134;refine(HM.out).mono ?_;rintro e w1 ⟨rfl,hc1,hx1⟩)
 obtain⟨nb,hnb⟩:∃nb,nb=w.heap.size:=⟨_,rfl⟩
 obtain⟨xb,hxb⟩:∃xb,xb=w.heap.size+1:=⟨_,rfl⟩
 rw[←hxb]at hxb0
 rw[←hnb]at hnb0
 rw[←hxb,←hnb]
 have hwn:w.heap.size≤nb:=by omega
 have hwx:w.heap.size≤xb:=by omega
 have hnc:nb≠rb:=by omega
 have hxc:xb≠rb:=by omega
 have hxn:nb≠xb:=by omega
 have hrx:rb<xb:=by omega
 have hrn:rb<nb:=by omega
 clear hnb hxb hx
 have hq1:=hq0.trans hx1
 have hn1:=hnb0.chg hx1 (by simpa using hnc)
 have hx1b:=hxb0.chg hx1 (by simpa using hxc)
 have hc1:RSt rb l w1 (zl zc3 ks):=hc1
 have hlm:toGo (zl zc3 ks)≤ks.length:=by
  cases hm:zl zc3 ks with
  |bad r=>exact Nat.zero_le _
  |ok u r=>have:=zbe hm;simp only[toGo];omega
 clear hx1 hq0 hnb0 hxb0 HM
 have HU:=Lib.hid (fun w' (h:RSt rb l w' (zl zc3 ks))=>zlm hl2 h)
 unfold zar at HU
 generalize zl zc3 ks=s1 at *
 obtain⟨p2,y2⟩:=hx1b 1 _ rfl
 have hrow:GRow (zz 1) 9 w1.heap.size w1 (.slice none 0 0) (([]:List ByteArray).map zct):=GRow.nil
 have hrbl:=hc1.lt
 have hxl:=hx1b.lt
 have hnl:=hn1.lt
 go_cut []from 10 to 16 (fun wx=>∃g,zzl rb l w1 w1.heap.size xb nb op (ks.length+1) (s1.bind fun _ r1=>rowR (za2 2) zj r1) g wx)
 case first =>
  go_region_law ((first
   |(go_simp;go_at_call 169;refine(HU.out _ (hc1.ext (Ext.drew (Below.refl _ w1)))).mono ?_;rintro e w4 ⟨hx4',hst4,v4,x4,rfl,⟨rfl,hsz4⟩,hval⟩;(have hx4:Chg [rb] w1 w4:=(Chg.of_ext (Ext.drew (Below.refl _ w1))).trans hx4');(have hrow4:=hrow.chg hx4 (by simpa using hrbl));(have d5:=hx4.cell p2 (by simpa using hxc));(have d6:=hx4.frozen p2 (by simpa using hxc) y2);(have d7:=(zd w4 (.cells #[.string x4] 9)).cell d5);(try simp only[]))
   |(refine zan rfl (.tmp 11) (.tmp 14) _ rfl 9 i0 _ 16 Tryz.underlying25 hi0 hz0 hz1' hz2' rfl (by decide) w1.heap.size (.slice none 0 0) (([]:List ByteArray).map zct) (by rfl) w4 hrow4 (zd _ _) w4.heap.size (by rfl) _ _ (heap_alloc_new _ _) (zct x4) (zqh hsz4) (by decide) (by decide) (by have:=hx4.size;simp;omega) ?_;intro g cap w5 hrow5 hgrow hat hlt5;(have hfar:(some (⟨xb,1,none⟩:Addr).block)≠(Value.slice none 0 0).ownBlock:=fun e=>by cases e);(have hlt6:(⟨xb,1,none⟩:Addr).block<(w4.alloc (.cells #[.string x4] 9)).heap.size:=Nat.lt_of_lt_of_le (zf d5) (zd w4 _).size);(have e5:=(hgrow.cell_far ⟨xb,1,none⟩ hlt6 hfar).trans ((zd w4 _).cell d5));(have e6:=(hgrow.frozen_far ⟨xb,1,none⟩ hlt6 hfar).trans ((zd w4 _).frozen d5 d6)))))
  all_goals
   go_wp2_with fail
   go_meet
   exact⟨_,zzc (pre:=[]) (Chg.refl _ _) hx4 hst4 hrow4 hx1b hn1 hgrow hrow5 hrx hxl hnl hxn hnc (Nat.le_refl _) (by have:=zvq (st:=s1) (zbf 2);simp;omega) (zo6 hval)⟩
 case rest =>
  generalize wc=w6 at hcut ⊢
  obtain⟨g6,hr6⟩:=hcut
  have HC6:=Lib.hid hr6
  clear hr6
  obtain⟨B,hB⟩:∃B,B=w1.heap.size:=⟨_,rfl⟩
  rw[←hB]at HC6 hxl hnl
  have hB1:w1.heap.size≤B:=by omega
  have hB0:B≤w1.heap.size:=by omega
  clear hB hc1 hx1b hn1 p2 y2 hrow hrbl HU
  go_wp2_with fail
  go_loopg [] g6 (fun g wr=>zzl rb l w1 B xb nb op (ks.length+1) (s1.bind fun _ r1=>rowR (za2 2) zj r1) g wr)
  case atStart=>exact HC6.out
  case round =>
   obtain⟨st,pre,vv,hg,hst,hrow,hxb,hnb,hq,hlen,hA⟩:=hrel
   have HG:=Lib.hid hg
   have HA:=Lib.hid hA
   have HML:=Lib.hid (show(pre.map zct).length=pre.length by simp)
   obtain⟨va,vc,hv,hvc⟩:=hrow.form
   rw[HML.out]at hv hvc
   subst hv
   clear hg hA HC6
   have HT:=zal hl2 hst zj
   have hpl:pre.length≤1073741823:=by omega
   cases hb:zdi zj st with
   |true =>
    obtain⟨r2,r3,rfl,ht,hS,hr3⟩:=ze8 hb
    rw[hb,hS]at HT
    replace HT:=Lib.hid HT
    clear hS hb
    simp only[zj]at HT
    have HTT:=Lib.hid (fun w' (h:RSt rb l w' (.ok () r3))=>zlm hl2 h)
    unfold zar at HTT
    simp only[Rd.bind_ok]at HTT
    have HAT:=Lib.hid ht
    have hlen2:pre.length+(r2.length+1)≤ks.length+1:=hlen
    have HG2:=Lib.hid (show _=r2.length+1 from HG.out)
    clear ht hlen HG
    go_upto_region 5 with (go_at_call 132;refine(HT.out).mono ?_;rintro e w7 ⟨rfl,hc7,hx7⟩)
    have hxb7:=hxb.chg hx7 (by simpa using hxc)
    have hnb7:=hnb.chg hx7 (by simpa using hnc)
    have hrow7:=hrow.chg hx7 (by simp;omega)
    have hq7:=hq.trans (hx7.mono (T:=[rb,xb]) (by simp))
    have hsz7:=hq7.size
    have hown2:∀g,(Value.slice va pre.length vc).ownBlock=some g→B≤g∧g<w7.heap.size:=fun g hg=>hrow7.own_ge hg
    obtain⟨p2,y2⟩:=hxb7 1 _ rfl
    clear hxb hnb hrow hq hst hx7 HT
    go_region_law ((first
     |(go_simp;go_at_call 169;refine(HTT.out _ (hc7.ext (Ext.drew (Below.refl _ w7)))).mono ?_;rintro e w4 ⟨hx4',hst4,v4,x4,rfl,⟨rfl,hsz4⟩,hval⟩;(have hx4:Chg [rb] w7 w4:=(Chg.of_ext (Ext.drew (Below.refl _ w7))).trans hx4');(have hrow4:=hrow7.chg hx4 (by simp;omega));(have d5:=hx4.cell p2 (by simpa using hxc));(have d6:=hx4.frozen p2 (by simpa using hxc) y2);(have d7:=(zd w4 (.cells #[.string x4] 9)).cell d5);(try simp only[]))
     |(refine zan rfl (.tmp 20) (.tmp 23) _ rfl 9 i0 _ 16 Tryz.underlying25 hi0 hz0 hz1' hz2' rfl (by decide) B (.slice va pre.length vc) (pre.map zct) (by rfl) w4 hrow4 (zd _ _) w4.heap.size (by rfl) _ _ (heap_alloc_new _ _) (zct x4) (zqh hsz4) (by rw[HML.out];simp only[maxLen];omega) (by rw[HML.out];omega) (by have:=hx4.size;simp;omega) ?_;intro g5 cap w5 hrow5 hgrow hat hlt5;rw[HML.out]at hrow5 ⊢;(have hfar:(some (⟨xb,1,none⟩:Addr).block)≠(Value.slice va pre.length vc).ownBlock:=fun e=>by have:=hown2 _ e.symm;simp only at this;omega);(have hlt6:(⟨xb,1,none⟩:Addr).block<(w4.alloc (.cells #[.string x4] 9)).heap.size:=Nat.lt_of_lt_of_le (zf d5) (zd w4 _).size);(have e5:=(hgrow.cell_far ⟨xb,1,none⟩ hlt6 hfar).trans ((zd w4 _).cell d5));(have e6:=(hgrow.frozen_far ⟨xb,1,none⟩ hlt6 hfar).trans ((zd w4 _).frozen d5 d6)))))
    all_goals
     go_wp2_with fail
     go_roundg (toGo (za2 2 r3).st)
     case measure=>have:=HG2.out;have:=zgh (zbf 2 _) (Nat.le_refl r3.length);go_light;omega
     case rel=>exact zzc hq7 hx4 hst4 hrow4 hxb7 hnb7 hgrow hrow5 hrx hxl hnl hxn hnc hB1 (by have:=zgh (zbf 2 _) (Nat.le_refl r3.length);omega) (zms (zbf 2) HA.out HAT.out hval)
   |false =>
    obtain⟨hA,hS⟩:=zri (zbf 2) HA.out hb
    rw[hb,hS]at HT
    replace HT:=Lib.hid HT
    have HE2:=Lib.hid (show z8 zi op ks=(((st.bind fun _ r=>zl zc4 r).bind fun _ r=>zl zdq r).bind fun _ r=>zi r).map fun f=>.mk op pre [] [f] by
     rw[hE1.out,hA]
     cases st with
     |bad r=>rfl
     |ok u r =>
      simp only[Rd.map_ok,Rd.bind_ok]
      cases zl zc4 r with
      |bad r=>rfl
      |ok u2 k =>
       simp only[Rd.bind_ok]
       cases zl zdq k with
       |bad r=>rfl
       |ok u3 k2=>rfl)
    clear hA hS hb hE1
    simp only[zj]at HT
    have HM2:=Lib.hid (fun w' (h:RSt rb l w' st)=>ze5 hl2 h zc4)
    simp only[zc4]at HM2
    have HM3:=Lib.hid (fun w' (h:RSt rb l w' (st.bind fun _ r=>zl zc4 r))=>ze5 hl2 h zdq)
    simp only[zdq]at HM3
    obtain⟨oa,oc,ho,hoc,hod⟩:=GRow.dat (by decide) hrow
    rw[HML.out]at ho hoc
    injection ho with e1 _ e3
    subst e1;subst e3
    have hxl2:=hxb.lt
    have hdat:IsStrs (fun g=>B≤g∧g<wr.heap.size) wr va pre:=Dat.Rows.mono hod fun g hg hlt=>⟨hg,hlt⟩
    clear hod hoc hrow
    go_upto_region 8 with (first|(go_at_call 132;refine(HT.out).mono ?_;rintro e w7 ⟨rfl,hc7,hx7⟩)|(go_at_call 134;refine(HM2.out _ hc7).mono ?_;rintro e w8 ⟨rfl,hc8,hx8⟩)|(go_at_call 134;refine(HM3.out _ hc8).mono ?_;rintro e w9 ⟨rfl,hc9,hx9⟩))
    clear HT HM2 HM3
    have hls:toGo ((st.bind fun _ r=>zl zc4 r).bind fun _ r=>zl zdq r)≤n+1:=by
     have h1:=zo7 (s:=zc4) (st:=st)
     have h2:=zo7 (s:=zdq) (st:=st.bind fun _ r=>zl zc4 r)
     omega
    have HU:=Lib.hid (fun w' (h:RSt rb l w' ((st.bind fun _ r=>zl zc4 r).bind fun _ r=>zl zdq r))=>HIH.out _ hls w' h)
    have hc9:RSt rb l w9 ((st.bind fun _ r=>zl zc4 r).bind fun _ r=>zl zdq r):=hc9
    clear hls hlen HG
    generalize ((st.bind fun _ r=>zl zc4 r).bind fun _ r=>zl zdq r)=s5 at *
    unfold zar at HU
    have h79:=(hx7.trans hx8).trans hx9
    have hxb9:=hxb.chg h79 (by simpa using hxc)
    have hnb9:=hnb.chg h79 (by simpa using hnc)
    have hq9:=(hq1.mono (T:=[rb,xb]) (by simp)).trans (hq.trans (h79.mono (by simp)))
    have hs9:=hq9.size
    have hB9:=h79.size
    have hwr:=hq.size
    have hdat9:=Dat.Rows.chg hdat h79 (fun g hg=>by simp;omega)
    obtain⟨p3,y3⟩:=hxb9 3 _ rfl
    have hrow:GRow (zz 4) 29 w9.heap.size w9 (.slice none 0 0) (([]:List Fm).map Fm.dat):=GRow.nil
    have hrbl:=hc9.lt
    have hxl9:=hxb9.lt
    have hnl9:=hnb9.lt
    clear hxb hnb hq hx7 hx8 hx9 hc7 hc8 hst h79 hdat hq1
    go_cut []from 30 to 36 (fun wx=>∃(ga:Option Addr) (cap:Nat) (f':Fm),RSt rb l wx (s5.bind fun _ r=>zi r).st∧Own wx xb [.int .i64 op,.slice va pre.length vc,.slice none 0 0,.slice ga 1 cap]∧1≤cap∧Own wx nb [.int .i64 0,.slice none 0 0,.slice none 0 0,.slice none 0 0]∧Chg [rb] w wx ∧
     IsStrs (fun g=>w.heap.size≤g∧g≠nb) wx va pre∧IsFms (fun g=>w.heap.size≤g∧g≠nb) wx ga [f']∧∀x r,(s5.bind fun _ r=>zi r)=.ok x r→f'=x)
    case first =>
     go_region_law ((first
      |(go_simp;go_at_call 83;refine(HU.out _ (hc9.ext (Ext.drew (Below.refl _ w9)))).mono ?_;rintro e w4 ⟨hx4',hst4,v4,x4,rfl,⟨xa,xv,xc,xd,rfl,hex⟩,hval⟩;(have hx4:Chg [rb] w9 w4:=(Chg.of_ext (Ext.drew (Below.refl _ w9))).trans hx4');(have hrow4:=hrow.chg hx4 (by simpa using hrbl));(obtain⟨d1,e1,d2,e2,d3,e3,rfl,rfl,rfl,rfl,-⟩:=hex.form);(have d5:=hx4.cell p3 (by simpa using hxc));(have d6:=hx4.frozen p3 (by simpa using hxc) y3);(have d7:=(zd w4 (.cells #[.int .i64 x4.op,.slice d1 x4.vars.length e1,.slice d2 x4.terms.length e2,.slice d3 x4.args.length e3] 29)).cell d5);(try simp only[]))
      |(refine zan rfl (.tmp 31) (.tmp 34) _ rfl 29 j0 _ 80 Tryz.underlying27 hj0 jz0 jz1' jz2' rfl (by decide) w9.heap.size (.slice none 0 0) (([]:List Fm).map Fm.dat) (by rfl) w4 hrow4 (zd _ _) w4.heap.size (by rfl) _ _ (heap_alloc_new _ _) x4.dat (zqo (hex.ext (zd _ _)) fun g hg hlt=>(show w9.heap.size≤g∧(Value.slice none 0 0).ownBlock≠some g from ⟨by have:w9.drew.heap.size≤g:=hg;simpa using this,fun e=>by cases e⟩)) (by decide) (by decide) (by have:=hx4.size;simp;omega) ?_;intro g cap w5 hrow5 hgrow hat hlt5;(have hfar:(some (⟨xb,3,none⟩:Addr).block)≠(Value.slice none 0 0).ownBlock:=fun e=>by cases e);(have hlt6:(⟨xb,3,none⟩:Addr).block<(w4.alloc (.cells #[.int .i64 x4.op,.slice d1 x4.vars.length e1,.slice d2 x4.terms.length e2,.slice d3 x4.args.length e3] 29)).heap.size:=Nat.lt_of_lt_of_le (zf d5) (zd w4 _).size);(have e5:=(hgrow.cell_far ⟨xb,3,none⟩ hlt6 hfar).trans ((zd w4 _).cell d5));(have e6:=(hgrow.frozen_far ⟨xb,3,none⟩ hlt6 hfar).trans ((zd w4 _).frozen d5 d6)))))
     all_goals
      go_wp2_with fail
      go_meet
      have h45:=zbr hx4 hrow4 (Nat.le_refl _) (zd _ (.cells #[.int .i64 x4.op,.slice d1 x4.vars.length e1,.slice d2 x4.terms.length e2,.slice d3 x4.args.length e3] 29)) hgrow
      have hset:=(Chg.refl [xb] w5).setCell (p:=⟨xb,3,none⟩) (.slice (some ⟨g,0,none⟩) 1 cap) (.inl (by simp))
      have h5:Chg [rb,xb] w9 (w5.setCell ⟨xb,3,none⟩ (.slice (some ⟨g,0,none⟩) 1 cap)):=(h45.mono (by simp)).trans (hset.mono (by simp))
      obtain⟨ya,yc,hv,hyc,hyd⟩:=GRow.dat (by decide) hrow5
      injection hv with z1 _ z3
      subst z1;subst z3
      refine⟨_,cap,x4,((hst4.ext (zd _ _)).append hrow4 hrbl hgrow).chg hset (by simp;omega),((hxb9.chg h45 (by simpa using hxc)).set (i:=3) (by simp) _),hyc,hnb9.chg h5 (by simp;omega),Chg.drop (T:=[rb]) (Below.refl _ _) (hq9.trans h5) (by simp;omega),
       Dat.Rows.mono (Dat.Rows.chg hdat9 h5 (fun g hg=>by simp;omega)) (fun g hg _=>by omega),?_,hval⟩
      refine Dat.Rows.mono (P:=fun g=>w9.heap.size≤g) ?_ (fun g hg _=>by omega)
      exact Dat.Rows.chg hyd hset (fun g hg=>by simp;omega)
    case rest =>
     generalize wc=w6 at hcut ⊢
     obtain⟨ga,cap,f',k1,k2,k3,k4,k5,k6,k7,hval⟩:=hcut
     obtain⟨⟨m0,-⟩,⟨m1,-⟩,⟨m2,-⟩,⟨m3,-⟩⟩:=k2.cells4
     obtain⟨⟨n0,g0⟩,⟨n1,g1⟩,⟨n2,g2⟩,⟨n3,g3⟩⟩:=k4.cells4
     have HVAL:=Lib.hid hval
     clear hval hxb9 hnb9 hq9 hdat9 p3 y3 hrow hc9
     go_wp2_with fail
     refine zeg k5 hwn hrn k1 k4 (fun W2 r0 r1 r2 r3=>by simp[results,Tryz.results133,go_sem,r0,r1,r2,r3]) rfl fun W2 c1 c2 c3=>⟨c2,?_⟩
     rw[HE2.out]
     refine⟨?_,_,.mk op pre [] [f'],rfl,⟨_,_,_,_,rfl,IsFm.mk' (t:=[]) (l:=[f']) h0 h0' hvc (Nat.le_refl _) k3 (Dat.Rows.mono (Dat.Rows.chg k6 c3 (fun g hg=>by simpa using hg.2)) fun g hg _=>hg.1) zgl (Dat.Rows.mono (Dat.Rows.chg k7 c3 (fun g hg=>by simpa using hg.2)) fun g hg _=>hg.1)⟩,fun x k he=>?_⟩
     ·cases hr:(s5.bind fun _ r=>zi r) with
      |bad k=>rw[hr]at c1;exact c1
      |ok x k=>rw[hr]at c1;exact c1
     ·cases hr:(s5.bind fun _ r=>zi r) with
      |bad k=>rw[hr]at he;cases he
      |ok y k=>rw[hr]at he;injection he with he;rw[←he,HVAL.out y k hr]
theorem zz5 {α:Type}{rd:Rd α}{r:List Tok}(h:rd.st=.ok () r):∃x,rd=.ok x r:=by
 cases rd with
 |bad k=>cases h
 |ok x k=>injection h with _ h;subst h;exact⟨x,rfl⟩
theorem zvr {P:Nat→Prop}{w:World}{a b c:Value}{x:Ex}(h:IsEx P w a b c x):∃ea ec,a=.bool x.var∧b=.string x.name∧c=.slice ea x.args.length ec:=by
 obtain⟨ea,ec,h1,h2,h3,-⟩:=h.form;exact⟨ea,ec,h1,h2,h3⟩
section
variable {rb:Nat}{l:List Tok}
theorem zg0 (hl:l.length≤1073741820){u:Unit}{t:Tok}{r:List Tok}{w:World}(h:RSt rb l w (.ok u (t::r))) (h3:t.kind=3) (b:Bool) (htx:t.text=if b then zg7 else zd3) :
  Calls Tryz.prog 135 #[.pointer (some ⟨rb,0,none⟩)] w (zar za8 rb l w (zap (t::r))):=by
 have HP:=Lib.hid (fun w' (hx:Ext w w')=>zaz (by omega) (h.ext hx))
 obtain⟨a,c,p,hown,hp,hpk,hsuf,hmove,-⟩:=h.good
 have hlt:=hown.lt
 obtain⟨c1,f1⟩:=hown 1 _ rfl
 obtain⟨c2,f2⟩:=hown 2 _ rfl
 have HM:=Lib.hid hmove
 have HK:=Lib.hid (show((p:Int)+1)=((l.length-r.length:Nat):Int) by have:=hsuf.length_le;simp at this;simp at hpk;omega)
 have HR:=Lib.hid ((List.suffix_cons t r).trans hsuf)
 have hp1:(p:Int)+1≤1073741824:=by have:=hsuf.length_le;simp at this;simp at hpk;omega
 have HE:=Lib.hid (show zap (t::r)=.ok (.mk (if b then 1 else 2) [] [] []) r by
  unfold zap
  cases b with
  |true=>rw[if_pos (by simp[h3,htx])];rfl
  |false=>rw[if_neg (by simp[h3,htx];decide),if_pos (by simp[h3,htx])];rfl)
 clear hown h hmove hpk hsuf
 obtain⟨kd,tx,ta⟩:=t
 simp only at HE h3 htx
 have q1:(kd==3)=true:=by rw[beq_iff_eq];exact h3
 have q2:(tx.toList==[36,116,114,117,101])=b:=by subst htx;cases b<;>decide +kernel
 have q3:(tx.toList==[36,102,97,108,115,101])=!b:=by subst htx;cases b<;>decide +kernel
 clear h3 htx
 obtain⟨W,hW⟩:∃W,W=w.alloc (.cells #[.int .i64 0,.slice none 0 0,.slice none 0 0,.slice none 0 0] 29):=⟨_,rfl⟩
 have hx:Ext w W:=by rw[hW];exact zd _ _
 have hnew:Own W w.heap.size [.int .i64 0,.slice none 0 0,.slice none 0 0,.slice none 0 0]:=by rw[hW];exact own4 w _ _ _ _ _
 have HO:=Lib.hid (fun (op:Int) w'=>zc8 op (P:=fun _=>False) (l:=[]) (w:=w') (a:=none) (c:=0) zdu (Nat.zero_le _))
 simp only[List.length_nil]at HO
 cases b
 all_goals
  simp only[Bool.not_true,Bool.not_false]at q2 q3
  go_enter Tryz.func135,Tryz.ntmps135
  go_wp2_with (first|(rw[←hW];clear hW;go_at_call 84;refine(HP.out _ hx).mono ?_;rintro e w1 ⟨⟨t2,rfl,-,ht2⟩,hx1⟩;obtain rfl:t2=⟨kd,tx,ta⟩:=ht2 _ _ rfl;simp only[Tok.vals];clear ht2;replace f1:=(hx.trans hx1).frozen c1 f1;replace c1:=(hx.trans hx1).cell c1;replace c2:=(hx.trans hx1).cell c2;replace hnew:=hnew.ext hx1;have hlt1:rb<w1.heap.size:=zf c1;have hlt2:=hnew.lt;have hne:w.heap.size≠rb:=by omega)|(go_at_call 86;refine(HO.out _ _).mono ?_;rintro e w2 ⟨⟨a2,k2,rfl,hk2,hf2⟩,hx2⟩;have hn2:=((hnew.chg ((Chg.refl [rb] w1).setCell (p:=⟨rb,1,none⟩) (.int .i64 ((p:Int)+1)) (.inl (by simp))) (by simpa using hne)).ext (zd _ (.cells #[.int .i64 kd,.string tx,.int .i64 ta] 77))).ext hx2;(obtain⟨⟨n0,g0⟩,⟨n1,g1⟩,⟨n2,g2⟩,⟨n3,g3⟩⟩:=hn2.cells4)))
  have hq2:Chg [rb] w w2:=(((Chg.of_ext (hx.trans hx1)).setCell (p:=⟨rb,1,none⟩) (.int .i64 ((p:Int)+1)) (.inl (by simp))).alloc _).trans (Chg.of_ext hx2)
  have hc2:RSt rb l w2 (.ok () r):=((HM.out w1 (Chg.of_ext (hx.trans hx1)) _ _ HR.out HK.out).ext (zd _ _)).ext hx2
  refine zeg hq2 (Nat.le_refl _) hlt hc2 hn2 (fun W2 r0 r1 r2 r3=>by simp[results,Tryz.results135,go_sem,r0,r1,r2,r3]) rfl fun W2 k1 k2 k3=>⟨k2,?_⟩
  rw[HE.out]
  exact⟨k1,_,_,rfl,⟨_,_,_,_,rfl,IsFm.mk' (v:=[]) (t:=[]) (l:=[]) (by decide) (by decide) (Nat.le_refl _) (Nat.le_refl _) hk2 zhv zgl (by unfold IsFms;rw[Fm.dats_map,List.map_nil];trivial)⟩,fun x k he=>by injection he⟩
theorem zo8 (hl:l.length≤1073741820){u:Unit}{ks:List Tok}{w:World}(h:RSt rb l w (.ok u ks)) (hno:¬((zq ks).kind=3∧((zq ks).text=zg7∨(zq ks).text=zd3))) :
  Calls Tryz.prog 135 #[.pointer (some ⟨rb,0,none⟩)] w (zar za8 rb l w (zap ks)):=by
 have hl2:l.length≤1073741824:=by omega
 have HE:=Lib.hid (zky (ks:=ks) hno)
 have HS:=Lib.hid h
 have HP:=Lib.hid (fun w' (hx:Ext w w')=>zaz hl2 (h.ext hx))
 obtain⟨a,c,p,hown,hp,hpk,hsuf,-,-⟩:=h.good
 have hlt:=hown.lt
 obtain⟨c2,f2⟩:=hown 2 _ rfl
 clear hown hpk hsuf h
 have hcase:(zq ks).kind≠3∨((zq ks).kind=3∧(zq ks).text≠zg7∧(zq ks).text≠zd3):=by
  by_cases h3:(zq ks).kind=3
  ·exact .inr ⟨h3,fun h=>hno ⟨h3,.inl h⟩,fun h=>hno ⟨h3,.inr h⟩⟩
  ·exact .inl h3
 clear hno
 obtain⟨W,hW⟩:∃W,W=w.alloc (.cells #[.int .i64 0,.slice none 0 0,.slice none 0 0,.slice none 0 0] 29):=⟨_,rfl⟩
 have hx:Ext w W:=by rw[hW];exact zd _ _
 have hnew:Own W w.heap.size [.int .i64 0,.slice none 0 0,.slice none 0 0,.slice none 0 0]:=by rw[hW];exact own4 w _ _ _ _ _
 go_enter Tryz.func135,Tryz.ntmps135
 go_upto_region 2 with (rw[←hW];clear hW;go_at_call 84;refine(HP.out _ hx).mono ?_;rintro e w1 ⟨⟨t,rfl,-,ht⟩,hx1⟩;simp only[Tok.vals])
 rw[←ht u ks rfl]at hcase
 clear ht
 obtain⟨kd,tx,ta⟩:=t
 simp only at hcase ⊢
 obtain⟨V,hV⟩:∃V,V=w1.alloc (.cells #[.int .i64 kd,.string tx,.int .i64 ta] 77):=⟨_,rfl⟩
 have hx3:Ext w V:=by rw[hV];exact(hx.trans hx1).alloc _
 have hnV:Own V w.heap.size [.int .i64 0,.slice none 0 0,.slice none 0 0,.slice none 0 0]:=by rw[hV];exact(hnew.ext hx1).ext (zd _ _)
 have htV:Own V w1.heap.size [.int .i64 kd,.string tx,.int .i64 ta]:=by rw[hV];exact own3 w1 _ _ _ _
 rw[←hV]
 clear hV hx hx1 hnew HP
 generalize w1.heap.size=tb at *
 have hcV:=HS.out.ext hx3
 have hnlt:=hnV.lt
 have hle:=hx3.size
 replace c2:=hx3.cell c2
 have hltV:rb<V.heap.size:=hcV.lt
 obtain⟨t0,-⟩:=htV 0 _ rfl
 obtain⟨t1,-⟩:=htV 1 _ rfl
 go_cut [26]from 7 to 26 (fun v wx=>v=.bool false∧wx=V)
 case first =>
  rcases hcase with h3|⟨h3,hnt,hnf⟩
  ·have q1:(kd==3)=false:=by rw[beq_eq_false_iff_ne];exact h3
   clear h3
   go_wp2_with fail
   go_meet
   exact⟨rfl,rfl⟩
  ·have q1:(kd==3)=true:=by rw[beq_iff_eq];exact h3
   have q2:(tx.toList==[36,116,114,117,101])=false:=by
    have:=zh (a:=tx) (b:=zg7) hnt
    rwa [show zg7.toList=[36,116,114,117,101] by decide +kernel]at this
   have q3:(tx.toList==[36,102,97,108,115,101])=false:=by
    have:=zh (a:=tx) (b:=zd3) hnf
    rwa [show zd3.toList=[36,102,97,108,115,101] by decide +kernel]at this
   clear h3 hnt hnf
   go_wp2_with fail
   go_meet
   exact⟨rfl,rfl⟩
 case rest =>
 obtain⟨rfl,rfl⟩:=hcut
 clear hcase t0 t1 htV c2 f2
 have HT:=Lib.hid (zgx (by omega) ks.length ks u (Nat.le_refl _) wc hcV)
 unfold zar at HT
 go_upto_region 8 with (go_at_call 170;refine(HT.out).mono ?_;rintro e w3 ⟨hx4,hc4,v,x,rfl,⟨xa,xv,xc,rfl,hv⟩,hval⟩;(obtain⟨ea,ec,rfl,rfl,rfl⟩:=zvr hv))
 obtain⟨V3,hV3⟩:∃V3,V3=w3.alloc (.cells #[.bool x.var,.string x.name,.slice ea x.args.length ec] 73):=⟨_,rfl⟩
 have hq3:Chg [rb] w V3:=by rw[hV3];exact(Chg.trans (Chg.of_ext hx3) hx4).alloc _
 have hc3:RSt rb l V3 (zag ks).st:=by rw[hV3];exact hc4.ext (zd _ _)
 have hne:w.heap.size≠rb:=by omega
 have hn3:Own V3 w.heap.size [.int .i64 0,.slice none 0 0,.slice none 0 0,.slice none 0 0]:=by rw[hV3];exact(hnV.chg hx4 (by simpa using hne)).ext (zd _ _)
 have hxb:Own V3 w3.heap.size [.bool x.var,.string x.name,.slice ea x.args.length ec]:=by rw[hV3];exact own3 w3 _ _ _ _
 have hv3:IsEx (fun g=>w.heap.size≤g∧g≠w.heap.size∧g≠rb) V3 (.bool x.var) (.string x.name) (.slice ea x.args.length ec) x:=by rw[hV3];exact(Dat.Fs.mono hv (fun g hg _=>⟨Nat.le_trans hle hg,by omega,by omega⟩)).ext (zd _ _)
 have hxn:w.heap.size<w3.heap.size:=Nat.lt_of_lt_of_le hnlt hx4.size
 have HVAL:=Lib.hid hval
 rw[←hV3]
 clear hV3 hx3 hx4 hc4 hv hnV hcV HS HT hnlt hle hval hltV
 generalize w3.heap.size=xb at *
 have hxc:xb≠rb:=by omega
 clear w3 wc
 have HT:=zal hl2 hc3 sEq
 generalize hs1:(zag ks).st=s1 at *
 have HS1:=Lib.hid hs1
 clear hs1
 cases hb:zdi sEq s1 with
 |true =>
  obtain⟨r,r1,rfl,ht,hS,-⟩:=ze8 hb
  obtain⟨x0,hx0⟩:=zz5 HS1.out
  have hxe:=HVAL.out x0 r hx0
  subst hxe
  have HE2:=Lib.hid (show zap ks=(zag r1).map fun y=>fEq x y by rw[HE.out,hx0,Rd.bind_ok];unfold zcx;rw[ht])
  rw[hb,hS]at HT
  replace HT:=Lib.hid HT
  clear hS hb hx0 HE HS1 HVAL ht
  simp only[sEq]at HT
  have HT2:=Lib.hid (fun w' (h:RSt rb l w' (.ok () r1))=>zgx (by omega) r1.length r1 () (Nat.le_refl _) w' h)
  unfold zar at HT2
  go_upto_region 9 with (go_at_call 132;refine(HT.out).mono ?_;rintro e w5 ⟨rfl,hc5,hx5⟩)
  have hxb5:=hxb.chg hx5 (by simpa using hxc)
  have hn5:=hn3.chg hx5 (by simpa using hne)
  have hv5:=Dat.Fs.chg hv3 hx5 (fun g hg=>by simpa using hg.2.2)
  have hq5:=hq3.trans hx5
  have hle5:=hq5.size
  clear hxb hn3 hv3 hq3 hc3 hx5 HT
  obtain⟨p0,-⟩:=hxb5 0 _ rfl
  obtain⟨p1,-⟩:=hxb5 1 _ rfl
  obtain⟨p2,-⟩:=hxb5 2 _ rfl
  go_cut []from 43 to 47 (fun wx=>∃(ga:Nat) (y:Ex),RSt rb l wx (zag r1).st∧Own wx w.heap.size [.int .i64 4,.slice none 0 0,.slice (some ⟨ga,0,none⟩) 2 2,.slice none 0 0]∧Chg [rb] w wx∧IsExs (fun g=>w.heap.size≤g) wx (some ⟨ga,0,none⟩) [x,y]∧∀z k,zag r1=.ok z k→y=z)
  case first =>
   go_region_law ((go_simp;go_at_call 170;refine(HT2.out _ (hc5.ext (Ext.drew (Below.refl _ w5)))).mono ?_;rintro e w6 ⟨hx6',hst6,v6,y6,rfl,⟨ya,yb,yc,rfl,hey⟩,hval6⟩;(have hx6:Chg [rb] w5 w6:=(Chg.of_ext (Ext.drew (Below.refl _ w5))).trans hx6');(have hxb6:=hxb5.chg hx6 (by simpa using hxc));(have hn6:=hn5.chg hx6 (by simpa using hne));(have hnl6:=hn6.lt);(have hv6:=Dat.Fs.chg hv5 hx6 (fun g hg=>by simpa using hg.2.2));(obtain⟨m0,-⟩:=hxb6 0 _ rfl);(obtain⟨m1,-⟩:=hxb6 1 _ rfl);(obtain⟨m2,-⟩:=hxb6 2 _ rfl);(obtain⟨⟨n0,g0⟩,⟨n1,g1⟩,⟨n2,g2⟩,⟨n3,g3⟩⟩:=hn6.cells4);(obtain⟨b1,c1,rfl,rfl,rfl⟩:=zvr hey);(try simp only[])))
   all_goals
    go_wp2_with fail
    go_meet
    have hch:=zai w6 w.heap.size (.int .i64 4) (.slice none 0 0) (.slice (some ⟨w6.heap.size,0,none⟩) 2 2) (.slice none 0 0)
    have hle6:=hx6.size
    have hnl5:=hn5.lt
    have hE:=zid 73 (P:=fun g=>w.heap.size≤g) (Dat.Fs.mono (Dat.Fs.chg hv6 hch (fun g hg=>by simpa using hg.2.1)) fun g hg _=>hg.1) (Dat.Fs.mono (Dat.Fs.chg hey hch (fun g hg=>by have h1:w5.drew.heap.size≤g:=hg;simp at h1 ⊢;omega)) fun g hg _=>by have h1:w5.drew.heap.size≤g:=hg;simp at h1;omega) (by have:=hch.size;omega)
    rw[show((((w6.setCell ⟨w.heap.size,0,none⟩ (.int .i64 4)).setCell ⟨w.heap.size,1,none⟩ (.slice none 0 0)).setCell ⟨w.heap.size,2,none⟩ (.slice (some ⟨w6.heap.size,0,none⟩) 2 2)).setCell ⟨w.heap.size,3,none⟩ (.slice none 0 0)).heap.size=w6.heap.size by simp[World.setCell]]at hE
    refine⟨w6.heap.size,y6,(hst6.chg hch (by simp;omega)).ext (zd _ _),(zac hn6 _ _ _ _).ext (zd _ _),?_,hE,hval6⟩
    exact(Chg.drop (T:=[rb]) (Below.refl _ _) (((hq5.trans hx6).mono (T:=[rb,w.heap.size]) (by simp)).trans (hch.mono (by simp))) (by simp)).alloc _
  case rest =>
   generalize wc=w8 at hcut ⊢
   obtain⟨ga,y,k1,k2,k3,k4,hval⟩:=hcut
   obtain⟨z0,z1,z2,z3⟩:=za9 k2
   have HVAL:=Lib.hid hval
   clear hval hxb5 hn5 hv5 hc5
   go_wp2_with fail
   refine bodyPost_ret (v:=.agg #[.int .i64 4,.slice none 0 0,.slice (some ⟨ga,0,none⟩) 2 2,.slice none 0 0]) (by simp[results,Tryz.results135,go_sem,z0,z1,z2,z3]) rfl ⟨k3,?_⟩
   rw[HE2.out]
   refine⟨?_,_,fEq x y,rfl,⟨_,_,_,_,rfl,zc0 (l:=[x,y]) (by decide) (by decide) (Nat.le_refl _) k4⟩,fun z k he=>?_⟩
   ·cases hr:zag r1 with
    |bad k=>rw[hr]at k1;exact k1
    |ok z k=>rw[hr]at k1;exact k1
   ·cases hr:zag r1 with
    |bad k=>rw[hr]at he;cases he
    |ok y' k=>rw[hr]at he;injection he with he;rw[←he,HVAL.out y' k hr]
 |false =>
  have hS0:zcq sEq s1=s1:=by
   cases s1 with
   |bad r=>rfl
   |ok u r =>
    cases ht:zp sEq r with
    |none=>exact(zn ht).1
    |some r1=>rw[(z7 ht).2]at hb;cases hb
  have HB:=Lib.hid hb
  rw[hb,hS0]at HT
  replace HT:=Lib.hid HT
  clear hb hS0
  simp only[sEq]at HT
  go_upto_region 10 with (go_at_call 132;refine(HT.out).mono ?_;rintro e w4 ⟨rfl,hc4,hx4⟩)
  have hxb4:=hxb.chg hx4 (by simpa using hxc)
  have hn4:=hn3.chg hx4 (by simpa using hne)
  have hv4:=Dat.Fs.chg hv3 hx4 (fun g hg=>by simpa using hg.2.2)
  have hq4:=hq3.trans hx4
  clear hxb hn3 hv3 hq3 hc3 hx4 HT
  have HT:=zal hl2 hc4 sNe
  cases hb:zdi sNe s1 with
  |true =>
   obtain⟨r,r1,rfl,ht,hS,-⟩:=ze8 hb
   obtain⟨x0,hx0⟩:=zz5 HS1.out
   have hxe:=HVAL.out x0 r hx0
   subst hxe
   have he0:zp sEq r=none:=by
    have:=HB.out
    unfold zdi at this
    cases h:zp sEq r with
    |none=>rfl
    |some r1=>simp[h]at this
   have HE2:=Lib.hid (show zap ks=(zag r1).map fun y=>fNot (fEq x y) by rw[HE.out,hx0,Rd.bind_ok];unfold zcx;rw[he0];simp only;rw[ht])
   rw[hb,hS]at HT
   replace HT:=Lib.hid HT
   clear hS hb hx0 HE HS1 HVAL ht he0 HB
   simp only[sNe]at HT
   have HT2:=Lib.hid (fun w' (h:RSt rb l w' (.ok () r1))=>zgx (by omega) r1.length r1 () (Nat.le_refl _) w' h)
   unfold zar at HT2
   go_upto_region 11 with (go_at_call 132;refine(HT.out).mono ?_;rintro e w5 ⟨rfl,hc5,hx5⟩)
   have hxb5:=hxb4.chg hx5 (by simpa using hxc)
   have hn5:=hn4.chg hx5 (by simpa using hne)
   have hv5:=Dat.Fs.chg hv4 hx5 (fun g hg=>by simpa using hg.2.2)
   have hq5:=hq4.trans hx5
   have hle5:=hq5.size
   have hnl5:=hn5.lt
   clear hxb4 hn4 hv4 hq4 hc4 hx5 HT
   obtain⟨p0,-⟩:=hxb5 0 _ rfl
   obtain⟨p1,-⟩:=hxb5 1 _ rfl
   obtain⟨p2,-⟩:=hxb5 2 _ rfl
   go_cut []from 50 to 56 (fun wx=>∃(ga:Option Addr) (gc:Nat) (y:Ex),RSt rb l wx (zag r1).st∧Own wx w.heap.size [.int .i64 5,.slice none 0 0,.slice none 0 0,.slice ga 1 gc]∧1≤gc∧Chg [rb] w wx∧IsFms (fun g=>w.heap.size≤g) wx ga [fEq x y]∧∀z k,zag r1=.ok z k→y=z)
   case first =>
    go_region_law ((first
     |(go_simp;go_at_call 170;refine(HT2.out _ (hc5.ext (Ext.drew (Below.refl _ w5)))).mono ?_;rintro e w6 ⟨hx6',hst6,v6,y6,rfl,⟨ya,yb,yc,rfl,hey⟩,hval6⟩;(have hx6:Chg [rb] w5 w6:=(Chg.of_ext (Ext.drew (Below.refl _ w5))).trans hx6');(have hxb6:=hxb5.chg hx6 (by simpa using hxc));(have hn6:=hn5.chg hx6 (by simpa using hne));(have hnl6:=hn6.lt);(have hv6:=Dat.Fs.chg hv5 hx6 (fun g hg=>by simpa using hg.2.2));(obtain⟨m0,-⟩:=hxb6 0 _ rfl);(obtain⟨m1,-⟩:=hxb6 1 _ rfl);(obtain⟨m2,-⟩:=hxb6 2 _ rfl);(obtain⟨⟨n0,g0⟩,⟨n1,g1⟩,⟨n2,g2⟩,⟨n3,g3⟩⟩:=hn6.cells4);(obtain⟨b1,c1,rfl,rfl,rfl⟩:=zvr hey);(have HF6:=Lib.hid (show IsFms (fun g=>w.heap.size≤g∧g≠w.heap.size) _ (some ⟨w6.heap.size+1,0,none⟩) [fEq x y6]from (by
      have hle6:=hx6.size
      have hE:=zid 73 (P:=fun g=>w.heap.size≤g∧g≠w.heap.size) (Dat.Fs.mono hv6 fun g hg _=>⟨hg.1,hg.2.1⟩) (Dat.Fs.mono hey fun g hg _=>by have h1:w5.drew.heap.size≤g:=hg;simp at h1;omega) (show w.heap.size≤w6.heap.size∧w6.heap.size≠w.heap.size by omega)
      have hF:=zd8 29 (zc0 (l:=[x,y6]) (op:=4) (c:=2) (by decide) (by decide) (Nat.le_refl _) hE) (by simp;omega)
      rw[World.size_alloc]at hF
      exact hF)));(try simp only[]))
     |(go_simp;go_at_call 86;refine(zc8 5 (P:=fun g=>w.heap.size≤g∧g≠w.heap.size) (l:=[fEq x y6]) (c:=1) HF6.out (by simp)).mono ?_;rintro e w7 ⟨⟨a7,c7,rfl,hc7,hf7⟩,hx7⟩;(have hn7:=(hn6.ext ((zd _ (.cells #[.bool x.var,.string x.name,.slice ea x.args.length ec,.bool y6.var,.string y6.name,.slice b1 y6.args.length c1] 73)).alloc (.cells #[.int .i64 4,.slice none 0 0,.slice (some ⟨w6.heap.size,0,none⟩) 2 2,.slice none 0 0] 29))).ext hx7);clear n0 n1 n2 n3 g0 g1 g2 g3;(obtain⟨⟨n0,g0⟩,⟨n1,g1⟩,⟨n2,g2⟩,⟨n3,g3⟩⟩:=hn7.cells4);(have hnl7:=hn7.lt);(try simp only[List.length_cons,List.length_nil,Nat.zero_add]))))
    all_goals
     go_wp2_with fail
     go_meet
     have hch:=zai w7 w.heap.size (.int .i64 5) (.slice none 0 0) (.slice none 0 0) (.slice a7 1 c7)
     have hxx:Ext w6 w7:=((zd _ (.cells #[.bool x.var,.string x.name,.slice ea x.args.length ec,.bool y6.var,.string y6.name,.slice b1 y6.args.length c1] 73)).alloc (.cells #[.int .i64 4,.slice none 0 0,.slice (some ⟨w6.heap.size,0,none⟩) 2 2,.slice none 0 0] 29)).trans hx7
     refine⟨a7,c7,y6,(hst6.ext hxx).chg hch (by simp;omega),zac hn7 _ _ _ _,hc7,?_,Dat.Rows.mono (Dat.Rows.chg hf7 hch (fun g hg=>by simp at hg ⊢;omega)) (fun g hg _=>by simp at hg;omega),hval6⟩
     exact Chg.drop (T:=[rb]) (Below.refl _ _) ((((hq5.trans hx6).trans (Chg.of_ext hxx)).mono (T:=[rb,w.heap.size]) (by simp)).trans (hch.mono (by simp))) (by simp)
   case rest =>
    generalize wc=w8 at hcut ⊢
    obtain⟨ga,gc,y,k1,k2,k0,k3,k4,hval⟩:=hcut
    obtain⟨z0,z1,z2,z3⟩:=za9 k2
    have HVAL:=Lib.hid hval
    clear hval hxb5 hn5 hv5 hc5
    go_wp2_with fail
    refine bodyPost_ret (v:=.agg #[.int .i64 5,.slice none 0 0,.slice none 0 0,.slice ga 1 gc]) (by simp[results,Tryz.results135,go_sem,z0,z1,z2,z3]) rfl ⟨k3,?_⟩
    rw[HE2.out]
    refine⟨?_,_,fNot (fEq x y),rfl,⟨_,_,_,_,rfl,zbc (l:=[fEq x y]) (by decide) (by decide) k0 k4⟩,fun z k he=>?_⟩
    ·cases hr:zag r1 with
     |bad k=>rw[hr]at k1;exact k1
     |ok z k=>rw[hr]at k1;exact k1
    ·cases hr:zag r1 with
     |bad k=>rw[hr]at he;cases he
     |ok y' k=>rw[hr]at he;injection he with he;rw[←he,HVAL.out y' k hr]
  |false =>
   have hS0:zcq sNe s1=s1:=by
    cases s1 with
    |bad r=>rfl
    |ok u r =>
     cases ht:zp sNe r with
     |none=>exact(zn ht).1
     |some r1=>rw[(z7 ht).2]at hb;cases hb
   have HB2:=Lib.hid hb
   rw[hb,hS0]at HT
   replace HT:=Lib.hid HT
   clear hb hS0
   simp only[sNe]at HT
   go_upto_region 12 with (go_at_call 132;refine(HT.out).mono ?_;rintro e w5 ⟨rfl,hc5,hx5⟩)
   have hxb5:=hxb4.chg hx5 (by simpa using hxc)
   have hn5:=hn4.chg hx5 (by simpa using hne)
   have hv5:=Dat.Fs.chg hv4 hx5 (fun g hg=>by simpa using hg.2.2)
   have hq5:=hq4.trans hx5
   clear hxb4 hn4 hv4 hq4 hc4 hx5 HT
   obtain⟨p0,-⟩:=hxb5 0 _ rfl
   have HE3:=Lib.hid (show ∀x0 r,zag ks=.ok x0 r→x0=x∧zap ks=if x.var then .bad r else .ok (zry x) r from fun x0 r hr=>by
    have hxe:=HVAL.out x0 r hr
    refine⟨hxe.symm,?_⟩
    have hs:=HS1.out
    rw[hr]at hs
    have hs:Rd.ok () r=s1:=hs
    have h1:=HB.out
    have h2:=HB2.out
    rw[←hs]at h1 h2
    have he1:zp sEq r=none:=by
     unfold zdi at h1
     cases h:zp sEq r with
     |none=>rfl
     |some r1=>simp[h]at h1
    have he2:zp sNe r=none:=by
     unfold zdi at h2
     cases h:zp sNe r with
     |none=>rfl
     |some r1=>simp[h]at h2
    rw[HE.out,hr,Rd.bind_ok,hxe]
    unfold zcx
    rw[he1];simp only;rw[he2])
   have HE4:=Lib.hid (show ∀r,zag ks=.bad r→zap ks=.bad r∧s1=.bad r from fun r hr=>by
    refine⟨by rw[HE.out,hr];rfl,?_⟩
    have hs:=HS1.out
    rw[hr]at hs
    exact hs.symm)
   have HST:=Lib.hid (show(zap ks).st=if x.var then .bad s1.rest else s1 by
    cases hr:zag ks with
    |bad r=>obtain⟨h1,rfl⟩:=HE4.out r hr;rw[h1];cases x.var<;>rfl
    |ok x0 r =>
     obtain⟨-,h1⟩:=HE3.out x0 r hr
     have hs:=HS1.out
     rw[hr]at hs
     have hs:Rd.ok () r=s1:=hs
     subst hs
     rw[h1];cases x.var<;>rfl)
   have HVL:=Lib.hid (show ∀z k,zap ks=.ok z k→zry x=z from fun z k hz=>by
    cases hr:zag ks with
    |bad r=>rw[(HE4.out r hr).1]at hz;cases hz
    |ok x0 r =>
     rw[(HE3.out x0 r hr).2]at hz
     cases hxv:x.var with
     |true=>rw[hxv]at hz;cases hz
     |false=>rw[hxv]at hz;injection hz)
   clear HE HE3 HE4 HS1 HB HB2 HVAL
   cases hxv:x.var with
   |true =>
    rw[hxv]at p0 HST hv5 hxb5
    go_wp2_with (go_at_call 117;refine(zec hl2 hc5).mono ?_;rintro e w6 ⟨rfl,hc6,hx6⟩;have hxb6:=hxb5.chg hx6 (by simpa using hxc);have hn6:=hn5.chg hx6 (by simpa using hne);have hv6:=Dat.Fs.chg hv5 hx6 (fun g hg=>by simpa using hg.2.2);have hq6:=hq5.trans hx6;have hnl6:=hn6.lt;(obtain⟨m0,-⟩:=hxb6 0 _ rfl);(obtain⟨m1,-⟩:=hxb6 1 _ rfl);(obtain⟨m2,-⟩:=hxb6 2 _ rfl);(obtain⟨⟨n0,g0⟩,⟨n1,g1⟩,⟨n2,g2⟩,⟨n3,g3⟩⟩:=hn6.cells4))
    have hch:=zai w6 w.heap.size (.int .i64 3) (.slice none 0 0) (.slice (some ⟨w6.heap.size,0,none⟩) 1 1) (.slice none 0 0)
    have hE:=znn 73 (P:=fun g=>w.heap.size≤g) (Dat.Fs.mono (Dat.Fs.chg hv6 hch (fun g hg=>by simpa using hg.2.1)) fun g hg _=>hg.1) (by have:=hch.size;omega)
    rw[show((((w6.setCell ⟨w.heap.size,0,none⟩ (.int .i64 3)).setCell ⟨w.heap.size,1,none⟩ (.slice none 0 0)).setCell ⟨w.heap.size,2,none⟩ (.slice (some ⟨w6.heap.size,0,none⟩) 1 1)).setCell ⟨w.heap.size,3,none⟩ (.slice none 0 0)).heap.size=w6.heap.size by simp[World.setCell]]at hE
    have hres:=(zac hn6 (.int .i64 3) (.slice none 0 0) (.slice (some ⟨w6.heap.size,0,none⟩) 1 1) (.slice none 0 0)).ext (zd _ (.cells #[.bool true,.string x.name,.slice ea x.args.length ec] 73))
    have hcf:=(hc6.chg hch (by simp;omega)).ext (zd _ (.cells #[.bool true,.string x.name,.slice ea x.args.length ec] 73))
    have hqf:=(Chg.drop (T:=[rb]) (Below.refl _ _) ((hq6.mono (T:=[rb,w.heap.size]) (by simp)).trans (hch.mono (by simp))) (by simp)).alloc (.cells #[.bool true,.string x.name,.slice ea x.args.length ec] 73)
    obtain⟨z0,z1,z2,z3⟩:=za9 hres
    refine bodyPost_ret (v:=.agg #[.int .i64 3,.slice none 0 0,.slice (some ⟨w6.heap.size,0,none⟩) 1 1,.slice none 0 0]) (by simp[results,Tryz.results135,go_sem,z0,z1,z2,z3]) rfl ⟨hqf,?_,_,zry x,rfl,⟨_,_,_,_,rfl,zc0 (l:=[x]) (by decide) (by decide) (Nat.le_refl _) hE⟩,HVL.out⟩
    rw[HST.out]
    exact hcf
   |false =>
    rw[hxv]at p0 HST hv5 hxb5
    have hn6:=hn5
    have hv6:=hv5
    have hc6:RSt rb l w5 (if false=true then .bad s1.rest else s1):=hc5
    have hq6:=hq5
    have hnl6:=hn6.lt
    obtain⟨m1,-⟩:=hxb5 1 _ rfl
    obtain⟨m2,-⟩:=hxb5 2 _ rfl
    obtain⟨⟨n0,g0⟩,⟨n1,g1⟩,⟨n2,g2⟩,⟨n3,g3⟩⟩:=hn6.cells4
    go_wp2_with fail
    have hch:=zai w5 w.heap.size (.int .i64 3) (.slice none 0 0) (.slice (some ⟨w5.heap.size,0,none⟩) 1 1) (.slice none 0 0)
    have hE:=znn 73 (P:=fun g=>w.heap.size≤g) (Dat.Fs.mono (Dat.Fs.chg hv6 hch (fun g hg=>by simpa using hg.2.1)) fun g hg _=>hg.1) (by have:=hch.size;omega)
    rw[show((((w5.setCell ⟨w.heap.size,0,none⟩ (.int .i64 3)).setCell ⟨w.heap.size,1,none⟩ (.slice none 0 0)).setCell ⟨w.heap.size,2,none⟩ (.slice (some ⟨w5.heap.size,0,none⟩) 1 1)).setCell ⟨w.heap.size,3,none⟩ (.slice none 0 0)).heap.size=w5.heap.size by simp[World.setCell]]at hE
    have hres:=(zac hn6 (.int .i64 3) (.slice none 0 0) (.slice (some ⟨w5.heap.size,0,none⟩) 1 1) (.slice none 0 0)).ext (zd _ (.cells #[.bool false,.string x.name,.slice ea x.args.length ec] 73))
    have hcf:=(hc6.chg hch (by simp;omega)).ext (zd _ (.cells #[.bool false,.string x.name,.slice ea x.args.length ec] 73))
    have hqf:=(Chg.drop (T:=[rb]) (Below.refl _ _) ((hq6.mono (T:=[rb,w.heap.size]) (by simp)).trans (hch.mono (by simp))) (by simp)).alloc (.cells #[.bool false,.string x.name,.slice ea x.args.length ec] 73)
    obtain⟨z0,z1,z2,z3⟩:=za9 hres
    refine bodyPost_ret (v:=.agg #[.int .i64 3,.slice none 0 0,.slice (some ⟨w5.heap.size,0,none⟩) 1 1,.slice none 0 0]) (by simp[results,Tryz.results135,go_sem,z0,z1,z2,z3]) rfl ⟨hqf,?_,_,zry x,rfl,⟨_,_,_,_,rfl,zc0 (l:=[x]) (by decide) (by decide) (Nat.le_refl _) hE⟩,HVL.out⟩
    rw[HST.out]
    exact hcf
end
def zjx (m:Nat) (Q:Nat→Prop):Elt (List Dat) where
 size:=m
 is P w cs a:=cs.length=m∧Dat.Fs (fun g=>P g∧Q g) w cs a
 len h:=h.1
 one h:=Dat.Fs.one h.2
 keep h1 h2 h:=⟨h.1,Dat.Fs.of_cells (fun b hb hlt=>⟨h1 b hb.1 hlt,hb.2⟩) (fun p v hp hv=>h2 p v hp.1 hv) h.2⟩
theorem GRow.datQ {m e B:Nat}{Q:Nat→Prop}{w:World}{v:Value}{l:List (List Dat)}(hm:0<m) (h:GRow (zjx m Q) e B w v l) (hQ:∀g,v.ownBlock=some g→Q g):∃a c,v=.slice a l.length c∧l.length≤c∧Dat.Rows (fun b=>B≤b∧Q b) w a l:=by
 obtain⟨a,c,rfl,hc⟩:=h.form
 refine⟨a,c,rfl,hc,?_⟩
 rcases Nat.eq_zero_or_pos l.length with h0|h0
 ·have:l=[]:=List.eq_nil_of_length_eq_zero h0
  subst this;trivial
 ·obtain⟨g,cap,cs,hv,hg,-⟩:=h.at h0
  injection hv with e1 _ _
  subst e1
  have hel:∀e∈l,e.length=m:=by
   intro x hx
   obtain⟨i,hi,rfl⟩:=List.getElem_of_mem hx
   obtain⟨_,_,cs,-,-,-,-,h1,h2,-⟩:=h.at hi
   rw[←Dat.Fs.length h1.2];exact h2
  refine Dat.Rows.of_at ⟨hg,hQ g rfl⟩ hm hel fun i hi=>?_
  obtain⟨g',cap',cs,hv',-,-,-,h1,h2,h3⟩:=h.at hi
  injection hv' with e1 _ _
  injection e1 with e1;injection e1 with e1 _ _
  subst e1
  exact⟨cs,fun j u hu=>by have:=h3 j u hu;simpa[zjx]using this,h1.2.mono fun b hb _=>⟨hb.1.1,hb.2⟩⟩
theorem zzd {P Q R:Nat→Prop}{w:World}{a b c d:Value}{x:Fm}(h:IsFm P w a b c d x) (hQ:∀g,P g→g<w.heap.size→Q g∧R g):(zjx 4 R).is Q w [a,b,c,d] x.dat:=⟨rfl,Dat.Fs.mono h hQ⟩
def zz6 {α:Type}(is:(Nat→Prop)→World→Value→α→Prop) (B rb:Nat) (l:List Tok) (w:World) (rd:Rd α) (e:Ending) (w':World):Prop :=
 Chg [rb] w w'∧RSt rb l w' rd.st∧∃v x',e=.returned v∧is (fun g=>B≤g) w' v x'∧∀x r,rd=.ok x r→x'=x
theorem zxr {S:List Nat}{w0 w1 w2:World}{v:Value}(h:Chg S w0 w1) (hg:w1.grownBy w2 v.ownBlock) (hv:∀g,v.ownBlock=some g→w0.heap.size≤g):Chg S w0 w2 :=
 ⟨hg.os.trans h.os,hg.tape.trans h.tape,hg.output.trans h.output,Nat.le_trans h.size hg.size,fun k hk hs=>(hg.block k (Nat.lt_of_lt_of_le hk h.size) (fun e=>by have:=hv k e.symm;omega)).trans (h.block k hk hs)⟩
def z0i (rb nb:Nat) (l:List Tok) (w:World) (B:Nat) (f:Fm) (s:ByteArray) (m:Nat) (A:Rd (List Fm)) (g:Nat) (v:Value) (wr:World):Prop :=
 ∃(st:Rd Unit) (pre:List Fm),g=toGo st∧RSt rb l wr st∧GRow (zjx 4 (fun g=>g≠nb)) 29 B wr v ((f::pre).map Fm.dat)∧(∀g,v.ownBlock=some g→nb<g)∧Own wr nb [.int .i64 0,.slice none 0 0,.slice none 0 0,.slice none 0 0]∧Chg [rb] w wr ∧
  pre.length+toGo st≤m∧A=st.bind fun _ r=>(more zi s r).map (pre++·)
theorem zsz {rb:Nat}{l:List Tok}(hl:l.length≤1073741820){n:Nat}(ih:zbn rb l n){u:Unit}{ks:List Tok}(hkn:ks.length≤n){w:World}(h:RSt rb l w (.ok u ks)) (op:Int) (h0:-9223372036854775808≤op) (h0':op≤9223372036854775807) (s:ByteArray)
  {B:Nat}(hB:B≤w.heap.size) (hrB:rb<B){x0 x1 x2 x3:Value}{f:Fm}(hf:IsFm (fun g=>B≤g) w x0 x1 x2 x3 f) :
  Calls Tryz.prog 85 #[.pointer (some ⟨rb,0,none⟩),.int .i64 op,.string s,.agg #[x0,x1,x2,x3]] w (zz6 za8 B rb l w ((more zi s ks).map fun m=>fOf op (f::m))):=by
 have hl2:l.length≤1073741824:=by omega
 have hlt:=h.lt
 have hkl:ks.length≤l.length:=by obtain⟨_,_,_,_,_,_,hs,_⟩:=h.good;exact hs.length_le
 have HIH:=Lib.hid ih
 clear ih
 obtain⟨i0,hi0,hz0,hz1',hz2'⟩:=info_parts zhw
 obtain⟨b1,c1,b2,c2,b3,c3,rfl,rfl,rfl,rfl,-⟩:=hf.form
 obtain⟨W,hW⟩:∃W,W=(w.alloc (.cells #[.int .i64 f.op,.slice b1 f.vars.length c1,.slice b2 f.terms.length c2,.slice b3 f.args.length c3] 29)).alloc (.cells #[.int .i64 0,.slice none 0 0,.slice none 0 0,.slice none 0 0] 29):=⟨_,rfl⟩
 have hx:Ext w W:=by rw[hW];exact(zd _ _).alloc _
 have hfb:Own W w.heap.size [.int .i64 f.op,.slice b1 f.vars.length c1,.slice b2 f.terms.length c2,.slice b3 f.args.length c3]:=by rw[hW];exact(own4 w _ _ _ _ _).ext (zd _ _)
 have hnb:Own W (w.heap.size+1) [.int .i64 0,.slice none 0 0,.slice none 0 0,.slice none 0 0]:=by
  rw[hW];have:=own4 (w.alloc (.cells #[.int .i64 f.op,.slice b1 f.vars.length c1,.slice b2 f.terms.length c2,.slice b3 f.args.length c3] 29)) (.int .i64 0) (.slice none 0 0) (.slice none 0 0) (.slice none 0 0) 29
  rw[World.size_alloc]at this;exact this
 have hfW:IsFm (fun g=>B≤g∧g<w.heap.size) W _ _ _ _ f:=(Dat.Fs.mono hf fun g hg hlt=>⟨hg,hlt⟩).ext hx
 have hcW:=h.ext hx
 go_enter Tryz.func85,Tryz.ntmps85
 go_upto_region 1 with fail
 rw[←hW]
 clear hW hf h
 obtain⟨fb,hfbe⟩:∃fb,fb=w.heap.size:=⟨_,rfl⟩
 obtain⟨nb,hnbe⟩:∃nb,nb=w.heap.size+1:=⟨_,rfl⟩
 rw[←hnbe]at hnb
 rw[←hfbe]at hfb
 rw[←hnbe,←hfbe]
 have hw1:w.heap.size≤nb:=by omega
 have hnc:nb≠rb:=by omega
 have hrn:rb<nb:=by omega
 clear hfbe hnbe
 obtain⟨⟨m0,-⟩,⟨m1,-⟩,⟨m2,-⟩,⟨m3,-⟩⟩:=hfb.cells4
 have hnl:=hnb.lt
 have hone:GRow (zjx 4 (fun g=>g≠nb)) 29 B (W.alloc (.cells #[.int .i64 f.op,.slice b1 f.vars.length c1,.slice b2 f.terms.length c2,.slice b3 f.args.length c3] 29)) (.slice (some ⟨W.heap.size,0,none⟩) 1 1) [f.dat] :=
  GRow.one (by have:=hx.size;omega) (zzd hfW fun g hg hlt=>⟨⟨hg.1,hlt⟩,by omega⟩) _ rfl
 go_wp2_with fail
 clear m0 m1 m2 m3 hfb
 go_loopg [9] (ks.length+1) (fun g v wr=>z0i rb nb l w B f s (ks.length+1) (more zi s ks) g v wr)
 case atStart=>exact⟨.ok u ks,[],rfl,hcW.ext (zd _ _),hone,fun g hg=>by injection hg with hg;dsimp only at hg;omega,hnb.ext (zd _ _),Chg.of_ext (hx.alloc _),by simp[toGo],by rw[Rd.bind_ok];cases more zi s ks<;>rfl⟩
 case round =>
  obtain⟨st,pre,hg,hst,hrow,hob,hnw,hq,hlen,hA⟩:=hrel
  have HG:=Lib.hid hg
  have HA:=Lib.hid hA
  have HML:=Lib.hid (show((f::pre).map Fm.dat).length=pre.length+1 by simp)
  obtain⟨va,vc,hv,hvc⟩:=hrow.form
  rw[HML.out]at hv hvc
  subst hv
  clear hg hA hone hcW
  have HT:=zal hl2 hst s
  have hpl:pre.length≤1073741822:=by omega
  cases hb:zdi s st with
  |true =>
   obtain⟨r2,r3,rfl,ht,hS,hr3⟩:=ze8 hb
   rw[hb,hS]at HT
   replace HT:=Lib.hid HT
   clear hS hb
   have hlen2:pre.length+(r2.length+1)≤ks.length+1:=hlen
   have HTT:=Lib.hid (fun w' (h:RSt rb l w' (.ok () r3))=>HIH.out (.ok () r3) (by simp only[toGo];omega) w' h)
   unfold zar at HTT
   simp only[Rd.bind_ok]at HTT
   have HAT:=Lib.hid ht
   have HG2:=Lib.hid (show _=r2.length+1 from HG.out)
   clear ht hlen HG
   have hsz:=hq.size
   have hown:=hob
   clear hob
   have HOB:=Lib.hid hown
   clear hown
   go_wp2_with (first
    |(go_at_call 132;refine(HT.out).mono ?_;rintro e w7 ⟨rfl,hc7,hx7⟩;have hrow7:=hrow.chg hx7 (by simp;omega);have hnw7:=hnw.chg hx7 (by simpa using hnc);have hq7:=hq.trans hx7;have hsz7:=hq7.size;have hnl7:=hnw7.lt)
    |(go_at_call 83;refine(HTT.out _ hc7).mono ?_;rintro e w4 ⟨hx4,hst4,v4,x4,rfl,⟨xa,xv,xc,xd,rfl,hex⟩,hval⟩;have hrow4:=hrow7.chg hx4 (by simp;omega);have hnw4:=hnw7.chg hx4 (by simpa using hnc);have hsz4:=hx4.size;(obtain⟨d1,e1,d2,e2,d3,e3,rfl,rfl,rfl,rfl,-⟩:=hex.form))
    |(at_builtin;refine zaa rfl _ _ _ rfl 29 i0 _ 80 Tryz.underlying27 hi0 hz0 hz1' hz2' rfl (show(0:Nat)<4 by decide) B (.slice va (pre.length+1) vc) ((f::pre).map Fm.dat) rfl w4 hrow4 (zd _ _) w4.heap.size rfl _ _ (heap_alloc_new _ _) x4.dat (zzd (hex.ext (zd _ _)) fun g hg hlt=>(show(B≤g∧(Value.slice va (pre.length+1) vc).ownBlock≠some g)∧g≠nb from ⟨⟨by omega,fun e=>by have:=(hrow7.own_ge e).2;omega⟩,by omega⟩)) (by go_light;rw[HML.out];simp only[maxLen];omega) (by go_light;rw[HML.out];omega) (by go_light;simp;omega) ?_;intro g5 cap w5 hrow5 hgrow hat hlt5;rw[HML.out]at hrow5 ⊢))
   go_roundg (toGo (zi r3).st)
   case measure=>have:=HG2.out;have:=zgh (zbx _) (Nat.le_refl r3.length);go_light;omega
   case rel =>
    have hob:=HOB.out
    refine⟨(zi r3).st,pre++[x4],rfl,(hst4.ext (zd _ _)).append hrow4 hrB hgrow,?_,?_,?_,zxr ((hq7.trans hx4).alloc _) hgrow (fun g hg=>by have:=HOB.out g hg;omega),?_,zms zbx HA.out HAT.out hval⟩
    ·simpa using hrow5
    ·intro g hg
     injection hg with hg
     dsimp only at hg
     subst hg
     rcases hat with h1|h1
     ·exact hob _ h1
     ·simp at h1;omega
    ·exact zb5 (hnw4.ext (zd _ _)) hgrow (fun e=>by have:=hob nb e;omega)
    ·have:=zgh (zbx _) (Nat.le_refl r3.length)
     simp;omega
  |false =>
   obtain⟨hA,hS⟩:=zri zbx HA.out hb
   rw[hb,hS]at HT
   replace HT:=Lib.hid HT
   have HA2:=Lib.hid hA
   clear hA hS hb
   obtain⟨oa,oc,ho,hoc,hod⟩:=GRow.datQ (by decide) hrow (fun g hg=>by have:=hob g hg;omega)
   rw[HML.out]at ho hoc
   injection ho with e1 _ e3
   subst e1;subst e3
   have hdat:IsFms (fun g=>B≤g∧g≠nb) wr va (f::pre):=by unfold IsFms;rw[Fm.dats_map];exact hod
   have hsz:=hq.size
   clear hod hoc hrow hob hlen
   have HO:=Lib.hid (fun w' (hx:Chg [rb] wr w')=>zc8 op (P:=fun g=>B≤g∧g≠nb) (l:=f::pre) (c:=vc) (Dat.Rows.chg hdat hx (fun g hg=>by simp;omega)) (by simp;omega))
   simp only[List.length_cons]at HO
   go_wp2_with (first|(go_at_call 132;refine(HT.out).mono ?_;rintro e w7 ⟨rfl,hc7,hx7⟩)|(go_at_call 86;refine(HO.out _ hx7).mono ?_;rintro e w8 ⟨⟨a8,c8,rfl,hc8,hf8⟩,hx8⟩;have hn8:=(hnw.chg hx7 (by simpa using hnc)).ext hx8;have hnl7:=(hnw.chg hx7 (by simpa using hnc)).lt;(obtain⟨⟨n0,g0⟩,⟨n1,g1⟩,⟨n2,g2⟩,⟨n3,g3⟩⟩:=hn8.cells4);have hnl8:=hn8.lt))
   refine zeg ((hq.trans hx7).trans (Chg.of_ext hx8)) hw1 hrn (hc7.ext hx8) hn8 (fun W2 r0 r1 r2 r3=>by simp[results,Tryz.results85,go_sem,r0,r1,r2,r3]) rfl fun W2 k1 k2 k3=>⟨k2,?_⟩
   rw[HA2.out]
   refine⟨by cases st<;>exact k1,_,fOf op (f::pre),rfl,⟨_,_,_,_,rfl,zbc (l:=f::pre) h0 h0' hc8 (Dat.Rows.mono (Dat.Rows.chg hf8 k3 (fun g hg=>by simp at hg ⊢;omega)) fun g hg _=>by simp at hg;have:=hx7.size;omega)⟩,fun x k he=>?_⟩
   cases st with
   |bad k=>cases he
   |ok u k=>injection he
end Go.Proofs.YtnclgkdpafhogaaGreat
