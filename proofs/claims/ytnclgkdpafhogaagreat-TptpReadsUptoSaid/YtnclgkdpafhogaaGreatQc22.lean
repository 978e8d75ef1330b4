/- The reference's Reader: Formula, from what unit does. Condition: a row of at most 2^30 tokens, not empty. -/
import Derived.Test.YtnclgkdpafhogaaGreatQc21
set_option maxHeartbeats 16000000
set_option maxRecDepth 100000
namespace Go.Proofs.YtnclgkdpafhogaaGreat
open Go.ChangeShapes Go.WideShapes Go.ChangeAt Go.RowKit
theorem zbb {P:Nat→Prop}{w:World}{a b c d:Value}{x:Fm}(h:IsFm P w a b c d x):∃b1 c1 b2 c2 b3 c3,a=.int .i64 x.op∧b=.slice b1 x.vars.length c1∧c=.slice b2 x.terms.length c2∧d=.slice b3 x.args.length c3:=by
 obtain⟨b1,c1,b2,c2,b3,c3,h1,h2,h3,h4,-⟩:=h.form;exact⟨b1,c1,b2,c2,b3,c3,h1,h2,h3,h4⟩
section
variable {rb:Nat}{l:List Tok}
theorem zvs (hl:l.length≤1073741820){n:Nat}(ih:zbn rb l n){u:Unit}{ks:List Tok}(hkn:ks.length≤n){w:World}(h:RSt rb l w (.ok u ks)){r:List Tok}(hu:zi ks=.bad r) :
  Calls Tryz.prog 41 #[.pointer (some ⟨rb,0,none⟩)] w (zar za8 rb l w (zg zi ks)):=by
 have hl2:l.length≤1073741824:=by omega
 have hlt:=h.lt
 have HE:=Lib.hid (show zg zi ks=.bad r by unfold zg;rw[hu];rfl)
 obtain⟨W,hW⟩:∃W,W=w.alloc (.cells #[.int .i64 0,.slice none 0 0,.slice none 0 0,.slice none 0 0] 29):=⟨_,rfl⟩
 have hx:Ext w W:=by rw[hW];exact zd _ _
 have hnew:Own W w.heap.size [.int .i64 0,.slice none 0 0,.slice none 0 0,.slice none 0 0]:=by rw[hW];exact own4 w _ _ _ _ _
 have HU:=ih (.ok u ks) (by simp only[toGo];omega) W (h.ext hx)
 unfold zar at HU
 simp only[Rd.bind_ok]at HU
 rw[hu]at HU
 replace HU:=Lib.hid HU
 have hne:w.heap.size≠rb:=by omega
 have hnl:=hnew.lt
 clear h
 go_enter Tryz.func41,Tryz.ntmps41
 go_upto_region 3 with (first
  |(rw[←hW];clear hW;go_at_call 83;refine(HU.out).mono ?_;rintro e w1 ⟨hx1,hst1,v,f,rfl,⟨xa,xb,xc,xd,rfl,hf⟩,hval⟩;(obtain⟨b1,c1,b2,c2,b3,c3,rfl,rfl,rfl,rfl⟩:=zbb hf))
  |(go_at_call 84;refine(zaz hl2 (hst1.ext (zd _ _))).mono ?_;rintro e w2 ⟨⟨t,rfl,-,ht⟩,hx2⟩;simp only[Tok.vals]))
 obtain⟨V,hV⟩:∃V,V=w2.alloc (.cells #[.int .i64 t.kind,.string t.text,.int .i64 t.at'] 77):=⟨_,rfl⟩
 have hx12:Ext w1 V:=by rw[hV];exact((zd _ _).trans hx2).alloc _
 have hfV:Own V w1.heap.size [.int .i64 f.op,.slice b1 f.vars.length c1,.slice b2 f.terms.length c2,.slice b3 f.args.length c3]:=by rw[hV];exact((own4 w1 _ _ _ _ _).ext hx2).ext (zd _ _)
 have htV:Own V w2.heap.size [.int .i64 t.kind,.string t.text,.int .i64 t.at']:=by rw[hV];exact own3 w2 _ _ _ _
 have hq:Chg [rb] w V:=((Chg.of_ext hx).trans hx1).trans (Chg.of_ext hx12)
 have hst:=hst1.ext hx12
 have hn:Own V w.heap.size [.int .i64 0,.slice none 0 0,.slice none 0 0,.slice none 0 0]:=(hnew.chg hx1 (by simpa using hne)).ext hx12
 have hfm:IsFm (fun g=>w.heap.size<g) V _ _ _ _ f:=(Dat.Fs.mono hf fun g hg _=>(show w.heap.size<g by have:W.heap.size≤g:=hg;omega)).ext hx12
 have hfn:w.heap.size<w1.heap.size:=by have:=hx1.size;omega
 have hftn:w1.heap.size<w2.heap.size:=by have:=hx2.size;simp at this;omega
 rw[←hV]
 clear hV hx hx1 hx2 hx12 hnew HU hst1 hf
 generalize w1.heap.size=fb at *
 generalize w2.heap.size=tb at *
 clear w1 w2
 have hfc:fb≠rb:=by omega
 have hVl:=hst.lt
 obtain⟨⟨m0,-⟩,⟨m1,-⟩,⟨m2,-⟩,⟨m3,-⟩⟩:=hfV.cells4
 obtain⟨⟨n0,g0⟩,⟨n1,g1⟩,⟨n2,g2⟩,⟨n3,g3⟩⟩:=hn.cells4
 obtain⟨t0,-⟩:=htV 0 _ rfl
 obtain⟨t1,-⟩:=htV 1 _ rfl
 have hnV:=hn.lt
 have hst0:RSt rb l V (.bad r):=hst
 have HST:=Lib.hid hst
 obtain⟨a,c,p,z,hown,hc,htk,hp,rfl⟩:=hst
 obtain⟨z2,y2⟩:=hown 2 _ rfl
 clear hown htk hval ht
 have hst:=hst0
 clear hst0
 go_wp2
 refine zeg hq (Nat.le_refl _) hlt hst hn (fun W2 r0 r1 r2 r3=>by simp[results,Tryz.results41,go_sem,r0,r1,r2,r3]) rfl fun W2 k1 k2 k3=>⟨k2,?_⟩
 have hres:IsFm (fun g=>w.heap.size≤g) W2 _ _ _ _ f:=Dat.Fs.mono (Dat.Fs.chg hfm k3 (fun g hg=>by simp;omega)) fun g hg _=>by omega
 rw[HE.out]
 exact⟨k1,_,f,rfl,⟨_,_,_,_,rfl,hres⟩,fun x k he=>by cases he⟩
theorem zo9 (hl:l.length≤1073741820){n:Nat}(ih:zbn rb l n){u:Unit}{ks:List Tok}(hkn:ks.length≤n){w:World}(h:RSt rb l w (.ok u ks)){f0:Fm}{r:List Tok}(hu:zi ks=.ok f0 r) (h6:(zq r).kind≠6) :
  Calls Tryz.prog 41 #[.pointer (some ⟨rb,0,none⟩)] w (zar za8 rb l w (zg zi ks)):=by
 have hl2:l.length≤1073741824:=by omega
 have hlt:=h.lt
 have HE:=Lib.hid (show zg zi ks=.ok f0 r by
  unfold zg;rw[hu,Rd.bind_ok]
  cases r with
  |nil=>rfl
  |cons t r=>rw[zk,if_pos (show t.kind≠6 from h6)])
 obtain⟨W,hW⟩:∃W,W=w.alloc (.cells #[.int .i64 0,.slice none 0 0,.slice none 0 0,.slice none 0 0] 29):=⟨_,rfl⟩
 have hx:Ext w W:=by rw[hW];exact zd _ _
 have hnew:Own W w.heap.size [.int .i64 0,.slice none 0 0,.slice none 0 0,.slice none 0 0]:=by rw[hW];exact own4 w _ _ _ _ _
 have HU:=ih (.ok u ks) (by simp only[toGo];omega) W (h.ext hx)
 unfold zar at HU
 simp only[Rd.bind_ok]at HU
 rw[hu]at HU
 replace HU:=Lib.hid HU
 have hne:w.heap.size≠rb:=by omega
 have hnl:=hnew.lt
 clear h
 go_enter Tryz.func41,Tryz.ntmps41
 go_upto_region 3 with (first
  |(rw[←hW];clear hW;go_at_call 83;refine(HU.out).mono ?_;rintro e w1 ⟨hx1,hst1,v,f,rfl,⟨xa,xb,xc,xd,rfl,hf⟩,hval⟩;(obtain⟨b1,c1,b2,c2,b3,c3,rfl,rfl,rfl,rfl⟩:=zbb hf))
  |(go_at_call 84;refine(zaz hl2 (hst1.ext (zd _ _))).mono ?_;rintro e w2 ⟨⟨t,rfl,-,ht⟩,hx2⟩;simp only[Tok.vals]))
 obtain⟨V,hV⟩:∃V,V=w2.alloc (.cells #[.int .i64 t.kind,.string t.text,.int .i64 t.at'] 77):=⟨_,rfl⟩
 have hx12:Ext w1 V:=by rw[hV];exact((zd _ _).trans hx2).alloc _
 have hfV:Own V w1.heap.size [.int .i64 f.op,.slice b1 f.vars.length c1,.slice b2 f.terms.length c2,.slice b3 f.args.length c3]:=by rw[hV];exact((own4 w1 _ _ _ _ _).ext hx2).ext (zd _ _)
 have htV:Own V w2.heap.size [.int .i64 t.kind,.string t.text,.int .i64 t.at']:=by rw[hV];exact own3 w2 _ _ _ _
 have hq:Chg [rb] w V:=((Chg.of_ext hx).trans hx1).trans (Chg.of_ext hx12)
 have hst:=hst1.ext hx12
 have hn:Own V w.heap.size [.int .i64 0,.slice none 0 0,.slice none 0 0,.slice none 0 0]:=(hnew.chg hx1 (by simpa using hne)).ext hx12
 have hfm:IsFm (fun g=>w.heap.size<g) V _ _ _ _ f:=(Dat.Fs.mono hf fun g hg _=>(show w.heap.size<g by have:W.heap.size≤g:=hg;omega)).ext hx12
 have hfn:w.heap.size<w1.heap.size:=by have:=hx1.size;omega
 have hftn:w1.heap.size<w2.heap.size:=by have:=hx2.size;simp at this;omega
 rw[←hV]
 clear hV hx hx1 hx2 hx12 hnew HU hst1 hf
 generalize w1.heap.size=fb at *
 generalize w2.heap.size=tb at *
 clear w1 w2
 have hfc:fb≠rb:=by omega
 have hVl:=hst.lt
 obtain⟨⟨m0,-⟩,⟨m1,-⟩,⟨m2,-⟩,⟨m3,-⟩⟩:=hfV.cells4
 obtain⟨⟨n0,g0⟩,⟨n1,g1⟩,⟨n2,g2⟩,⟨n3,g3⟩⟩:=hn.cells4
 obtain⟨t0,-⟩:=htV 0 _ rfl
 obtain⟨t1,-⟩:=htV 1 _ rfl
 have hnV:=hn.lt
 have hval':=hval f0 r rfl
 subst hval'
 have HST:=Lib.hid hst
 obtain⟨a,c,p,hown,hp,hpk,hsuf,hmove,-⟩:=(show RSt rb l V (.ok () r)from hst).good
 obtain⟨z1,y1⟩:=hown 1 _ rfl
 obtain⟨z2,y2⟩:=hown 2 _ rfl
 have htt:=ht () r rfl
 clear hown hval ht
 rw[←htt]at h6
 have q1:(t.kind != 6)=true:=by rw[bne_iff_ne];exact h6
 clear h6 htt hmove hpk
 go_wp2
 refine zeg hq (Nat.le_refl _) hlt hst hn (fun W2 r0 r1 r2 r3=>by simp[results,Tryz.results41,go_sem,r0,r1,r2,r3]) rfl fun W2 k1 k2 k3=>⟨k2,?_⟩
 have hres:IsFm (fun g=>w.heap.size≤g) W2 _ _ _ _ f:=Dat.Fs.mono (Dat.Fs.chg hfm k3 (fun g hg=>by simp;omega)) fun g hg _=>by omega
 rw[HE.out]
 exact⟨k1,_,f,rfl,⟨_,_,_,_,rfl,hres⟩,fun x k he=>by injection he⟩
theorem zro (hl:l.length≤1073741820){n:Nat}(ih:zbn rb l n){u:Unit}{ks:List Tok}(hkn:ks.length≤n){w:World}(h:RSt rb l w (.ok u ks)){f0:Fm}{t0:Tok}{r:List Tok}(hu:zi ks=.ok f0 (t0::r)) (h6:t0.kind=6) (hns:∀s∈[sAnd,sOr,sImp,sRev,sIff,sXor,sNor,zda],t0.text≠s) :
  Calls Tryz.prog 41 #[.pointer (some ⟨rb,0,none⟩)] w (zar za8 rb l w (zg zi ks)):=by
 have hl2:l.length≤1073741824:=by omega
 have hlt:=h.lt
 have HE:=Lib.hid (show zg zi ks=.ok f0 (t0::r) by
  unfold zg;rw[hu,Rd.bind_ok,zk,if_neg (fun h=>h h6),if_neg (hns _ (by simp)),if_neg (hns _ (by simp))]
  have hb:zb8 t0.text=none:=by
   unfold zb8
   rw[if_neg (hns _ (by simp)),if_neg (hns _ (by simp)),if_neg (hns _ (by simp)),if_neg (hns _ (by simp)),if_neg (hns _ (by simp)),if_neg (hns _ (by simp))]
  rw[hb])
 obtain⟨kd,tx,ta⟩:=t0
 simp only at h6 hns
 obtain⟨W,hW⟩:∃W,W=w.alloc (.cells #[.int .i64 0,.slice none 0 0,.slice none 0 0,.slice none 0 0] 29):=⟨_,rfl⟩
 have hx:Ext w W:=by rw[hW];exact zd _ _
 have hnew:Own W w.heap.size [.int .i64 0,.slice none 0 0,.slice none 0 0,.slice none 0 0]:=by rw[hW];exact own4 w _ _ _ _ _
 have HU:=ih (.ok u ks) (by simp only[toGo];omega) W (h.ext hx)
 unfold zar at HU
 simp only[Rd.bind_ok]at HU
 rw[hu]at HU
 replace HU:=Lib.hid HU
 have hne:w.heap.size≠rb:=by omega
 have hnl:=hnew.lt
 clear h
 go_enter Tryz.func41,Tryz.ntmps41
 go_upto_region 3 with (first
  |(rw[←hW];clear hW;go_at_call 83;refine(HU.out).mono ?_;rintro e w1 ⟨hx1,hst1,v,f,rfl,⟨xa,xb,xc,xd,rfl,hf⟩,hval⟩;(obtain⟨b1,c1,b2,c2,b3,c3,rfl,rfl,rfl,rfl⟩:=zbb hf))
  |(go_at_call 84;refine(zaz hl2 (hst1.ext (zd _ _))).mono ?_;rintro e w2 ⟨⟨t,rfl,-,ht⟩,hx2⟩;simp only[Tok.vals]))
 obtain⟨V,hV⟩:∃V,V=w2.alloc (.cells #[.int .i64 t.kind,.string t.text,.int .i64 t.at'] 77):=⟨_,rfl⟩
 have hx12:Ext w1 V:=by rw[hV];exact((zd _ _).trans hx2).alloc _
 have hfV:Own V w1.heap.size [.int .i64 f.op,.slice b1 f.vars.length c1,.slice b2 f.terms.length c2,.slice b3 f.args.length c3]:=by rw[hV];exact((own4 w1 _ _ _ _ _).ext hx2).ext (zd _ _)
 have htV:Own V w2.heap.size [.int .i64 t.kind,.string t.text,.int .i64 t.at']:=by rw[hV];exact own3 w2 _ _ _ _
 have hq:Chg [rb] w V:=((Chg.of_ext hx).trans hx1).trans (Chg.of_ext hx12)
 have hst:=hst1.ext hx12
 have hn:Own V w.heap.size [.int .i64 0,.slice none 0 0,.slice none 0 0,.slice none 0 0]:=(hnew.chg hx1 (by simpa using hne)).ext hx12
 have hfm:IsFm (fun g=>w.heap.size<g) V _ _ _ _ f:=(Dat.Fs.mono hf fun g hg _=>(show w.heap.size<g by have:W.heap.size≤g:=hg;omega)).ext hx12
 have hfn:w.heap.size<w1.heap.size:=by have:=hx1.size;omega
 have hftn:w1.heap.size<w2.heap.size:=by have:=hx2.size;simp at this;omega
 rw[←hV]
 clear hV hx hx1 hx2 hx12 hnew HU hst1 hf
 generalize w1.heap.size=fb at *
 generalize w2.heap.size=tb at *
 clear w1 w2
 have hfc:fb≠rb:=by omega
 have hVl:=hst.lt
 obtain⟨⟨m0,-⟩,⟨m1,-⟩,⟨m2,-⟩,⟨m3,-⟩⟩:=hfV.cells4
 obtain⟨⟨n0,g0⟩,⟨n1,g1⟩,⟨n2,g2⟩,⟨n3,g3⟩⟩:=hn.cells4
 obtain⟨t0,-⟩:=htV 0 _ rfl
 obtain⟨t1,-⟩:=htV 1 _ rfl
 have hnV:=hn.lt
 have hval':=hval f0 (⟨kd,tx,ta⟩::r) rfl
 subst hval'
 obtain⟨a,c,p,hown,hp,hpk,hsuf,hmove,-⟩:=(show RSt rb l V (.ok () (⟨kd,tx,ta⟩::r))from hst).good
 obtain⟨z1,y1⟩:=hown 1 _ rfl
 obtain⟨z2,y2⟩:=hown 2 _ rfl
 obtain rfl:t=⟨kd,tx,ta⟩:=ht () _ rfl
 simp only at t0 t1 ⊢
 clear hown hval ht
 have q1:(kd != 6)=false:=by rw[bne_eq_false_iff_eq];exact h6
 have e0:(tx.toList==[38])=false:=by
  have:=zh (a:=tx) (b:=sAnd) (by exact hns sAnd (by simp))
  rwa [show sAnd.toList=[38] by decide +kernel]at this
 have e1:(tx.toList==[124])=false:=by
  have:=zh (a:=tx) (b:=sOr) (by exact hns sOr (by simp))
  rwa [show sOr.toList=[124] by decide +kernel]at this
 have e2:(tx.toList==[61,62])=false:=by
  have:=zh (a:=tx) (b:=sImp) (by exact hns sImp (by simp))
  rwa [show sImp.toList=[61,62] by decide +kernel]at this
 have e3:(tx.toList==[60,61])=false:=by
  have:=zh (a:=tx) (b:=sRev) (by exact hns sRev (by simp))
  rwa [show sRev.toList=[60,61] by decide +kernel]at this
 have e4:(tx.toList==[60,61,62])=false:=by
  have:=zh (a:=tx) (b:=sIff) (by exact hns sIff (by simp))
  rwa [show sIff.toList=[60,61,62] by decide +kernel]at this
 have e5:(tx.toList==[60,126,62])=false:=by
  have:=zh (a:=tx) (b:=sXor) (by exact hns sXor (by simp))
  rwa [show sXor.toList=[60,126,62] by decide +kernel]at this
 have e6:(tx.toList==[126,124])=false:=by
  have:=zh (a:=tx) (b:=sNor) (by exact hns sNor (by simp))
  rwa [show sNor.toList=[126,124] by decide +kernel]at this
 have e7:(tx.toList==[126,38])=false:=by
  have:=zh (a:=tx) (b:=zda) (by exact hns zda (by simp))
  rwa [show zda.toList=[126,38] by decide +kernel]at this
 clear h6 hns hmove hpk hsuf
 go_wp2
 refine zeg hq (Nat.le_refl _) hlt hst hn (fun W2 r0 r1 r2 r3=>by simp[results,Tryz.results41,go_sem,r0,r1,r2,r3]) rfl fun W2 k1 k2 k3=>⟨k2,?_⟩
 have hres:IsFm (fun g=>w.heap.size≤g) W2 _ _ _ _ f:=Dat.Fs.mono (Dat.Fs.chg hfm k3 (fun g hg=>by simp;omega)) fun g hg _=>by omega
 rw[HE.out]
 exact⟨k1,_,f,rfl,⟨_,_,_,_,rfl,hres⟩,fun x k he=>by injection he⟩
theorem zt5 (hl:l.length≤1073741820){n:Nat}(ih:zbn rb l n){u:Unit}{ks:List Tok}(hkn:ks.length≤n){w:World}(h:RSt rb l w (.ok u ks)){f0:Fm}{t0:Tok}{r:List Tok}(hu:zi ks=.ok f0 (t0::r)) (h6:t0.kind=6) (htx:t0.text=sAnd) :
  Calls Tryz.prog 41 #[.pointer (some ⟨rb,0,none⟩)] w (zar za8 rb l w (zg zi ks)):=by
 have hl2:l.length≤1073741824:=by omega
 have hlt:=h.lt
 have hrl:=za3 hu
 have HE:=Lib.hid (show zg zi ks=(more zi sAnd (t0::r)).map (fun m=>fOf 6 (f0::m)) by
  unfold zg;rw[hu,Rd.bind_ok,zk,if_neg (fun h=>h h6)]
  rw[if_pos htx])
 obtain⟨kd,tx,ta⟩:=t0
 simp only at h6 htx
 obtain⟨W,hW⟩:∃W,W=w.alloc (.cells #[.int .i64 0,.slice none 0 0,.slice none 0 0,.slice none 0 0] 29):=⟨_,rfl⟩
 have hx:Ext w W:=by rw[hW];exact zd _ _
 have hnew:Own W w.heap.size [.int .i64 0,.slice none 0 0,.slice none 0 0,.slice none 0 0]:=by rw[hW];exact own4 w _ _ _ _ _
 have HU:=ih (.ok u ks) (by simp only[toGo];omega) W (h.ext hx)
 unfold zar at HU
 simp only[Rd.bind_ok]at HU
 rw[hu]at HU
 replace HU:=Lib.hid HU
 have hne:w.heap.size≠rb:=by omega
 have hnl:=hnew.lt
 clear h
 go_enter Tryz.func41,Tryz.ntmps41
 go_upto_region 3 with (first
  |(rw[←hW];clear hW;go_at_call 83;refine(HU.out).mono ?_;rintro e w1 ⟨hx1,hst1,v,f,rfl,⟨xa,xb,xc,xd,rfl,hf⟩,hval⟩;(obtain⟨b1,c1,b2,c2,b3,c3,rfl,rfl,rfl,rfl⟩:=zbb hf))
  |(go_at_call 84;refine(zaz hl2 (hst1.ext (zd _ _))).mono ?_;rintro e w2 ⟨⟨t,rfl,-,ht⟩,hx2⟩;simp only[Tok.vals]))
 obtain⟨V,hV⟩:∃V,V=w2.alloc (.cells #[.int .i64 t.kind,.string t.text,.int .i64 t.at'] 77):=⟨_,rfl⟩
 have hx12:Ext w1 V:=by rw[hV];exact((zd _ _).trans hx2).alloc _
 have hfV:Own V w1.heap.size [.int .i64 f.op,.slice b1 f.vars.length c1,.slice b2 f.terms.length c2,.slice b3 f.args.length c3]:=by rw[hV];exact((own4 w1 _ _ _ _ _).ext hx2).ext (zd _ _)
 have htV:Own V w2.heap.size [.int .i64 t.kind,.string t.text,.int .i64 t.at']:=by rw[hV];exact own3 w2 _ _ _ _
 have hq:Chg [rb] w V:=((Chg.of_ext hx).trans hx1).trans (Chg.of_ext hx12)
 have hst:=hst1.ext hx12
 have hn:Own V w.heap.size [.int .i64 0,.slice none 0 0,.slice none 0 0,.slice none 0 0]:=(hnew.chg hx1 (by simpa using hne)).ext hx12
 have hfm:IsFm (fun g=>w.heap.size<g) V _ _ _ _ f:=(Dat.Fs.mono hf fun g hg _=>(show w.heap.size<g by have:W.heap.size≤g:=hg;omega)).ext hx12
 have hfn:w.heap.size<w1.heap.size:=by have:=hx1.size;omega
 have hftn:w1.heap.size<w2.heap.size:=by have:=hx2.size;simp at this;omega
 rw[←hV]
 clear hV hx hx1 hx2 hx12 hnew HU hst1 hf
 generalize w1.heap.size=fb at *
 generalize w2.heap.size=tb at *
 clear w1 w2
 have hfc:fb≠rb:=by omega
 have hVl:=hst.lt
 obtain⟨⟨m0,-⟩,⟨m1,-⟩,⟨m2,-⟩,⟨m3,-⟩⟩:=hfV.cells4
 obtain⟨⟨n0,g0⟩,⟨n1,g1⟩,⟨n2,g2⟩,⟨n3,g3⟩⟩:=hn.cells4
 obtain⟨t0,-⟩:=htV 0 _ rfl
 obtain⟨t1,-⟩:=htV 1 _ rfl
 have hnV:=hn.lt
 have hval':=hval f0 (⟨kd,tx,ta⟩::r) rfl
 subst hval'
 obtain⟨a,c,p,hown,hp,hpk,hsuf,hmove,-⟩:=(show RSt rb l V (.ok () (⟨kd,tx,ta⟩::r))from hst).good
 obtain⟨z1,y1⟩:=hown 1 _ rfl
 obtain⟨z2,y2⟩:=hown 2 _ rfl
 obtain rfl:t=⟨kd,tx,ta⟩:=ht () _ rfl
 simp only at t0 t1 ⊢
 clear hown hval ht
 have q1:(kd != 6)=false:=by rw[bne_eq_false_iff_eq];exact h6
 have e0:(tx.toList==[38])=true:=by subst htx;decide +kernel
 have e1:(tx.toList==[124])=false:=by
  have:=zh (a:=tx) (b:=sOr) (by rw[htx];decide)
  rwa [show sOr.toList=[124] by decide +kernel]at this
 have e2:(tx.toList==[61,62])=false:=by
  have:=zh (a:=tx) (b:=sImp) (by rw[htx];decide)
  rwa [show sImp.toList=[61,62] by decide +kernel]at this
 have e3:(tx.toList==[60,61])=false:=by
  have:=zh (a:=tx) (b:=sRev) (by rw[htx];decide)
  rwa [show sRev.toList=[60,61] by decide +kernel]at this
 have e4:(tx.toList==[60,61,62])=false:=by
  have:=zh (a:=tx) (b:=sIff) (by rw[htx];decide)
  rwa [show sIff.toList=[60,61,62] by decide +kernel]at this
 have e5:(tx.toList==[60,126,62])=false:=by
  have:=zh (a:=tx) (b:=sXor) (by rw[htx];decide)
  rwa [show sXor.toList=[60,126,62] by decide +kernel]at this
 have e6:(tx.toList==[126,124])=false:=by
  have:=zh (a:=tx) (b:=sNor) (by rw[htx];decide)
  rwa [show sNor.toList=[126,124] by decide +kernel]at this
 have e7:(tx.toList==[126,38])=false:=by
  have:=zh (a:=tx) (b:=zda) (by rw[htx];decide)
  rwa [show zda.toList=[126,38] by decide +kernel]at this
 clear h6 htx hmove hpk hsuf
 have hVs:w.heap.size+1≤V.heap.size:=by omega
 have HR:=Lib.hid (zsz hl ih (by omega) hst 6 (by decide) (by decide) sAnd (B:=w.heap.size+1) hVs (by omega) (Dat.Fs.mono hfm fun g hg _=>(show w.heap.size+1≤g by omega)))
 simp only[sAnd]at HR
 clear hst
 go_wp2_with (go_at_call 85;refine(HR.out).mono ?_;rintro e w6 ⟨hx6,hst6,v6,y6,rfl,⟨ya,yb,yc,yd,rfl,hy⟩,hval6⟩;(obtain⟨d1,h1,d2,h2,d3,h3,rfl,rfl,rfl,rfl⟩:=zbb hy);have hn6:=hn.chg hx6 (by simpa using hne);clear n0 n1 n2 n3 g0 g1 g2 g3;(obtain⟨⟨n0,g0⟩,⟨n1,g1⟩,⟨n2,g2⟩,⟨n3,g3⟩⟩:=hn6.cells4);have hnl6:=hn6.lt)
 refine zeg (hq.trans hx6) (Nat.le_refl _) hlt hst6 hn6 (fun W2 r0 r1 r2 r3=>by simp[results,Tryz.results41,go_sem,r0,r1,r2,r3]) rfl fun W2 k1 k2 k3=>⟨k2,?_⟩
 rw[HE.out]
 exact⟨k1,_,y6,rfl,⟨_,_,_,_,rfl,Dat.Fs.mono (Dat.Fs.chg hy k3 (fun g hg=>by simp;omega)) fun g hg _=>by omega⟩,hval6⟩
theorem zvt (hl:l.length≤1073741820){n:Nat}(ih:zbn rb l n){u:Unit}{ks:List Tok}(hkn:ks.length≤n){w:World}(h:RSt rb l w (.ok u ks)){f0:Fm}{t0:Tok}{r:List Tok}(hu:zi ks=.ok f0 (t0::r)) (h6:t0.kind=6) (htx:t0.text=sOr) :
  Calls Tryz.prog 41 #[.pointer (some ⟨rb,0,none⟩)] w (zar za8 rb l w (zg zi ks)):=by
 have hl2:l.length≤1073741824:=by omega
 have hlt:=h.lt
 have hrl:=za3 hu
 have HE:=Lib.hid (show zg zi ks=(more zi sOr (t0::r)).map (fun m=>fOf 7 (f0::m)) by
  unfold zg;rw[hu,Rd.bind_ok,zk,if_neg (fun h=>h h6)]
  rw[if_neg (by rw[htx];decide),if_pos htx])
 obtain⟨kd,tx,ta⟩:=t0
 simp only at h6 htx
 obtain⟨W,hW⟩:∃W,W=w.alloc (.cells #[.int .i64 0,.slice none 0 0,.slice none 0 0,.slice none 0 0] 29):=⟨_,rfl⟩
 have hx:Ext w W:=by rw[hW];exact zd _ _
 have hnew:Own W w.heap.size [.int .i64 0,.slice none 0 0,.slice none 0 0,.slice none 0 0]:=by rw[hW];exact own4 w _ _ _ _ _
 have HU:=ih (.ok u ks) (by simp only[toGo];omega) W (h.ext hx)
 unfold zar at HU
 simp only[Rd.bind_ok]at HU
 rw[hu]at HU
 replace HU:=Lib.hid HU
 have hne:w.heap.size≠rb:=by omega
 have hnl:=hnew.lt
 clear h
 go_enter Tryz.func41,Tryz.ntmps41
 go_upto_region 3 with (first
  |(rw[←hW];clear hW;go_at_call 83;refine(HU.out).mono ?_;rintro e w1 ⟨hx1,hst1,v,f,rfl,⟨xa,xb,xc,xd,rfl,hf⟩,hval⟩;(obtain⟨b1,c1,b2,c2,b3,c3,rfl,rfl,rfl,rfl⟩:=zbb hf))
  |(go_at_call 84;refine(zaz hl2 (hst1.ext (zd _ _))).mono ?_;rintro e w2 ⟨⟨t,rfl,-,ht⟩,hx2⟩;simp only[Tok.vals]))
 obtain⟨V,hV⟩:∃V,V=w2.alloc (.cells #[.int .i64 t.kind,.string t.text,.int .i64 t.at'] 77):=⟨_,rfl⟩
 have hx12:Ext w1 V:=by rw[hV];exact((zd _ _).trans hx2).alloc _
 have hfV:Own V w1.heap.size [.int .i64 f.op,.slice b1 f.vars.length c1,.slice b2 f.terms.length c2,.slice b3 f.args.length c3]:=by rw[hV];exact((own4 w1 _ _ _ _ _).ext hx2).ext (zd _ _)
 have htV:Own V w2.heap.size [.int .i64 t.kind,.string t.text,.int .i64 t.at']:=by rw[hV];exact own3 w2 _ _ _ _
 have hq:Chg [rb] w V:=((Chg.of_ext hx).trans hx1).trans (Chg.of_ext hx12)
 have hst:=hst1.ext hx12
 have hn:Own V w.heap.size [.int .i64 0,.slice none 0 0,.slice none 0 0,.slice none 0 0]:=(hnew.chg hx1 (by simpa using hne)).ext hx12
 have hfm:IsFm (fun g=>w.heap.size<g) V _ _ _ _ f:=(Dat.Fs.mono hf fun g hg _=>(show w.heap.size<g by have:W.heap.size≤g:=hg;omega)).ext hx12
 have hfn:w.heap.size<w1.heap.size:=by have:=hx1.size;omega
 have hftn:w1.heap.size<w2.heap.size:=by have:=hx2.size;simp at this;omega
 rw[←hV]
 clear hV hx hx1 hx2 hx12 hnew HU hst1 hf
 generalize w1.heap.size=fb at *
 generalize w2.heap.size=tb at *
 clear w1 w2
 have hfc:fb≠rb:=by omega
 have hVl:=hst.lt
 obtain⟨⟨m0,-⟩,⟨m1,-⟩,⟨m2,-⟩,⟨m3,-⟩⟩:=hfV.cells4
 obtain⟨⟨n0,g0⟩,⟨n1,g1⟩,⟨n2,g2⟩,⟨n3,g3⟩⟩:=hn.cells4
 obtain⟨t0,-⟩:=htV 0 _ rfl
 obtain⟨t1,-⟩:=htV 1 _ rfl
 have hnV:=hn.lt
 have hval':=hval f0 (⟨kd,tx,ta⟩::r) rfl
 subst hval'
 obtain⟨a,c,p,hown,hp,hpk,hsuf,hmove,-⟩:=(show RSt rb l V (.ok () (⟨kd,tx,ta⟩::r))from hst).good
 obtain⟨z1,y1⟩:=hown 1 _ rfl
 obtain⟨z2,y2⟩:=hown 2 _ rfl
 obtain rfl:t=⟨kd,tx,ta⟩:=ht () _ rfl
 simp only at t0 t1 ⊢
 clear hown hval ht
 have q1:(kd != 6)=false:=by rw[bne_eq_false_iff_eq];exact h6
 have e0:(tx.toList==[38])=false:=by
  have:=zh (a:=tx) (b:=sAnd) (by rw[htx];decide)
  rwa [show sAnd.toList=[38] by decide +kernel]at this
 have e1:(tx.toList==[124])=true:=by subst htx;decide +kernel
 have e2:(tx.toList==[61,62])=false:=by
  have:=zh (a:=tx) (b:=sImp) (by rw[htx];decide)
  rwa [show sImp.toList=[61,62] by decide +kernel]at this
 have e3:(tx.toList==[60,61])=false:=by
  have:=zh (a:=tx) (b:=sRev) (by rw[htx];decide)
  rwa [show sRev.toList=[60,61] by decide +kernel]at this
 have e4:(tx.toList==[60,61,62])=false:=by
  have:=zh (a:=tx) (b:=sIff) (by rw[htx];decide)
  rwa [show sIff.toList=[60,61,62] by decide +kernel]at this
 have e5:(tx.toList==[60,126,62])=false:=by
  have:=zh (a:=tx) (b:=sXor) (by rw[htx];decide)
  rwa [show sXor.toList=[60,126,62] by decide +kernel]at this
 have e6:(tx.toList==[126,124])=false:=by
  have:=zh (a:=tx) (b:=sNor) (by rw[htx];decide)
  rwa [show sNor.toList=[126,124] by decide +kernel]at this
 have e7:(tx.toList==[126,38])=false:=by
  have:=zh (a:=tx) (b:=zda) (by rw[htx];decide)
  rwa [show zda.toList=[126,38] by decide +kernel]at this
 clear h6 htx hmove hpk hsuf
 have hVs:w.heap.size+1≤V.heap.size:=by omega
 have HR:=Lib.hid (zsz hl ih (by omega) hst 7 (by decide) (by decide) sOr (B:=w.heap.size+1) hVs (by omega) (Dat.Fs.mono hfm fun g hg _=>(show w.heap.size+1≤g by omega)))
 simp only[sOr]at HR
 clear hst
 go_wp2_with (go_at_call 85;refine(HR.out).mono ?_;rintro e w6 ⟨hx6,hst6,v6,y6,rfl,⟨ya,yb,yc,yd,rfl,hy⟩,hval6⟩;(obtain⟨d1,h1,d2,h2,d3,h3,rfl,rfl,rfl,rfl⟩:=zbb hy);have hn6:=hn.chg hx6 (by simpa using hne);clear n0 n1 n2 n3 g0 g1 g2 g3;(obtain⟨⟨n0,g0⟩,⟨n1,g1⟩,⟨n2,g2⟩,⟨n3,g3⟩⟩:=hn6.cells4);have hnl6:=hn6.lt)
 refine zeg (hq.trans hx6) (Nat.le_refl _) hlt hst6 hn6 (fun W2 r0 r1 r2 r3=>by simp[results,Tryz.results41,go_sem,r0,r1,r2,r3]) rfl fun W2 k1 k2 k3=>⟨k2,?_⟩
 rw[HE.out]
 exact⟨k1,_,y6,rfl,⟨_,_,_,_,rfl,Dat.Fs.mono (Dat.Fs.chg hy k3 (fun g hg=>by simp;omega)) fun g hg _=>by omega⟩,hval6⟩
theorem zt6 (hl:l.length≤1073741820){n:Nat}(ih:zbn rb l n){u:Unit}{ks:List Tok}(hkn:ks.length≤n){w:World}(h:RSt rb l w (.ok u ks)){f0:Fm}{t0:Tok}{r:List Tok}(hu:zi ks=.ok f0 (t0::r)) (h6:t0.kind=6) (htx:t0.text=sImp) :
  Calls Tryz.prog 41 #[.pointer (some ⟨rb,0,none⟩)] w (zar za8 rb l w (zg zi ks)):=by
 have hl2:l.length≤1073741824:=by omega
 have hlt:=h.lt
 have hrl:=za3 hu
 have HE:=Lib.hid (show zg zi ks=(zi r).map (fun g=>(fun f g=>fOf 8 [f,g]) f0 g) by
  unfold zg;rw[hu,Rd.bind_ok,zk,if_neg (fun h=>h h6),htx,if_neg (by decide),if_neg (by decide)]
  have hb:zb8 sImp=some (fun f g=>fOf 8 [f,g]):=by unfold zb8;rw[if_pos rfl]
  rw[hb])
 obtain⟨kd,tx,ta⟩:=t0
 simp only at h6 htx
 obtain⟨W,hW⟩:∃W,W=w.alloc (.cells #[.int .i64 0,.slice none 0 0,.slice none 0 0,.slice none 0 0] 29):=⟨_,rfl⟩
 have hx:Ext w W:=by rw[hW];exact zd _ _
 have hnew:Own W w.heap.size [.int .i64 0,.slice none 0 0,.slice none 0 0,.slice none 0 0]:=by rw[hW];exact own4 w _ _ _ _ _
 have HU:=ih (.ok u ks) (by simp only[toGo];omega) W (h.ext hx)
 unfold zar at HU
 simp only[Rd.bind_ok]at HU
 rw[hu]at HU
 replace HU:=Lib.hid HU
 have hne:w.heap.size≠rb:=by omega
 have hnl:=hnew.lt
 clear h
 go_enter Tryz.func41,Tryz.ntmps41
 go_upto_region 3 with (first
  |(rw[←hW];clear hW;go_at_call 83;refine(HU.out).mono ?_;rintro e w1 ⟨hx1,hst1,v,f,rfl,⟨xa,xb,xc,xd,rfl,hf⟩,hval⟩;(obtain⟨b1,c1,b2,c2,b3,c3,rfl,rfl,rfl,rfl⟩:=zbb hf))
  |(go_at_call 84;refine(zaz hl2 (hst1.ext (zd _ _))).mono ?_;rintro e w2 ⟨⟨t,rfl,-,ht⟩,hx2⟩;simp only[Tok.vals]))
 obtain⟨V,hV⟩:∃V,V=w2.alloc (.cells #[.int .i64 t.kind,.string t.text,.int .i64 t.at'] 77):=⟨_,rfl⟩
 have hx12:Ext w1 V:=by rw[hV];exact((zd _ _).trans hx2).alloc _
 have hfV:Own V w1.heap.size [.int .i64 f.op,.slice b1 f.vars.length c1,.slice b2 f.terms.length c2,.slice b3 f.args.length c3]:=by rw[hV];exact((own4 w1 _ _ _ _ _).ext hx2).ext (zd _ _)
 have htV:Own V w2.heap.size [.int .i64 t.kind,.string t.text,.int .i64 t.at']:=by rw[hV];exact own3 w2 _ _ _ _
 have hq:Chg [rb] w V:=((Chg.of_ext hx).trans hx1).trans (Chg.of_ext hx12)
 have hst:=hst1.ext hx12
 have hn:Own V w.heap.size [.int .i64 0,.slice none 0 0,.slice none 0 0,.slice none 0 0]:=(hnew.chg hx1 (by simpa using hne)).ext hx12
 have hfm:IsFm (fun g=>w.heap.size<g) V _ _ _ _ f:=(Dat.Fs.mono hf fun g hg _=>(show w.heap.size<g by have:W.heap.size≤g:=hg;omega)).ext hx12
 have hfn:w.heap.size<w1.heap.size:=by have:=hx1.size;omega
 have hftn:w1.heap.size<w2.heap.size:=by have:=hx2.size;simp at this;omega
 rw[←hV]
 clear hV hx hx1 hx2 hx12 hnew HU hst1 hf
 generalize w1.heap.size=fb at *
 generalize w2.heap.size=tb at *
 clear w1 w2
 have hfc:fb≠rb:=by omega
 have hVl:=hst.lt
 obtain⟨⟨m0,-⟩,⟨m1,-⟩,⟨m2,-⟩,⟨m3,-⟩⟩:=hfV.cells4
 obtain⟨⟨n0,g0⟩,⟨n1,g1⟩,⟨n2,g2⟩,⟨n3,g3⟩⟩:=hn.cells4
 obtain⟨t0,-⟩:=htV 0 _ rfl
 obtain⟨t1,-⟩:=htV 1 _ rfl
 have hnV:=hn.lt
 have hval':=hval f0 (⟨kd,tx,ta⟩::r) rfl
 subst hval'
 obtain⟨a,c,p,hown,hp,hpk,hsuf,hmove,-⟩:=(show RSt rb l V (.ok () (⟨kd,tx,ta⟩::r))from hst).good
 obtain⟨z1,y1⟩:=hown 1 _ rfl
 obtain⟨z2,y2⟩:=hown 2 _ rfl
 obtain rfl:t=⟨kd,tx,ta⟩:=ht () _ rfl
 simp only at t0 t1 ⊢
 clear hown hval ht
 have q1:(kd != 6)=false:=by rw[bne_eq_false_iff_eq];exact h6
 have e0:(tx.toList==[38])=false:=by
  have:=zh (a:=tx) (b:=sAnd) (by rw[htx];decide)
  rwa [show sAnd.toList=[38] by decide +kernel]at this
 have e1:(tx.toList==[124])=false:=by
  have:=zh (a:=tx) (b:=sOr) (by rw[htx];decide)
  rwa [show sOr.toList=[124] by decide +kernel]at this
 have e2:(tx.toList==[61,62])=true:=by subst htx;decide +kernel
 have e3:(tx.toList==[60,61])=false:=by
  have:=zh (a:=tx) (b:=sRev) (by rw[htx];decide)
  rwa [show sRev.toList=[60,61] by decide +kernel]at this
 have e4:(tx.toList==[60,61,62])=false:=by
  have:=zh (a:=tx) (b:=sIff) (by rw[htx];decide)
  rwa [show sIff.toList=[60,61,62] by decide +kernel]at this
 have e5:(tx.toList==[60,126,62])=false:=by
  have:=zh (a:=tx) (b:=sXor) (by rw[htx];decide)
  rwa [show sXor.toList=[60,126,62] by decide +kernel]at this
 have e6:(tx.toList==[126,124])=false:=by
  have:=zh (a:=tx) (b:=sNor) (by rw[htx];decide)
  rwa [show sNor.toList=[126,124] by decide +kernel]at this
 have e7:(tx.toList==[126,38])=false:=by
  have:=zh (a:=tx) (b:=zda) (by rw[htx];decide)
  rwa [show zda.toList=[126,38] by decide +kernel]at this
 have HK:=Lib.hid (show((p:Int)+1)=((l.length-r.length:Nat):Int) by have:=hsuf.length_le;simp at this;simp at hpk;omega)
 have HR:=Lib.hid ((List.suffix_cons _ r).trans hsuf)
 have hp1:(p:Int)+1≤1073741824:=by have:=hsuf.length_le;simp at this;simp at hpk;omega
 have HM:=Lib.hid hmove
 clear h6 htx hmove hpk hsuf hst
 go_upto_region 17 with fail
 have hch5:Chg [rb] V (V.setCell ⟨rb,1,none⟩ (.int .i64 ((p:Int)+1))):=(Chg.refl [rb] V).setCell _ (.inl (by simp))
 have hst5:=HM.out V (Chg.refl _ _) _ _ HR.out HK.out
 have hf5:=hfV.chg hch5 (by simpa using hfc)
 have hn5:=hn.chg hch5 (by simpa using hne)
 have ht5:=htV.chg hch5 (by simp;omega)
 have hfm5:=Dat.Fs.chg hfm hch5 (fun g hg=>by simp;omega)
 have hq5:=hq.trans hch5
 clear m0 m1 m2 m3 n0 n1 n2 n3 g0 g1 g2 g3 t0 t1 z1 y1 z2 y2 hfV hn htV hfm hq hVl hnV
 generalize V.setCell ⟨rb,1,none⟩ (.int .i64 ((p:Int)+1))=V5 at *
 clear hch5
 have HUU:=ih (.ok () r) (by simp only[toGo];simp only[List.length_cons]at hrl;omega) V5 hst5
 unfold zar at HUU
 simp only[Rd.bind_ok]at HUU
 replace HUU:=Lib.hid HUU
 clear hst5
 go_upto_region 18 with (go_at_call 83;refine(HUU.out).mono ?_;rintro e w6 ⟨hx6,hst6,v6,y6,rfl,⟨ya,yb,yc,yd,rfl,hy⟩,hval6⟩;(obtain⟨d1,h1,d2,h2,d3,h3,rfl,rfl,rfl,rfl⟩:=zbb hy))
 obtain⟨V7,hV7e⟩:∃V7,V7=w6.alloc (.cells #[.int .i64 y6.op,.slice d1 y6.vars.length h1,.slice d2 y6.terms.length h2,.slice d3 y6.args.length h3] 29):=⟨_,rfl⟩
 have hyb:Own V7 w6.heap.size [.int .i64 y6.op,.slice d1 y6.vars.length h1,.slice d2 y6.terms.length h2,.slice d3 y6.args.length h3]:=by rw[hV7e];exact own4 w6 _ _ _ _ _
 have hf7b:Own V7 fb [.int .i64 f.op,.slice b1 f.vars.length c1,.slice b2 f.terms.length c2,.slice b3 f.args.length c3]:=by rw[hV7e];exact(hf5.chg hx6 (by simpa using hfc)).ext (zd _ _)
 have ht7:Own V7 tb [.int .i64 kd,.string tx,.int .i64 ta]:=by rw[hV7e];exact(ht5.chg hx6 (by simp;omega)).ext (zd _ _)
 have hn7:Own V7 w.heap.size [.int .i64 0,.slice none 0 0,.slice none 0 0,.slice none 0 0]:=by rw[hV7e];exact(hn5.chg hx6 (by simpa using hne)).ext (zd _ _)
 have hst7:RSt rb l V7 (zi r).st:=by rw[hV7e];exact hst6.ext (zd _ _)
 have hq7:Chg [rb] w V7:=by rw[hV7e];exact(hq5.trans hx6).alloc _
 have hf7:IsFm (fun g=>w.heap.size<g) V7 (.int .i64 f.op) (.slice b1 f.vars.length c1) (.slice b2 f.terms.length c2) (.slice b3 f.args.length c3) f:=by rw[hV7e];exact(Dat.Fs.chg hfm5 hx6 (fun g hg=>by simp;omega)).ext (zd _ _)
 have h5l:=hn5.lt
 have hy7:IsFm (fun g=>w.heap.size<g) V7 (.int .i64 y6.op) (.slice d1 y6.vars.length h1) (.slice d2 y6.terms.length h2) (.slice d3 y6.args.length h3) y6:=by rw[hV7e];exact(Dat.Fs.mono hy fun g hg _=>(show w.heap.size<g by have:V5.heap.size≤g:=hg;omega)).ext (zd _ _)
 have hV7:w.heap.size<V7.heap.size:=hn7.lt
 rw[←hV7e]
 clear hV7e hf5 hn5 ht5 hfm5 hq5 hx6 hst6 hy HUU h5l
 generalize w6.heap.size=yb at *
 obtain⟨⟨m0,-⟩,⟨m1,-⟩,⟨m2,-⟩,⟨m3,-⟩⟩:=hf7b.cells4
 obtain⟨⟨p0,-⟩,⟨p1,-⟩,⟨p2,-⟩,⟨p3,-⟩⟩:=hyb.cells4
 obtain⟨t1,-⟩:=ht7 1 _ rfl
 go_wp2_with (first
  |(go_at_call 86;refine(zc8 8 (P:=fun g=>w.heap.size<g) (l:=[f,y6]) (c:=2) (zdb 29 hf7 hy7 hV7) (by simp)).mono ?_;rintro e w8 ⟨⟨a8,c8,rfl,hc8,hf8⟩,hx8⟩;have hx8':=(zd _ (.cells #[.int .i64 f.op,.slice b1 f.vars.length c1,.slice b2 f.terms.length c2,.slice b3 f.args.length c3,.int .i64 y6.op,.slice d1 y6.vars.length h1,.slice d2 y6.terms.length h2,.slice d3 y6.args.length h3] 29)).trans hx8;have hn8:=hn7.ext hx8';have hst8:=hst7.ext hx8';have hq8:=hq7.trans (Chg.of_ext hx8');(have hf8':IsFms (fun g=>w.heap.size<g) w8 a8 [f,y6]:=Dat.Rows.mono hf8 fun g hg _=>by simp at hg;omega);simp only[List.length_cons,List.length_nil,Nat.zero_add,Nat.reduceAdd];simp only[List.length_cons,List.length_nil,Nat.zero_add,Nat.reduceAdd]at hc8;(obtain⟨⟨n0,g0⟩,⟨n1,g1⟩,⟨n2,g2⟩,⟨n3,g3⟩⟩:=hn8.cells4);have hnl8:=hn8.lt))
 refine zeg hq8 (Nat.le_refl _) hlt hst8 hn8 (fun W2 r0 r1 r2 r3=>by simp[results,Tryz.results41,go_sem,r0,r1,r2,r3]) rfl fun W2 k1 k2 k3=>⟨k2,?_⟩
 rw[HE.out]
 refine⟨?_,_,fOf 8 [f,y6],rfl,⟨_,_,_,_,rfl,zbc (op:=8) (l:=[f,y6]) (by decide) (by decide) hc8 (Dat.Rows.mono (Dat.Rows.chg hf8' k3 (fun g hg=>by simp;omega)) fun g hg _=>by omega)⟩,fun x k he=>?_⟩
 ·cases hr:zi r with
  |bad k=>rw[hr]at k1;exact k1
  |ok z k=>rw[hr]at k1;exact k1
 ·cases hr:zi r with
  |bad k=>rw[hr]at he;cases he
  |ok z k=>rw[hr]at he;injection he with he;rw[←he,hval6 z k hr]
theorem zt7 (hl:l.length≤1073741820){n:Nat}(ih:zbn rb l n){u:Unit}{ks:List Tok}(hkn:ks.length≤n){w:World}(h:RSt rb l w (.ok u ks)){f0:Fm}{t0:Tok}{r:List Tok}(hu:zi ks=.ok f0 (t0::r)) (h6:t0.kind=6) (htx:t0.text=sRev) :
  Calls Tryz.prog 41 #[.pointer (some ⟨rb,0,none⟩)] w (zar za8 rb l w (zg zi ks)):=by
 have hl2:l.length≤1073741824:=by omega
 have hlt:=h.lt
 have hrl:=za3 hu
 have HE:=Lib.hid (show zg zi ks=(zi r).map (fun g=>(fun f g=>fOf 8 [g,f]) f0 g) by
  unfold zg;rw[hu,Rd.bind_ok,zk,if_neg (fun h=>h h6),htx,if_neg (by decide),if_neg (by decide)]
  have hb:zb8 sRev=some (fun f g=>fOf 8 [g,f]):=by unfold zb8;rw[if_neg (by decide),if_pos rfl]
  rw[hb])
 obtain⟨kd,tx,ta⟩:=t0
 simp only at h6 htx
 obtain⟨W,hW⟩:∃W,W=w.alloc (.cells #[.int .i64 0,.slice none 0 0,.slice none 0 0,.slice none 0 0] 29):=⟨_,rfl⟩
 have hx:Ext w W:=by rw[hW];exact zd _ _
 have hnew:Own W w.heap.size [.int .i64 0,.slice none 0 0,.slice none 0 0,.slice none 0 0]:=by rw[hW];exact own4 w _ _ _ _ _
 have HU:=ih (.ok u ks) (by simp only[toGo];omega) W (h.ext hx)
 unfold zar at HU
 simp only[Rd.bind_ok]at HU
 rw[hu]at HU
 replace HU:=Lib.hid HU
 have hne:w.heap.size≠rb:=by omega
 have hnl:=hnew.lt
 clear h
 go_enter Tryz.func41,Tryz.ntmps41
 go_upto_region 3 with (first
  |(rw[←hW];clear hW;go_at_call 83;refine(HU.out).mono ?_;rintro e w1 ⟨hx1,hst1,v,f,rfl,⟨xa,xb,xc,xd,rfl,hf⟩,hval⟩;(obtain⟨b1,c1,b2,c2,b3,c3,rfl,rfl,rfl,rfl⟩:=zbb hf))
  |(go_at_call 84;refine(zaz hl2 (hst1.ext (zd _ _))).mono ?_;rintro e w2 ⟨⟨t,rfl,-,ht⟩,hx2⟩;simp only[Tok.vals]))
 obtain⟨V,hV⟩:∃V,V=w2.alloc (.cells #[.int .i64 t.kind,.string t.text,.int .i64 t.at'] 77):=⟨_,rfl⟩
 have hx12:Ext w1 V:=by rw[hV];exact((zd _ _).trans hx2).alloc _
 have hfV:Own V w1.heap.size [.int .i64 f.op,.slice b1 f.vars.length c1,.slice b2 f.terms.length c2,.slice b3 f.args.length c3]:=by rw[hV];exact((own4 w1 _ _ _ _ _).ext hx2).ext (zd _ _)
 have htV:Own V w2.heap.size [.int .i64 t.kind,.string t.text,.int .i64 t.at']:=by rw[hV];exact own3 w2 _ _ _ _
 have hq:Chg [rb] w V:=((Chg.of_ext hx).trans hx1).trans (Chg.of_ext hx12)
 have hst:=hst1.ext hx12
 have hn:Own V w.heap.size [.int .i64 0,.slice none 0 0,.slice none 0 0,.slice none 0 0]:=(hnew.chg hx1 (by simpa using hne)).ext hx12
 have hfm:IsFm (fun g=>w.heap.size<g) V _ _ _ _ f:=(Dat.Fs.mono hf fun g hg _=>(show w.heap.size<g by have:W.heap.size≤g:=hg;omega)).ext hx12
 have hfn:w.heap.size<w1.heap.size:=by have:=hx1.size;omega
 have hftn:w1.heap.size<w2.heap.size:=by have:=hx2.size;simp at this;omega
 rw[←hV]
 clear hV hx hx1 hx2 hx12 hnew HU hst1 hf
 generalize w1.heap.size=fb at *
 generalize w2.heap.size=tb at *
 clear w1 w2
 have hfc:fb≠rb:=by omega
 have hVl:=hst.lt
 obtain⟨⟨m0,-⟩,⟨m1,-⟩,⟨m2,-⟩,⟨m3,-⟩⟩:=hfV.cells4
 obtain⟨⟨n0,g0⟩,⟨n1,g1⟩,⟨n2,g2⟩,⟨n3,g3⟩⟩:=hn.cells4
 obtain⟨t0,-⟩:=htV 0 _ rfl
 obtain⟨t1,-⟩:=htV 1 _ rfl
 have hnV:=hn.lt
 have hval':=hval f0 (⟨kd,tx,ta⟩::r) rfl
 subst hval'
 obtain⟨a,c,p,hown,hp,hpk,hsuf,hmove,-⟩:=(show RSt rb l V (.ok () (⟨kd,tx,ta⟩::r))from hst).good
 obtain⟨z1,y1⟩:=hown 1 _ rfl
 obtain⟨z2,y2⟩:=hown 2 _ rfl
 obtain rfl:t=⟨kd,tx,ta⟩:=ht () _ rfl
 simp only at t0 t1 ⊢
 clear hown hval ht
 have q1:(kd != 6)=false:=by rw[bne_eq_false_iff_eq];exact h6
 have e0:(tx.toList==[38])=false:=by
  have:=zh (a:=tx) (b:=sAnd) (by rw[htx];decide)
  rwa [show sAnd.toList=[38] by decide +kernel]at this
 have e1:(tx.toList==[124])=false:=by
  have:=zh (a:=tx) (b:=sOr) (by rw[htx];decide)
  rwa [show sOr.toList=[124] by decide +kernel]at this
 have e2:(tx.toList==[61,62])=false:=by
  have:=zh (a:=tx) (b:=sImp) (by rw[htx];decide)
  rwa [show sImp.toList=[61,62] by decide +kernel]at this
 have e3:(tx.toList==[60,61])=true:=by subst htx;decide +kernel
 have e4:(tx.toList==[60,61,62])=false:=by
  have:=zh (a:=tx) (b:=sIff) (by rw[htx];decide)
  rwa [show sIff.toList=[60,61,62] by decide +kernel]at this
 have e5:(tx.toList==[60,126,62])=false:=by
  have:=zh (a:=tx) (b:=sXor) (by rw[htx];decide)
  rwa [show sXor.toList=[60,126,62] by decide +kernel]at this
 have e6:(tx.toList==[126,124])=false:=by
  have:=zh (a:=tx) (b:=sNor) (by rw[htx];decide)
  rwa [show sNor.toList=[126,124] by decide +kernel]at this
 have e7:(tx.toList==[126,38])=false:=by
  have:=zh (a:=tx) (b:=zda) (by rw[htx];decide)
  rwa [show zda.toList=[126,38] by decide +kernel]at this
 have HK:=Lib.hid (show((p:Int)+1)=((l.length-r.length:Nat):Int) by have:=hsuf.length_le;simp at this;simp at hpk;omega)
 have HR:=Lib.hid ((List.suffix_cons _ r).trans hsuf)
 have hp1:(p:Int)+1≤1073741824:=by have:=hsuf.length_le;simp at this;simp at hpk;omega
 have HM:=Lib.hid hmove
 clear h6 htx hmove hpk hsuf hst
 go_upto_region 17 with fail
 have hch5:Chg [rb] V (V.setCell ⟨rb,1,none⟩ (.int .i64 ((p:Int)+1))):=(Chg.refl [rb] V).setCell _ (.inl (by simp))
 have hst5:=HM.out V (Chg.refl _ _) _ _ HR.out HK.out
 have hf5:=hfV.chg hch5 (by simpa using hfc)
 have hn5:=hn.chg hch5 (by simpa using hne)
 have ht5:=htV.chg hch5 (by simp;omega)
 have hfm5:=Dat.Fs.chg hfm hch5 (fun g hg=>by simp;omega)
 have hq5:=hq.trans hch5
 clear m0 m1 m2 m3 n0 n1 n2 n3 g0 g1 g2 g3 t0 t1 z1 y1 z2 y2 hfV hn htV hfm hq hVl hnV
 generalize V.setCell ⟨rb,1,none⟩ (.int .i64 ((p:Int)+1))=V5 at *
 clear hch5
 have HUU:=ih (.ok () r) (by simp only[toGo];simp only[List.length_cons]at hrl;omega) V5 hst5
 unfold zar at HUU
 simp only[Rd.bind_ok]at HUU
 replace HUU:=Lib.hid HUU
 clear hst5
 go_upto_region 18 with (go_at_call 83;refine(HUU.out).mono ?_;rintro e w6 ⟨hx6,hst6,v6,y6,rfl,⟨ya,yb,yc,yd,rfl,hy⟩,hval6⟩;(obtain⟨d1,h1,d2,h2,d3,h3,rfl,rfl,rfl,rfl⟩:=zbb hy))
 obtain⟨V7,hV7e⟩:∃V7,V7=w6.alloc (.cells #[.int .i64 y6.op,.slice d1 y6.vars.length h1,.slice d2 y6.terms.length h2,.slice d3 y6.args.length h3] 29):=⟨_,rfl⟩
 have hyb:Own V7 w6.heap.size [.int .i64 y6.op,.slice d1 y6.vars.length h1,.slice d2 y6.terms.length h2,.slice d3 y6.args.length h3]:=by rw[hV7e];exact own4 w6 _ _ _ _ _
 have hf7b:Own V7 fb [.int .i64 f.op,.slice b1 f.vars.length c1,.slice b2 f.terms.length c2,.slice b3 f.args.length c3]:=by rw[hV7e];exact(hf5.chg hx6 (by simpa using hfc)).ext (zd _ _)
 have ht7:Own V7 tb [.int .i64 kd,.string tx,.int .i64 ta]:=by rw[hV7e];exact(ht5.chg hx6 (by simp;omega)).ext (zd _ _)
 have hn7:Own V7 w.heap.size [.int .i64 0,.slice none 0 0,.slice none 0 0,.slice none 0 0]:=by rw[hV7e];exact(hn5.chg hx6 (by simpa using hne)).ext (zd _ _)
 have hst7:RSt rb l V7 (zi r).st:=by rw[hV7e];exact hst6.ext (zd _ _)
 have hq7:Chg [rb] w V7:=by rw[hV7e];exact(hq5.trans hx6).alloc _
 have hf7:IsFm (fun g=>w.heap.size<g) V7 (.int .i64 f.op) (.slice b1 f.vars.length c1) (.slice b2 f.terms.length c2) (.slice b3 f.args.length c3) f:=by rw[hV7e];exact(Dat.Fs.chg hfm5 hx6 (fun g hg=>by simp;omega)).ext (zd _ _)
 have h5l:=hn5.lt
 have hy7:IsFm (fun g=>w.heap.size<g) V7 (.int .i64 y6.op) (.slice d1 y6.vars.length h1) (.slice d2 y6.terms.length h2) (.slice d3 y6.args.length h3) y6:=by rw[hV7e];exact(Dat.Fs.mono hy fun g hg _=>(show w.heap.size<g by have:V5.heap.size≤g:=hg;omega)).ext (zd _ _)
 have hV7:w.heap.size<V7.heap.size:=hn7.lt
 rw[←hV7e]
 clear hV7e hf5 hn5 ht5 hfm5 hq5 hx6 hst6 hy HUU h5l
 generalize w6.heap.size=yb at *
 obtain⟨⟨m0,-⟩,⟨m1,-⟩,⟨m2,-⟩,⟨m3,-⟩⟩:=hf7b.cells4
 obtain⟨⟨p0,-⟩,⟨p1,-⟩,⟨p2,-⟩,⟨p3,-⟩⟩:=hyb.cells4
 obtain⟨t1,-⟩:=ht7 1 _ rfl
 go_wp2_with (first
  |(go_at_call 86;refine(zc8 8 (P:=fun g=>w.heap.size<g) (l:=[y6,f]) (c:=2) (zdb 29 hy7 hf7 hV7) (by simp)).mono ?_;rintro e w8 ⟨⟨a8,c8,rfl,hc8,hf8⟩,hx8⟩;have hx8':=(zd _ (.cells #[.int .i64 y6.op,.slice d1 y6.vars.length h1,.slice d2 y6.terms.length h2,.slice d3 y6.args.length h3,.int .i64 f.op,.slice b1 f.vars.length c1,.slice b2 f.terms.length c2,.slice b3 f.args.length c3] 29)).trans hx8;have hn8:=hn7.ext hx8';have hst8:=hst7.ext hx8';have hq8:=hq7.trans (Chg.of_ext hx8');(have hf8':IsFms (fun g=>w.heap.size<g) w8 a8 [y6,f]:=Dat.Rows.mono hf8 fun g hg _=>by simp at hg;omega);simp only[List.length_cons,List.length_nil,Nat.zero_add,Nat.reduceAdd];simp only[List.length_cons,List.length_nil,Nat.zero_add,Nat.reduceAdd]at hc8;(obtain⟨⟨n0,g0⟩,⟨n1,g1⟩,⟨n2,g2⟩,⟨n3,g3⟩⟩:=hn8.cells4);have hnl8:=hn8.lt))
 refine zeg hq8 (Nat.le_refl _) hlt hst8 hn8 (fun W2 r0 r1 r2 r3=>by simp[results,Tryz.results41,go_sem,r0,r1,r2,r3]) rfl fun W2 k1 k2 k3=>⟨k2,?_⟩
 rw[HE.out]
 refine⟨?_,_,fOf 8 [y6,f],rfl,⟨_,_,_,_,rfl,zbc (op:=8) (l:=[y6,f]) (by decide) (by decide) hc8 (Dat.Rows.mono (Dat.Rows.chg hf8' k3 (fun g hg=>by simp;omega)) fun g hg _=>by omega)⟩,fun x k he=>?_⟩
 ·cases hr:zi r with
  |bad k=>rw[hr]at k1;exact k1
  |ok z k=>rw[hr]at k1;exact k1
 ·cases hr:zi r with
  |bad k=>rw[hr]at he;cases he
  |ok z k=>rw[hr]at he;injection he with he;rw[←he,hval6 z k hr]
theorem zt8 (hl:l.length≤1073741820){n:Nat}(ih:zbn rb l n){u:Unit}{ks:List Tok}(hkn:ks.length≤n){w:World}(h:RSt rb l w (.ok u ks)){f0:Fm}{t0:Tok}{r:List Tok}(hu:zi ks=.ok f0 (t0::r)) (h6:t0.kind=6) (htx:t0.text=sIff) :
  Calls Tryz.prog 41 #[.pointer (some ⟨rb,0,none⟩)] w (zar za8 rb l w (zg zi ks)):=by
 have hl2:l.length≤1073741824:=by omega
 have hlt:=h.lt
 have hrl:=za3 hu
 have HE:=Lib.hid (show zg zi ks=(zi r).map (fun g=>(fun f g=>fOf 9 [f,g]) f0 g) by
  unfold zg;rw[hu,Rd.bind_ok,zk,if_neg (fun h=>h h6),htx,if_neg (by decide),if_neg (by decide)]
  have hb:zb8 sIff=some (fun f g=>fOf 9 [f,g]):=by unfold zb8;rw[if_neg (by decide),if_neg (by decide),if_pos rfl]
  rw[hb])
 obtain⟨kd,tx,ta⟩:=t0
 simp only at h6 htx
 obtain⟨W,hW⟩:∃W,W=w.alloc (.cells #[.int .i64 0,.slice none 0 0,.slice none 0 0,.slice none 0 0] 29):=⟨_,rfl⟩
 have hx:Ext w W:=by rw[hW];exact zd _ _
 have hnew:Own W w.heap.size [.int .i64 0,.slice none 0 0,.slice none 0 0,.slice none 0 0]:=by rw[hW];exact own4 w _ _ _ _ _
 have HU:=ih (.ok u ks) (by simp only[toGo];omega) W (h.ext hx)
 unfold zar at HU
 simp only[Rd.bind_ok]at HU
 rw[hu]at HU
 replace HU:=Lib.hid HU
 have hne:w.heap.size≠rb:=by omega
 have hnl:=hnew.lt
 clear h
 go_enter Tryz.func41,Tryz.ntmps41
 go_upto_region 3 with (first
  |(rw[←hW];clear hW;go_at_call 83;refine(HU.out).mono ?_;rintro e w1 ⟨hx1,hst1,v,f,rfl,⟨xa,xb,xc,xd,rfl,hf⟩,hval⟩;(obtain⟨b1,c1,b2,c2,b3,c3,rfl,rfl,rfl,rfl⟩:=zbb hf))
  |(go_at_call 84;refine(zaz hl2 (hst1.ext (zd _ _))).mono ?_;rintro e w2 ⟨⟨t,rfl,-,ht⟩,hx2⟩;simp only[Tok.vals]))
 obtain⟨V,hV⟩:∃V,V=w2.alloc (.cells #[.int .i64 t.kind,.string t.text,.int .i64 t.at'] 77):=⟨_,rfl⟩
 have hx12:Ext w1 V:=by rw[hV];exact((zd _ _).trans hx2).alloc _
 have hfV:Own V w1.heap.size [.int .i64 f.op,.slice b1 f.vars.length c1,.slice b2 f.terms.length c2,.slice b3 f.args.length c3]:=by rw[hV];exact((own4 w1 _ _ _ _ _).ext hx2).ext (zd _ _)
 have htV:Own V w2.heap.size [.int .i64 t.kind,.string t.text,.int .i64 t.at']:=by rw[hV];exact own3 w2 _ _ _ _
 have hq:Chg [rb] w V:=((Chg.of_ext hx).trans hx1).trans (Chg.of_ext hx12)
 have hst:=hst1.ext hx12
 have hn:Own V w.heap.size [.int .i64 0,.slice none 0 0,.slice none 0 0,.slice none 0 0]:=(hnew.chg hx1 (by simpa using hne)).ext hx12
 have hfm:IsFm (fun g=>w.heap.size<g) V _ _ _ _ f:=(Dat.Fs.mono hf fun g hg _=>(show w.heap.size<g by have:W.heap.size≤g:=hg;omega)).ext hx12
 have hfn:w.heap.size<w1.heap.size:=by have:=hx1.size;omega
 have hftn:w1.heap.size<w2.heap.size:=by have:=hx2.size;simp at this;omega
 rw[←hV]
 clear hV hx hx1 hx2 hx12 hnew HU hst1 hf
 generalize w1.heap.size=fb at *
 generalize w2.heap.size=tb at *
 clear w1 w2
 have hfc:fb≠rb:=by omega
 have hVl:=hst.lt
 obtain⟨⟨m0,-⟩,⟨m1,-⟩,⟨m2,-⟩,⟨m3,-⟩⟩:=hfV.cells4
 obtain⟨⟨n0,g0⟩,⟨n1,g1⟩,⟨n2,g2⟩,⟨n3,g3⟩⟩:=hn.cells4
 obtain⟨t0,-⟩:=htV 0 _ rfl
 obtain⟨t1,-⟩:=htV 1 _ rfl
 have hnV:=hn.lt
 have hval':=hval f0 (⟨kd,tx,ta⟩::r) rfl
 subst hval'
 obtain⟨a,c,p,hown,hp,hpk,hsuf,hmove,-⟩:=(show RSt rb l V (.ok () (⟨kd,tx,ta⟩::r))from hst).good
 obtain⟨z1,y1⟩:=hown 1 _ rfl
 obtain⟨z2,y2⟩:=hown 2 _ rfl
 obtain rfl:t=⟨kd,tx,ta⟩:=ht () _ rfl
 simp only at t0 t1 ⊢
 clear hown hval ht
 have q1:(kd != 6)=false:=by rw[bne_eq_false_iff_eq];exact h6
 have e0:(tx.toList==[38])=false:=by
  have:=zh (a:=tx) (b:=sAnd) (by rw[htx];decide)
  rwa [show sAnd.toList=[38] by decide +kernel]at this
 have e1:(tx.toList==[124])=false:=by
  have:=zh (a:=tx) (b:=sOr) (by rw[htx];decide)
  rwa [show sOr.toList=[124] by decide +kernel]at this
 have e2:(tx.toList==[61,62])=false:=by
  have:=zh (a:=tx) (b:=sImp) (by rw[htx];decide)
  rwa [show sImp.toList=[61,62] by decide +kernel]at this
 have e3:(tx.toList==[60,61])=false:=by
  have:=zh (a:=tx) (b:=sRev) (by rw[htx];decide)
  rwa [show sRev.toList=[60,61] by decide +kernel]at this
 have e4:(tx.toList==[60,61,62])=true:=by subst htx;decide +kernel
 have e5:(tx.toList==[60,126,62])=false:=by
  have:=zh (a:=tx) (b:=sXor) (by rw[htx];decide)
  rwa [show sXor.toList=[60,126,62] by decide +kernel]at this
 have e6:(tx.toList==[126,124])=false:=by
  have:=zh (a:=tx) (b:=sNor) (by rw[htx];decide)
  rwa [show sNor.toList=[126,124] by decide +kernel]at this
 have e7:(tx.toList==[126,38])=false:=by
  have:=zh (a:=tx) (b:=zda) (by rw[htx];decide)
  rwa [show zda.toList=[126,38] by decide +kernel]at this
 have HK:=Lib.hid (show((p:Int)+1)=((l.length-r.length:Nat):Int) by have:=hsuf.length_le;simp at this;simp at hpk;omega)
 have HR:=Lib.hid ((List.suffix_cons _ r).trans hsuf)
 have hp1:(p:Int)+1≤1073741824:=by have:=hsuf.length_le;simp at this;simp at hpk;omega
 have HM:=Lib.hid hmove
 clear h6 htx hmove hpk hsuf hst
 go_upto_region 17 with fail
 have hch5:Chg [rb] V (V.setCell ⟨rb,1,none⟩ (.int .i64 ((p:Int)+1))):=(Chg.refl [rb] V).setCell _ (.inl (by simp))
 have hst5:=HM.out V (Chg.refl _ _) _ _ HR.out HK.out
 have hf5:=hfV.chg hch5 (by simpa using hfc)
 have hn5:=hn.chg hch5 (by simpa using hne)
 have ht5:=htV.chg hch5 (by simp;omega)
 have hfm5:=Dat.Fs.chg hfm hch5 (fun g hg=>by simp;omega)
 have hq5:=hq.trans hch5
 clear m0 m1 m2 m3 n0 n1 n2 n3 g0 g1 g2 g3 t0 t1 z1 y1 z2 y2 hfV hn htV hfm hq hVl hnV
 generalize V.setCell ⟨rb,1,none⟩ (.int .i64 ((p:Int)+1))=V5 at *
 clear hch5
 have HUU:=ih (.ok () r) (by simp only[toGo];simp only[List.length_cons]at hrl;omega) V5 hst5
 unfold zar at HUU
 simp only[Rd.bind_ok]at HUU
 replace HUU:=Lib.hid HUU
 clear hst5
 go_upto_region 18 with (go_at_call 83;refine(HUU.out).mono ?_;rintro e w6 ⟨hx6,hst6,v6,y6,rfl,⟨ya,yb,yc,yd,rfl,hy⟩,hval6⟩;(obtain⟨d1,h1,d2,h2,d3,h3,rfl,rfl,rfl,rfl⟩:=zbb hy))
 obtain⟨V7,hV7e⟩:∃V7,V7=w6.alloc (.cells #[.int .i64 y6.op,.slice d1 y6.vars.length h1,.slice d2 y6.terms.length h2,.slice d3 y6.args.length h3] 29):=⟨_,rfl⟩
 have hyb:Own V7 w6.heap.size [.int .i64 y6.op,.slice d1 y6.vars.length h1,.slice d2 y6.terms.length h2,.slice d3 y6.args.length h3]:=by rw[hV7e];exact own4 w6 _ _ _ _ _
 have hf7b:Own V7 fb [.int .i64 f.op,.slice b1 f.vars.length c1,.slice b2 f.terms.length c2,.slice b3 f.args.length c3]:=by rw[hV7e];exact(hf5.chg hx6 (by simpa using hfc)).ext (zd _ _)
 have ht7:Own V7 tb [.int .i64 kd,.string tx,.int .i64 ta]:=by rw[hV7e];exact(ht5.chg hx6 (by simp;omega)).ext (zd _ _)
 have hn7:Own V7 w.heap.size [.int .i64 0,.slice none 0 0,.slice none 0 0,.slice none 0 0]:=by rw[hV7e];exact(hn5.chg hx6 (by simpa using hne)).ext (zd _ _)
 have hst7:RSt rb l V7 (zi r).st:=by rw[hV7e];exact hst6.ext (zd _ _)
 have hq7:Chg [rb] w V7:=by rw[hV7e];exact(hq5.trans hx6).alloc _
 have hf7:IsFm (fun g=>w.heap.size<g) V7 (.int .i64 f.op) (.slice b1 f.vars.length c1) (.slice b2 f.terms.length c2) (.slice b3 f.args.length c3) f:=by rw[hV7e];exact(Dat.Fs.chg hfm5 hx6 (fun g hg=>by simp;omega)).ext (zd _ _)
 have h5l:=hn5.lt
 have hy7:IsFm (fun g=>w.heap.size<g) V7 (.int .i64 y6.op) (.slice d1 y6.vars.length h1) (.slice d2 y6.terms.length h2) (.slice d3 y6.args.length h3) y6:=by rw[hV7e];exact(Dat.Fs.mono hy fun g hg _=>(show w.heap.size<g by have:V5.heap.size≤g:=hg;omega)).ext (zd _ _)
 have hV7:w.heap.size<V7.heap.size:=hn7.lt
 rw[←hV7e]
 clear hV7e hf5 hn5 ht5 hfm5 hq5 hx6 hst6 hy HUU h5l
 generalize w6.heap.size=yb at *
 obtain⟨⟨m0,-⟩,⟨m1,-⟩,⟨m2,-⟩,⟨m3,-⟩⟩:=hf7b.cells4
 obtain⟨⟨p0,-⟩,⟨p1,-⟩,⟨p2,-⟩,⟨p3,-⟩⟩:=hyb.cells4
 obtain⟨t1,-⟩:=ht7 1 _ rfl
 go_wp2_with (first
  |(go_at_call 86;refine(zc8 9 (P:=fun g=>w.heap.size<g) (l:=[f,y6]) (c:=2) (zdb 29 hf7 hy7 hV7) (by simp)).mono ?_;rintro e w8 ⟨⟨a8,c8,rfl,hc8,hf8⟩,hx8⟩;have hx8':=(zd _ (.cells #[.int .i64 f.op,.slice b1 f.vars.length c1,.slice b2 f.terms.length c2,.slice b3 f.args.length c3,.int .i64 y6.op,.slice d1 y6.vars.length h1,.slice d2 y6.terms.length h2,.slice d3 y6.args.length h3] 29)).trans hx8;have hn8:=hn7.ext hx8';have hst8:=hst7.ext hx8';have hq8:=hq7.trans (Chg.of_ext hx8');(have hf8':IsFms (fun g=>w.heap.size<g) w8 a8 [f,y6]:=Dat.Rows.mono hf8 fun g hg _=>by simp at hg;omega);simp only[List.length_cons,List.length_nil,Nat.zero_add,Nat.reduceAdd];simp only[List.length_cons,List.length_nil,Nat.zero_add,Nat.reduceAdd]at hc8;(obtain⟨⟨n0,g0⟩,⟨n1,g1⟩,⟨n2,g2⟩,⟨n3,g3⟩⟩:=hn8.cells4);have hnl8:=hn8.lt))
 refine zeg hq8 (Nat.le_refl _) hlt hst8 hn8 (fun W2 r0 r1 r2 r3=>by simp[results,Tryz.results41,go_sem,r0,r1,r2,r3]) rfl fun W2 k1 k2 k3=>⟨k2,?_⟩
 rw[HE.out]
 refine⟨?_,_,fOf 9 [f,y6],rfl,⟨_,_,_,_,rfl,zbc (op:=9) (l:=[f,y6]) (by decide) (by decide) hc8 (Dat.Rows.mono (Dat.Rows.chg hf8' k3 (fun g hg=>by simp;omega)) fun g hg _=>by omega)⟩,fun x k he=>?_⟩
 ·cases hr:zi r with
  |bad k=>rw[hr]at k1;exact k1
  |ok z k=>rw[hr]at k1;exact k1
 ·cases hr:zi r with
  |bad k=>rw[hr]at he;cases he
  |ok z k=>rw[hr]at he;injection he with he;rw[←he,hval6 z k hr]
theorem zt9 (hl:l.length≤1073741820){n:Nat}(ih:zbn rb l n){u:Unit}{ks:List Tok}(hkn:ks.length≤n){w:World}(h:RSt rb l w (.ok u ks)){f0:Fm}{t0:Tok}{r:List Tok}(hu:zi ks=.ok f0 (t0::r)) (h6:t0.kind=6) (htx:t0.text=sXor) :
  Calls Tryz.prog 41 #[.pointer (some ⟨rb,0,none⟩)] w (zar za8 rb l w (zg zi ks)):=by
 have hl2:l.length≤1073741824:=by omega
 have hlt:=h.lt
 have hrl:=za3 hu
 have HE:=Lib.hid (show zg zi ks=(zi r).map (fun g=>(fun f g=>fOf 10 [f,g]) f0 g) by
  unfold zg;rw[hu,Rd.bind_ok,zk,if_neg (fun h=>h h6),htx,if_neg (by decide),if_neg (by decide)]
  have hb:zb8 sXor=some (fun f g=>fOf 10 [f,g]):=by unfold zb8;rw[if_neg (by decide),if_neg (by decide),if_neg (by decide),if_pos rfl]
  rw[hb])
 obtain⟨kd,tx,ta⟩:=t0
 simp only at h6 htx
 obtain⟨W,hW⟩:∃W,W=w.alloc (.cells #[.int .i64 0,.slice none 0 0,.slice none 0 0,.slice none 0 0] 29):=⟨_,rfl⟩
 have hx:Ext w W:=by rw[hW];exact zd _ _
 have hnew:Own W w.heap.size [.int .i64 0,.slice none 0 0,.slice none 0 0,.slice none 0 0]:=by rw[hW];exact own4 w _ _ _ _ _
 have HU:=ih (.ok u ks) (by simp only[toGo];omega) W (h.ext hx)
 unfold zar at HU
 simp only[Rd.bind_ok]at HU
 rw[hu]at HU
 replace HU:=Lib.hid HU
 have hne:w.heap.size≠rb:=by omega
 have hnl:=hnew.lt
 clear h
 go_enter Tryz.func41,Tryz.ntmps41
 go_upto_region 3 with (first
  |(rw[←hW];clear hW;go_at_call 83;refine(HU.out).mono ?_;rintro e w1 ⟨hx1,hst1,v,f,rfl,⟨xa,xb,xc,xd,rfl,hf⟩,hval⟩;(obtain⟨b1,c1,b2,c2,b3,c3,rfl,rfl,rfl,rfl⟩:=zbb hf))
  |(go_at_call 84;refine(zaz hl2 (hst1.ext (zd _ _))).mono ?_;rintro e w2 ⟨⟨t,rfl,-,ht⟩,hx2⟩;simp only[Tok.vals]))
 obtain⟨V,hV⟩:∃V,V=w2.alloc (.cells #[.int .i64 t.kind,.string t.text,.int .i64 t.at'] 77):=⟨_,rfl⟩
 have hx12:Ext w1 V:=by rw[hV];exact((zd _ _).trans hx2).alloc _
 have hfV:Own V w1.heap.size [.int .i64 f.op,.slice b1 f.vars.length c1,.slice b2 f.terms.length c2,.slice b3 f.args.length c3]:=by rw[hV];exact((own4 w1 _ _ _ _ _).ext hx2).ext (zd _ _)
 have htV:Own V w2.heap.size [.int .i64 t.kind,.string t.text,.int .i64 t.at']:=by rw[hV];exact own3 w2 _ _ _ _
 have hq:Chg [rb] w V:=((Chg.of_ext hx).trans hx1).trans (Chg.of_ext hx12)
 have hst:=hst1.ext hx12
 have hn:Own V w.heap.size [.int .i64 0,.slice none 0 0,.slice none 0 0,.slice none 0 0]:=(hnew.chg hx1 (by simpa using hne)).ext hx12
 have hfm:IsFm (fun g=>w.heap.size<g) V _ _ _ _ f:=(Dat.Fs.mono hf fun g hg _=>(show w.heap.size<g by have:W.heap.size≤g:=hg;omega)).ext hx12
 have hfn:w.heap.size<w1.heap.size:=by have:=hx1.size;omega
 have hftn:w1.heap.size<w2.heap.size:=by have:=hx2.size;simp at this;omega
 rw[←hV]
 clear hV hx hx1 hx2 hx12 hnew HU hst1 hf
 generalize w1.heap.size=fb at *
 generalize w2.heap.size=tb at *
 clear w1 w2
 have hfc:fb≠rb:=by omega
 have hVl:=hst.lt
 obtain⟨⟨m0,-⟩,⟨m1,-⟩,⟨m2,-⟩,⟨m3,-⟩⟩:=hfV.cells4
 obtain⟨⟨n0,g0⟩,⟨n1,g1⟩,⟨n2,g2⟩,⟨n3,g3⟩⟩:=hn.cells4
 obtain⟨t0,-⟩:=htV 0 _ rfl
 obtain⟨t1,-⟩:=htV 1 _ rfl
 have hnV:=hn.lt
 have hval':=hval f0 (⟨kd,tx,ta⟩::r) rfl
 subst hval'
 obtain⟨a,c,p,hown,hp,hpk,hsuf,hmove,-⟩:=(show RSt rb l V (.ok () (⟨kd,tx,ta⟩::r))from hst).good
 obtain⟨z1,y1⟩:=hown 1 _ rfl
 obtain⟨z2,y2⟩:=hown 2 _ rfl
 obtain rfl:t=⟨kd,tx,ta⟩:=ht () _ rfl
 simp only at t0 t1 ⊢
 clear hown hval ht
 have q1:(kd != 6)=false:=by rw[bne_eq_false_iff_eq];exact h6
 have e0:(tx.toList==[38])=false:=by
  have:=zh (a:=tx) (b:=sAnd) (by rw[htx];decide)
  rwa [show sAnd.toList=[38] by decide +kernel]at this
 have e1:(tx.toList==[124])=false:=by
  have:=zh (a:=tx) (b:=sOr) (by rw[htx];decide)
  rwa [show sOr.toList=[124] by decide +kernel]at this
 have e2:(tx.toList==[61,62])=false:=by
  have:=zh (a:=tx) (b:=sImp) (by rw[htx];decide)
  rwa [show sImp.toList=[61,62] by decide +kernel]at this
 have e3:(tx.toList==[60,61])=false:=by
  have:=zh (a:=tx) (b:=sRev) (by rw[htx];decide)
  rwa [show sRev.toList=[60,61] by decide +kernel]at this
 have e4:(tx.toList==[60,61,62])=false:=by
  have:=zh (a:=tx) (b:=sIff) (by rw[htx];decide)
  rwa [show sIff.toList=[60,61,62] by decide +kernel]at this
 have e5:(tx.toList==[60,126,62])=true:=by subst htx;decide +kernel
 have e6:(tx.toList==[126,124])=false:=by
  have:=zh (a:=tx) (b:=sNor) (by rw[htx];decide)
  rwa [show sNor.toList=[126,124] by decide +kernel]at this
 have e7:(tx.toList==[126,38])=false:=by
  have:=zh (a:=tx) (b:=zda) (by rw[htx];decide)
  rwa [show zda.toList=[126,38] by decide +kernel]at this
 have HK:=Lib.hid (show((p:Int)+1)=((l.length-r.length:Nat):Int) by have:=hsuf.length_le;simp at this;simp at hpk;omega)
 have HR:=Lib.hid ((List.suffix_cons _ r).trans hsuf)
 have hp1:(p:Int)+1≤1073741824:=by have:=hsuf.length_le;simp at this;simp at hpk;omega
 have HM:=Lib.hid hmove
 clear h6 htx hmove hpk hsuf hst
 go_upto_region 17 with fail
 have hch5:Chg [rb] V (V.setCell ⟨rb,1,none⟩ (.int .i64 ((p:Int)+1))):=(Chg.refl [rb] V).setCell _ (.inl (by simp))
 have hst5:=HM.out V (Chg.refl _ _) _ _ HR.out HK.out
 have hf5:=hfV.chg hch5 (by simpa using hfc)
 have hn5:=hn.chg hch5 (by simpa using hne)
 have ht5:=htV.chg hch5 (by simp;omega)
 have hfm5:=Dat.Fs.chg hfm hch5 (fun g hg=>by simp;omega)
 have hq5:=hq.trans hch5
 clear m0 m1 m2 m3 n0 n1 n2 n3 g0 g1 g2 g3 t0 t1 z1 y1 z2 y2 hfV hn htV hfm hq hVl hnV
 generalize V.setCell ⟨rb,1,none⟩ (.int .i64 ((p:Int)+1))=V5 at *
 clear hch5
 have HUU:=ih (.ok () r) (by simp only[toGo];simp only[List.length_cons]at hrl;omega) V5 hst5
 unfold zar at HUU
 simp only[Rd.bind_ok]at HUU
 replace HUU:=Lib.hid HUU
 clear hst5
 go_upto_region 18 with (go_at_call 83;refine(HUU.out).mono ?_;rintro e w6 ⟨hx6,hst6,v6,y6,rfl,⟨ya,yb,yc,yd,rfl,hy⟩,hval6⟩;(obtain⟨d1,h1,d2,h2,d3,h3,rfl,rfl,rfl,rfl⟩:=zbb hy))
 obtain⟨V7,hV7e⟩:∃V7,V7=w6.alloc (.cells #[.int .i64 y6.op,.slice d1 y6.vars.length h1,.slice d2 y6.terms.length h2,.slice d3 y6.args.length h3] 29):=⟨_,rfl⟩
 have hyb:Own V7 w6.heap.size [.int .i64 y6.op,.slice d1 y6.vars.length h1,.slice d2 y6.terms.length h2,.slice d3 y6.args.length h3]:=by rw[hV7e];exact own4 w6 _ _ _ _ _
 have hf7b:Own V7 fb [.int .i64 f.op,.slice b1 f.vars.length c1,.slice b2 f.terms.length c2,.slice b3 f.args.length c3]:=by rw[hV7e];exact(hf5.chg hx6 (by simpa using hfc)).ext (zd _ _)
 have ht7:Own V7 tb [.int .i64 kd,.string tx,.int .i64 ta]:=by rw[hV7e];exact(ht5.chg hx6 (by simp;omega)).ext (zd _ _)
 have hn7:Own V7 w.heap.size [.int .i64 0,.slice none 0 0,.slice none 0 0,.slice none 0 0]:=by rw[hV7e];exact(hn5.chg hx6 (by simpa using hne)).ext (zd _ _)
 have hst7:RSt rb l V7 (zi r).st:=by rw[hV7e];exact hst6.ext (zd _ _)
 have hq7:Chg [rb] w V7:=by rw[hV7e];exact(hq5.trans hx6).alloc _
 have hf7:IsFm (fun g=>w.heap.size<g) V7 (.int .i64 f.op) (.slice b1 f.vars.length c1) (.slice b2 f.terms.length c2) (.slice b3 f.args.length c3) f:=by rw[hV7e];exact(Dat.Fs.chg hfm5 hx6 (fun g hg=>by simp;omega)).ext (zd _ _)
 have h5l:=hn5.lt
 have hy7:IsFm (fun g=>w.heap.size<g) V7 (.int .i64 y6.op) (.slice d1 y6.vars.length h1) (.slice d2 y6.terms.length h2) (.slice d3 y6.args.length h3) y6:=by rw[hV7e];exact(Dat.Fs.mono hy fun g hg _=>(show w.heap.size<g by have:V5.heap.size≤g:=hg;omega)).ext (zd _ _)
 have hV7:w.heap.size<V7.heap.size:=hn7.lt
 rw[←hV7e]
 clear hV7e hf5 hn5 ht5 hfm5 hq5 hx6 hst6 hy HUU h5l
 generalize w6.heap.size=yb at *
 obtain⟨⟨m0,-⟩,⟨m1,-⟩,⟨m2,-⟩,⟨m3,-⟩⟩:=hf7b.cells4
 obtain⟨⟨p0,-⟩,⟨p1,-⟩,⟨p2,-⟩,⟨p3,-⟩⟩:=hyb.cells4
 obtain⟨t1,-⟩:=ht7 1 _ rfl
 go_wp2_with (first
  |(go_at_call 86;refine(zc8 10 (P:=fun g=>w.heap.size<g) (l:=[f,y6]) (c:=2) (zdb 29 hf7 hy7 hV7) (by simp)).mono ?_;rintro e w8 ⟨⟨a8,c8,rfl,hc8,hf8⟩,hx8⟩;have hx8':=(zd _ (.cells #[.int .i64 f.op,.slice b1 f.vars.length c1,.slice b2 f.terms.length c2,.slice b3 f.args.length c3,.int .i64 y6.op,.slice d1 y6.vars.length h1,.slice d2 y6.terms.length h2,.slice d3 y6.args.length h3] 29)).trans hx8;have hn8:=hn7.ext hx8';have hst8:=hst7.ext hx8';have hq8:=hq7.trans (Chg.of_ext hx8');(have hf8':IsFms (fun g=>w.heap.size<g) w8 a8 [f,y6]:=Dat.Rows.mono hf8 fun g hg _=>by simp at hg;omega);simp only[List.length_cons,List.length_nil,Nat.zero_add,Nat.reduceAdd];simp only[List.length_cons,List.length_nil,Nat.zero_add,Nat.reduceAdd]at hc8;(obtain⟨⟨n0,g0⟩,⟨n1,g1⟩,⟨n2,g2⟩,⟨n3,g3⟩⟩:=hn8.cells4);have hnl8:=hn8.lt))
 refine zeg hq8 (Nat.le_refl _) hlt hst8 hn8 (fun W2 r0 r1 r2 r3=>by simp[results,Tryz.results41,go_sem,r0,r1,r2,r3]) rfl fun W2 k1 k2 k3=>⟨k2,?_⟩
 rw[HE.out]
 refine⟨?_,_,fOf 10 [f,y6],rfl,⟨_,_,_,_,rfl,zbc (op:=10) (l:=[f,y6]) (by decide) (by decide) hc8 (Dat.Rows.mono (Dat.Rows.chg hf8' k3 (fun g hg=>by simp;omega)) fun g hg _=>by omega)⟩,fun x k he=>?_⟩
 ·cases hr:zi r with
  |bad k=>rw[hr]at k1;exact k1
  |ok z k=>rw[hr]at k1;exact k1
 ·cases hr:zi r with
  |bad k=>rw[hr]at he;cases he
  |ok z k=>rw[hr]at he;injection he with he;rw[←he,hval6 z k hr]
theorem zua (hl:l.length≤1073741820){n:Nat}(ih:zbn rb l n){u:Unit}{ks:List Tok}(hkn:ks.length≤n){w:World}(h:RSt rb l w (.ok u ks)){f0:Fm}{t0:Tok}{r:List Tok}(hu:zi ks=.ok f0 (t0::r)) (h6:t0.kind=6) (htx:t0.text=sNor) :
  Calls Tryz.prog 41 #[.pointer (some ⟨rb,0,none⟩)] w (zar za8 rb l w (zg zi ks)):=by
 have hl2:l.length≤1073741824:=by omega
 have hlt:=h.lt
 have hrl:=za3 hu
 have HE:=Lib.hid (show zg zi ks=(zi r).map (fun g=>(fun f g=>fNot (fOf 7 [f,g])) f0 g) by
  unfold zg;rw[hu,Rd.bind_ok,zk,if_neg (fun h=>h h6),htx,if_neg (by decide),if_neg (by decide)]
  have hb:zb8 sNor=some (fun f g=>fNot (fOf 7 [f,g])):=by unfold zb8;rw[if_neg (by decide),if_neg (by decide),if_neg (by decide),if_neg (by decide),if_pos rfl]
  rw[hb])
 obtain⟨kd,tx,ta⟩:=t0
 simp only at h6 htx
 obtain⟨W,hW⟩:∃W,W=w.alloc (.cells #[.int .i64 0,.slice none 0 0,.slice none 0 0,.slice none 0 0] 29):=⟨_,rfl⟩
 have hx:Ext w W:=by rw[hW];exact zd _ _
 have hnew:Own W w.heap.size [.int .i64 0,.slice none 0 0,.slice none 0 0,.slice none 0 0]:=by rw[hW];exact own4 w _ _ _ _ _
 have HU:=ih (.ok u ks) (by simp only[toGo];omega) W (h.ext hx)
 unfold zar at HU
 simp only[Rd.bind_ok]at HU
 rw[hu]at HU
 replace HU:=Lib.hid HU
 have hne:w.heap.size≠rb:=by omega
 have hnl:=hnew.lt
 clear h
 go_enter Tryz.func41,Tryz.ntmps41
 go_upto_region 3 with (first
  |(rw[←hW];clear hW;go_at_call 83;refine(HU.out).mono ?_;rintro e w1 ⟨hx1,hst1,v,f,rfl,⟨xa,xb,xc,xd,rfl,hf⟩,hval⟩;(obtain⟨b1,c1,b2,c2,b3,c3,rfl,rfl,rfl,rfl⟩:=zbb hf))
  |(go_at_call 84;refine(zaz hl2 (hst1.ext (zd _ _))).mono ?_;rintro e w2 ⟨⟨t,rfl,-,ht⟩,hx2⟩;simp only[Tok.vals]))
 obtain⟨V,hV⟩:∃V,V=w2.alloc (.cells #[.int .i64 t.kind,.string t.text,.int .i64 t.at'] 77):=⟨_,rfl⟩
 have hx12:Ext w1 V:=by rw[hV];exact((zd _ _).trans hx2).alloc _
 have hfV:Own V w1.heap.size [.int .i64 f.op,.slice b1 f.vars.length c1,.slice b2 f.terms.length c2,.slice b3 f.args.length c3]:=by rw[hV];exact((own4 w1 _ _ _ _ _).ext hx2).ext (zd _ _)
 have htV:Own V w2.heap.size [.int .i64 t.kind,.string t.text,.int .i64 t.at']:=by rw[hV];exact own3 w2 _ _ _ _
 have hq:Chg [rb] w V:=((Chg.of_ext hx).trans hx1).trans (Chg.of_ext hx12)
 have hst:=hst1.ext hx12
 have hn:Own V w.heap.size [.int .i64 0,.slice none 0 0,.slice none 0 0,.slice none 0 0]:=(hnew.chg hx1 (by simpa using hne)).ext hx12
 have hfm:IsFm (fun g=>w.heap.size<g) V _ _ _ _ f:=(Dat.Fs.mono hf fun g hg _=>(show w.heap.size<g by have:W.heap.size≤g:=hg;omega)).ext hx12
 have hfn:w.heap.size<w1.heap.size:=by have:=hx1.size;omega
 have hftn:w1.heap.size<w2.heap.size:=by have:=hx2.size;simp at this;omega
 rw[←hV]
 clear hV hx hx1 hx2 hx12 hnew HU hst1 hf
 generalize w1.heap.size=fb at *
 generalize w2.heap.size=tb at *
 clear w1 w2
 have hfc:fb≠rb:=by omega
 have hVl:=hst.lt
 obtain⟨⟨m0,-⟩,⟨m1,-⟩,⟨m2,-⟩,⟨m3,-⟩⟩:=hfV.cells4
 obtain⟨⟨n0,g0⟩,⟨n1,g1⟩,⟨n2,g2⟩,⟨n3,g3⟩⟩:=hn.cells4
 obtain⟨t0,-⟩:=htV 0 _ rfl
 obtain⟨t1,-⟩:=htV 1 _ rfl
 have hnV:=hn.lt
 have hval':=hval f0 (⟨kd,tx,ta⟩::r) rfl
 subst hval'
 obtain⟨a,c,p,hown,hp,hpk,hsuf,hmove,-⟩:=(show RSt rb l V (.ok () (⟨kd,tx,ta⟩::r))from hst).good
 obtain⟨z1,y1⟩:=hown 1 _ rfl
 obtain⟨z2,y2⟩:=hown 2 _ rfl
 obtain rfl:t=⟨kd,tx,ta⟩:=ht () _ rfl
 simp only at t0 t1 ⊢
 clear hown hval ht
 have q1:(kd != 6)=false:=by rw[bne_eq_false_iff_eq];exact h6
 have e0:(tx.toList==[38])=false:=by
  have:=zh (a:=tx) (b:=sAnd) (by rw[htx];decide)
  rwa [show sAnd.toList=[38] by decide +kernel]at this
 have e1:(tx.toList==[124])=false:=by
  have:=zh (a:=tx) (b:=sOr) (by rw[htx];decide)
  rwa [show sOr.toList=[124] by decide +kernel]at this
 have e2:(tx.toList==[61,62])=false:=by
  have:=zh (a:=tx) (b:=sImp) (by rw[htx];decide)
  rwa [show sImp.toList=[61,62] by decide +kernel]at this
 have e3:(tx.toList==[60,61])=false:=by
  have:=zh (a:=tx) (b:=sRev) (by rw[htx];decide)
  rwa [show sRev.toList=[60,61] by decide +kernel]at this
 have e4:(tx.toList==[60,61,62])=false:=by
  have:=zh (a:=tx) (b:=sIff) (by rw[htx];decide)
  rwa [show sIff.toList=[60,61,62] by decide +kernel]at this
 have e5:(tx.toList==[60,126,62])=false:=by
  have:=zh (a:=tx) (b:=sXor) (by rw[htx];decide)
  rwa [show sXor.toList=[60,126,62] by decide +kernel]at this
 have e6:(tx.toList==[126,124])=true:=by subst htx;decide +kernel
 have e7:(tx.toList==[126,38])=false:=by
  have:=zh (a:=tx) (b:=zda) (by rw[htx];decide)
  rwa [show zda.toList=[126,38] by decide +kernel]at this
 have HK:=Lib.hid (show((p:Int)+1)=((l.length-r.length:Nat):Int) by have:=hsuf.length_le;simp at this;simp at hpk;omega)
 have HR:=Lib.hid ((List.suffix_cons _ r).trans hsuf)
 have hp1:(p:Int)+1≤1073741824:=by have:=hsuf.length_le;simp at this;simp at hpk;omega
 have HM:=Lib.hid hmove
 clear h6 htx hmove hpk hsuf hst
 go_upto_region 17 with fail
 have hch5:Chg [rb] V (V.setCell ⟨rb,1,none⟩ (.int .i64 ((p:Int)+1))):=(Chg.refl [rb] V).setCell _ (.inl (by simp))
 have hst5:=HM.out V (Chg.refl _ _) _ _ HR.out HK.out
 have hf5:=hfV.chg hch5 (by simpa using hfc)
 have hn5:=hn.chg hch5 (by simpa using hne)
 have ht5:=htV.chg hch5 (by simp;omega)
 have hfm5:=Dat.Fs.chg hfm hch5 (fun g hg=>by simp;omega)
 have hq5:=hq.trans hch5
 clear m0 m1 m2 m3 n0 n1 n2 n3 g0 g1 g2 g3 t0 t1 z1 y1 z2 y2 hfV hn htV hfm hq hVl hnV
 generalize V.setCell ⟨rb,1,none⟩ (.int .i64 ((p:Int)+1))=V5 at *
 clear hch5
 have HUU:=ih (.ok () r) (by simp only[toGo];simp only[List.length_cons]at hrl;omega) V5 hst5
 unfold zar at HUU
 simp only[Rd.bind_ok]at HUU
 replace HUU:=Lib.hid HUU
 clear hst5
 go_upto_region 18 with (go_at_call 83;refine(HUU.out).mono ?_;rintro e w6 ⟨hx6,hst6,v6,y6,rfl,⟨ya,yb,yc,yd,rfl,hy⟩,hval6⟩;(obtain⟨d1,h1,d2,h2,d3,h3,rfl,rfl,rfl,rfl⟩:=zbb hy))
 obtain⟨V7,hV7e⟩:∃V7,V7=w6.alloc (.cells #[.int .i64 y6.op,.slice d1 y6.vars.length h1,.slice d2 y6.terms.length h2,.slice d3 y6.args.length h3] 29):=⟨_,rfl⟩
 have hyb:Own V7 w6.heap.size [.int .i64 y6.op,.slice d1 y6.vars.length h1,.slice d2 y6.terms.length h2,.slice d3 y6.args.length h3]:=by rw[hV7e];exact own4 w6 _ _ _ _ _
 have hf7b:Own V7 fb [.int .i64 f.op,.slice b1 f.vars.length c1,.slice b2 f.terms.length c2,.slice b3 f.args.length c3]:=by rw[hV7e];exact(hf5.chg hx6 (by simpa using hfc)).ext (zd _ _)
 have ht7:Own V7 tb [.int .i64 kd,.string tx,.int .i64 ta]:=by rw[hV7e];exact(ht5.chg hx6 (by simp;omega)).ext (zd _ _)
 have hn7:Own V7 w.heap.size [.int .i64 0,.slice none 0 0,.slice none 0 0,.slice none 0 0]:=by rw[hV7e];exact(hn5.chg hx6 (by simpa using hne)).ext (zd _ _)
 have hst7:RSt rb l V7 (zi r).st:=by rw[hV7e];exact hst6.ext (zd _ _)
 have hq7:Chg [rb] w V7:=by rw[hV7e];exact(hq5.trans hx6).alloc _
 have hf7:IsFm (fun g=>w.heap.size<g) V7 (.int .i64 f.op) (.slice b1 f.vars.length c1) (.slice b2 f.terms.length c2) (.slice b3 f.args.length c3) f:=by rw[hV7e];exact(Dat.Fs.chg hfm5 hx6 (fun g hg=>by simp;omega)).ext (zd _ _)
 have h5l:=hn5.lt
 have hy7:IsFm (fun g=>w.heap.size<g) V7 (.int .i64 y6.op) (.slice d1 y6.vars.length h1) (.slice d2 y6.terms.length h2) (.slice d3 y6.args.length h3) y6:=by rw[hV7e];exact(Dat.Fs.mono hy fun g hg _=>(show w.heap.size<g by have:V5.heap.size≤g:=hg;omega)).ext (zd _ _)
 have hV7:w.heap.size<V7.heap.size:=hn7.lt
 rw[←hV7e]
 clear hV7e hf5 hn5 ht5 hfm5 hq5 hx6 hst6 hy HUU h5l
 generalize w6.heap.size=yb at *
 obtain⟨⟨m0,-⟩,⟨m1,-⟩,⟨m2,-⟩,⟨m3,-⟩⟩:=hf7b.cells4
 obtain⟨⟨p0,-⟩,⟨p1,-⟩,⟨p2,-⟩,⟨p3,-⟩⟩:=hyb.cells4
 obtain⟨t1,-⟩:=ht7 1 _ rfl
 go_wp2_with (first
  |(go_at_call 86;refine(zc8 5 (P:=fun g=>w.heap.size<g) (l:=[.mk 7 [] [] [f,y6]]) (c:=1) hFo (by simp)).mono ?_;rintro e w9 ⟨⟨a9,c9,rfl,hc9,hf9⟩,hx9⟩;have hx9':=(zd _ (.cells #[.int .i64 7,.slice none 0 0,.slice none 0 0,.slice a8 2 c8] 29)).trans hx9;have hn9:=hn8.ext hx9';have hst9:=hst8.ext hx9';have hq9:=hq8.trans (Chg.of_ext hx9');(have hf9':IsFms (fun g=>w.heap.size<g) w9 a9 [.mk 7 [] [] [f,y6]]:=Dat.Rows.mono hf9 fun g hg _=>by simp at hg;omega);simp only[List.length_cons,List.length_nil,Nat.zero_add];simp only[List.length_cons,List.length_nil,Nat.zero_add]at hc9;(obtain⟨⟨n0,g0⟩,⟨n1,g1⟩,⟨n2,g2⟩,⟨n3,g3⟩⟩:=hn9.cells4);have hnl9:=hn9.lt)
  |(go_at_call 86;refine(zc8 7 (P:=fun g=>w.heap.size<g) (l:=[f,y6]) (c:=2) (zdb 29 hf7 hy7 hV7) (by simp)).mono ?_;rintro e w8 ⟨⟨a8,c8,rfl,hc8,hf8⟩,hx8⟩;have hx8':=(zd _ (.cells #[.int .i64 f.op,.slice b1 f.vars.length c1,.slice b2 f.terms.length c2,.slice b3 f.args.length c3,.int .i64 y6.op,.slice d1 y6.vars.length h1,.slice d2 y6.terms.length h2,.slice d3 y6.args.length h3] 29)).trans hx8;have hn8:=hn7.ext hx8';have hst8:=hst7.ext hx8';have hq8:=hq7.trans (Chg.of_ext hx8');(have hf8':IsFms (fun g=>w.heap.size<g) w8 a8 [f,y6]:=Dat.Rows.mono hf8 fun g hg _=>by simp at hg;omega);simp only[List.length_cons,List.length_nil,Nat.zero_add,Nat.reduceAdd];simp only[List.length_cons,List.length_nil,Nat.zero_add,Nat.reduceAdd]at hc8;have hnl8:=hn8.lt;have hFo:=zd8 29 (zbc (op:=7) (l:=[f,y6]) (by decide) (by decide) hc8 hf8') hnl8))
 refine zeg hq9 (Nat.le_refl _) hlt hst9 hn9 (fun W2 r0 r1 r2 r3=>by simp[results,Tryz.results41,go_sem,r0,r1,r2,r3]) rfl fun W2 k1 k2 k3=>⟨k2,?_⟩
 rw[HE.out]
 refine⟨?_,_,fNot (fOf 7 [f,y6]),rfl,⟨_,_,_,_,rfl,zbc (op:=5) (l:=[.mk 7 [] [] [f,y6]]) (by decide) (by decide) hc9 (Dat.Rows.mono (Dat.Rows.chg hf9' k3 (fun g hg=>by simp;omega)) fun g hg _=>by omega)⟩,fun x k he=>?_⟩
 ·cases hr:zi r with
  |bad k=>rw[hr]at k1;exact k1
  |ok z k=>rw[hr]at k1;exact k1
 ·cases hr:zi r with
  |bad k=>rw[hr]at he;cases he
  |ok z k=>rw[hr]at he;injection he with he;rw[←he,hval6 z k hr]
theorem zrp (hl:l.length≤1073741820){n:Nat}(ih:zbn rb l n){u:Unit}{ks:List Tok}(hkn:ks.length≤n){w:World}(h:RSt rb l w (.ok u ks)){f0:Fm}{t0:Tok}{r:List Tok}(hu:zi ks=.ok f0 (t0::r)) (h6:t0.kind=6) (htx:t0.text=zda) :
  Calls Tryz.prog 41 #[.pointer (some ⟨rb,0,none⟩)] w (zar za8 rb l w (zg zi ks)):=by
 have hl2:l.length≤1073741824:=by omega
 have hlt:=h.lt
 have hrl:=za3 hu
 have HE:=Lib.hid (show zg zi ks=(zi r).map (fun g=>(fun f g=>fNot (fOf 6 [f,g])) f0 g) by
  unfold zg;rw[hu,Rd.bind_ok,zk,if_neg (fun h=>h h6),htx,if_neg (by decide),if_neg (by decide)]
  have hb:zb8 zda=some (fun f g=>fNot (fOf 6 [f,g])):=by unfold zb8;rw[if_neg (by decide),if_neg (by decide),if_neg (by decide),if_neg (by decide),if_neg (by decide),if_pos rfl]
  rw[hb])
 obtain⟨kd,tx,ta⟩:=t0
 simp only at h6 htx
 obtain⟨W,hW⟩:∃W,W=w.alloc (.cells #[.int .i64 0,.slice none 0 0,.slice none 0 0,.slice none 0 0] 29):=⟨_,rfl⟩
 have hx:Ext w W:=by rw[hW];exact zd _ _
 have hnew:Own W w.heap.size [.int .i64 0,.slice none 0 0,.slice none 0 0,.slice none 0 0]:=by rw[hW];exact own4 w _ _ _ _ _
 have HU:=ih (.ok u ks) (by simp only[toGo];omega) W (h.ext hx)
 unfold zar at HU
 simp only[Rd.bind_ok]at HU
 rw[hu]at HU
 replace HU:=Lib.hid HU
 have hne:w.heap.size≠rb:=by omega
 have hnl:=hnew.lt
 clear h
 go_enter Tryz.func41,Tryz.ntmps41
 go_upto_region 3 with (first
  |(rw[←hW];clear hW;go_at_call 83;refine(HU.out).mono ?_;rintro e w1 ⟨hx1,hst1,v,f,rfl,⟨xa,xb,xc,xd,rfl,hf⟩,hval⟩;(obtain⟨b1,c1,b2,c2,b3,c3,rfl,rfl,rfl,rfl⟩:=zbb hf))
  |(go_at_call 84;refine(zaz hl2 (hst1.ext (zd _ _))).mono ?_;rintro e w2 ⟨⟨t,rfl,-,ht⟩,hx2⟩;simp only[Tok.vals]))
 obtain⟨V,hV⟩:∃V,V=w2.alloc (.cells #[.int .i64 t.kind,.string t.text,.int .i64 t.at'] 77):=⟨_,rfl⟩
 have hx12:Ext w1 V:=by rw[hV];exact((zd _ _).trans hx2).alloc _
 have hfV:Own V w1.heap.size [.int .i64 f.op,.slice b1 f.vars.length c1,.slice b2 f.terms.length c2,.slice b3 f.args.length c3]:=by rw[hV];exact((own4 w1 _ _ _ _ _).ext hx2).ext (zd _ _)
 have htV:Own V w2.heap.size [.int .i64 t.kind,.string t.text,.int .i64 t.at']:=by rw[hV];exact own3 w2 _ _ _ _
 have hq:Chg [rb] w V:=((Chg.of_ext hx).trans hx1).trans (Chg.of_ext hx12)
 have hst:=hst1.ext hx12
 have hn:Own V w.heap.size [.int .i64 0,.slice none 0 0,.slice none 0 0,.slice none 0 0]:=(hnew.chg hx1 (by simpa using hne)).ext hx12
 have hfm:IsFm (fun g=>w.heap.size<g) V _ _ _ _ f:=(Dat.Fs.mono hf fun g hg _=>(show w.heap.size<g by have:W.heap.size≤g:=hg;omega)).ext hx12
 have hfn:w.heap.size<w1.heap.size:=by have:=hx1.size;omega
 have hftn:w1.heap.size<w2.heap.size:=by have:=hx2.size;simp at this;omega
 rw[←hV]
 clear hV hx hx1 hx2 hx12 hnew HU hst1 hf
 generalize w1.heap.size=fb at *
 generalize w2.heap.size=tb at *
 clear w1 w2
 have hfc:fb≠rb:=by omega
 have hVl:=hst.lt
 obtain⟨⟨m0,-⟩,⟨m1,-⟩,⟨m2,-⟩,⟨m3,-⟩⟩:=hfV.cells4
 obtain⟨⟨n0,g0⟩,⟨n1,g1⟩,⟨n2,g2⟩,⟨n3,g3⟩⟩:=hn.cells4
 obtain⟨t0,-⟩:=htV 0 _ rfl
 obtain⟨t1,-⟩:=htV 1 _ rfl
 have hnV:=hn.lt
 have hval':=hval f0 (⟨kd,tx,ta⟩::r) rfl
 subst hval'
 obtain⟨a,c,p,hown,hp,hpk,hsuf,hmove,-⟩:=(show RSt rb l V (.ok () (⟨kd,tx,ta⟩::r))from hst).good
 obtain⟨z1,y1⟩:=hown 1 _ rfl
 obtain⟨z2,y2⟩:=hown 2 _ rfl
 obtain rfl:t=⟨kd,tx,ta⟩:=ht () _ rfl
 simp only at t0 t1 ⊢
 clear hown hval ht
 have q1:(kd != 6)=false:=by rw[bne_eq_false_iff_eq];exact h6
 have e0:(tx.toList==[38])=false:=by
  have:=zh (a:=tx) (b:=sAnd) (by rw[htx];decide)
  rwa [show sAnd.toList=[38] by decide +kernel]at this
 have e1:(tx.toList==[124])=false:=by
  have:=zh (a:=tx) (b:=sOr) (by rw[htx];decide)
  rwa [show sOr.toList=[124] by decide +kernel]at this
 have e2:(tx.toList==[61,62])=false:=by
  have:=zh (a:=tx) (b:=sImp) (by rw[htx];decide)
  rwa [show sImp.toList=[61,62] by decide +kernel]at this
 have e3:(tx.toList==[60,61])=false:=by
  have:=zh (a:=tx) (b:=sRev) (by rw[htx];decide)
  rwa [show sRev.toList=[60,61] by decide +kernel]at this
 have e4:(tx.toList==[60,61,62])=false:=by
  have:=zh (a:=tx) (b:=sIff) (by rw[htx];decide)
  rwa [show sIff.toList=[60,61,62] by decide +kernel]at this
 have e5:(tx.toList==[60,126,62])=false:=by
  have:=zh (a:=tx) (b:=sXor) (by rw[htx];decide)
  rwa [show sXor.toList=[60,126,62] by decide +kernel]at this
 have e6:(tx.toList==[126,124])=false:=by
  have:=zh (a:=tx) (b:=sNor) (by rw[htx];decide)
  rwa [show sNor.toList=[126,124] by decide +kernel]at this
 have e7:(tx.toList==[126,38])=true:=by subst htx;decide +kernel
 have HK:=Lib.hid (show((p:Int)+1)=((l.length-r.length:Nat):Int) by have:=hsuf.length_le;simp at this;simp at hpk;omega)
 have HR:=Lib.hid ((List.suffix_cons _ r).trans hsuf)
 have hp1:(p:Int)+1≤1073741824:=by have:=hsuf.length_le;simp at this;simp at hpk;omega
 have HM:=Lib.hid hmove
 clear h6 htx hmove hpk hsuf hst
 go_upto_region 17 with fail
 have hch5:Chg [rb] V (V.setCell ⟨rb,1,none⟩ (.int .i64 ((p:Int)+1))):=(Chg.refl [rb] V).setCell _ (.inl (by simp))
 have hst5:=HM.out V (Chg.refl _ _) _ _ HR.out HK.out
 have hf5:=hfV.chg hch5 (by simpa using hfc)
 have hn5:=hn.chg hch5 (by simpa using hne)
 have ht5:=htV.chg hch5 (by simp;omega)
 have hfm5:=Dat.Fs.chg hfm hch5 (fun g hg=>by simp;omega)
 have hq5:=hq.trans hch5
 clear m0 m1 m2 m3 n0 n1 n2 n3 g0 g1 g2 g3 t0 t1 z1 y1 z2 y2 hfV hn htV hfm hq hVl hnV
 generalize V.setCell ⟨rb,1,none⟩ (.int .i64 ((p:Int)+1))=V5 at *
 clear hch5
 have HUU:=ih (.ok () r) (by simp only[toGo];simp only[List.length_cons]at hrl;omega) V5 hst5
 unfold zar at HUU
 simp only[Rd.bind_ok]at HUU
 replace HUU:=Lib.hid HUU
 clear hst5
 go_upto_region 18 with (go_at_call 83;refine(HUU.out).mono ?_;rintro e w6 ⟨hx6,hst6,v6,y6,rfl,⟨ya,yb,yc,yd,rfl,hy⟩,hval6⟩;(obtain⟨d1,h1,d2,h2,d3,h3,rfl,rfl,rfl,rfl⟩:=zbb hy))
 obtain⟨V7,hV7e⟩:∃V7,V7=w6.alloc (.cells #[.int .i64 y6.op,.slice d1 y6.vars.length h1,.slice d2 y6.terms.length h2,.slice d3 y6.args.length h3] 29):=⟨_,rfl⟩
 have hyb:Own V7 w6.heap.size [.int .i64 y6.op,.slice d1 y6.vars.length h1,.slice d2 y6.terms.length h2,.slice d3 y6.args.length h3]:=by rw[hV7e];exact own4 w6 _ _ _ _ _
 have hf7b:Own V7 fb [.int .i64 f.op,.slice b1 f.vars.length c1,.slice b2 f.terms.length c2,.slice b3 f.args.length c3]:=by rw[hV7e];exact(hf5.chg hx6 (by simpa using hfc)).ext (zd _ _)
 have ht7:Own V7 tb [.int .i64 kd,.string tx,.int .i64 ta]:=by rw[hV7e];exact(ht5.chg hx6 (by simp;omega)).ext (zd _ _)
 have hn7:Own V7 w.heap.size [.int .i64 0,.slice none 0 0,.slice none 0 0,.slice none 0 0]:=by rw[hV7e];exact(hn5.chg hx6 (by simpa using hne)).ext (zd _ _)
 have hst7:RSt rb l V7 (zi r).st:=by rw[hV7e];exact hst6.ext (zd _ _)
 have hq7:Chg [rb] w V7:=by rw[hV7e];exact(hq5.trans hx6).alloc _
 have hf7:IsFm (fun g=>w.heap.size<g) V7 (.int .i64 f.op) (.slice b1 f.vars.length c1) (.slice b2 f.terms.length c2) (.slice b3 f.args.length c3) f:=by rw[hV7e];exact(Dat.Fs.chg hfm5 hx6 (fun g hg=>by simp;omega)).ext (zd _ _)
 have h5l:=hn5.lt
 have hy7:IsFm (fun g=>w.heap.size<g) V7 (.int .i64 y6.op) (.slice d1 y6.vars.length h1) (.slice d2 y6.terms.length h2) (.slice d3 y6.args.length h3) y6:=by rw[hV7e];exact(Dat.Fs.mono hy fun g hg _=>(show w.heap.size<g by have:V5.heap.size≤g:=hg;omega)).ext (zd _ _)
 have hV7:w.heap.size<V7.heap.size:=hn7.lt
 rw[←hV7e]
 clear hV7e hf5 hn5 ht5 hfm5 hq5 hx6 hst6 hy HUU h5l
 generalize w6.heap.size=yb at *
 obtain⟨⟨m0,-⟩,⟨m1,-⟩,⟨m2,-⟩,⟨m3,-⟩⟩:=hf7b.cells4
 obtain⟨⟨p0,-⟩,⟨p1,-⟩,⟨p2,-⟩,⟨p3,-⟩⟩:=hyb.cells4
 obtain⟨t1,-⟩:=ht7 1 _ rfl
 go_wp2_with (first
  |(go_at_call 86;refine(zc8 5 (P:=fun g=>w.heap.size<g) (l:=[.mk 6 [] [] [f,y6]]) (c:=1) hFo (by simp)).mono ?_;rintro e w9 ⟨⟨a9,c9,rfl,hc9,hf9⟩,hx9⟩;have hx9':=(zd _ (.cells #[.int .i64 6,.slice none 0 0,.slice none 0 0,.slice a8 2 c8] 29)).trans hx9;have hn9:=hn8.ext hx9';have hst9:=hst8.ext hx9';have hq9:=hq8.trans (Chg.of_ext hx9');(have hf9':IsFms (fun g=>w.heap.size<g) w9 a9 [.mk 6 [] [] [f,y6]]:=Dat.Rows.mono hf9 fun g hg _=>by simp at hg;omega);simp only[List.length_cons,List.length_nil,Nat.zero_add];simp only[List.length_cons,List.length_nil,Nat.zero_add]at hc9;(obtain⟨⟨n0,g0⟩,⟨n1,g1⟩,⟨n2,g2⟩,⟨n3,g3⟩⟩:=hn9.cells4);have hnl9:=hn9.lt)
  |(go_at_call 86;refine(zc8 6 (P:=fun g=>w.heap.size<g) (l:=[f,y6]) (c:=2) (zdb 29 hf7 hy7 hV7) (by simp)).mono ?_;rintro e w8 ⟨⟨a8,c8,rfl,hc8,hf8⟩,hx8⟩;have hx8':=(zd _ (.cells #[.int .i64 f.op,.slice b1 f.vars.length c1,.slice b2 f.terms.length c2,.slice b3 f.args.length c3,.int .i64 y6.op,.slice d1 y6.vars.length h1,.slice d2 y6.terms.length h2,.slice d3 y6.args.length h3] 29)).trans hx8;have hn8:=hn7.ext hx8';have hst8:=hst7.ext hx8';have hq8:=hq7.trans (Chg.of_ext hx8');(have hf8':IsFms (fun g=>w.heap.size<g) w8 a8 [f,y6]:=Dat.Rows.mono hf8 fun g hg _=>by simp at hg;omega);simp only[List.length_cons,List.length_nil,Nat.zero_add,Nat.reduceAdd];simp only[List.length_cons,List.length_nil,Nat.zero_add,Nat.reduceAdd]at hc8;have hnl8:=hn8.lt;have hFo:=zd8 29 (zbc (op:=6) (l:=[f,y6]) (by decide) (by decide) hc8 hf8') hnl8))
 refine zeg hq9 (Nat.le_refl _) hlt hst9 hn9 (fun W2 r0 r1 r2 r3=>by simp[results,Tryz.results41,go_sem,r0,r1,r2,r3]) rfl fun W2 k1 k2 k3=>⟨k2,?_⟩
 rw[HE.out]
 refine⟨?_,_,fNot (fOf 6 [f,y6]),rfl,⟨_,_,_,_,rfl,zbc (op:=5) (l:=[.mk 6 [] [] [f,y6]]) (by decide) (by decide) hc9 (Dat.Rows.mono (Dat.Rows.chg hf9' k3 (fun g hg=>by simp;omega)) fun g hg _=>by omega)⟩,fun x k he=>?_⟩
 ·cases hr:zi r with
  |bad k=>rw[hr]at k1;exact k1
  |ok z k=>rw[hr]at k1;exact k1
 ·cases hr:zi r with
  |bad k=>rw[hr]at he;cases he
  |ok z k=>rw[hr]at he;injection he with he;rw[←he,hval6 z k hr]
theorem zpa (hl:l.length≤1073741820){n:Nat}(ih:zbn rb l n){u:Unit}{ks:List Tok}(hkn:ks.length≤n){w:World}(h:RSt rb l w (.ok u ks)) :
  Calls Tryz.prog 41 #[.pointer (some ⟨rb,0,none⟩)] w (zar za8 rb l w (zg zi ks)):=by
 cases hu:zi ks with
 |bad r=>exact zvs hl ih hkn h hu
 |ok f r =>
  cases r with
  |nil=>exact zo9 hl ih hkn h hu (by decide)
  |cons t r =>
   by_cases h6:t.kind=6
   ·by_cases e1:t.text=sAnd
    ·exact zt5 hl ih hkn h hu h6 e1
    by_cases e2:t.text=sOr
    ·exact zvt hl ih hkn h hu h6 e2
    by_cases e3:t.text=sImp
    ·exact zt6 hl ih hkn h hu h6 e3
    by_cases e4:t.text=sRev
    ·exact zt7 hl ih hkn h hu h6 e4
    by_cases e5:t.text=sIff
    ·exact zt8 hl ih hkn h hu h6 e5
    by_cases e6:t.text=sXor
    ·exact zt9 hl ih hkn h hu h6 e6
    by_cases e7:t.text=sNor
    ·exact zua hl ih hkn h hu h6 e7
    by_cases e8:t.text=zda
    ·exact zrp hl ih hkn h hu h6 e8
    exact zro hl ih hkn h hu h6 (fun s hs=>by simp at hs;rcases hs with rfl|rfl|rfl|rfl|rfl|rfl|rfl|rfl<;>assumption)
   ·exact zo9 hl ih hkn h hu h6
end
end Go.Proofs.YtnclgkdpafhogaaGreat
