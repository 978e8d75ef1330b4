/- formula.Cursor.formula where one sign stands between two units, from what unit does. Condition: a row of at most 2^30 tokens, not empty.
formula.Cursor.formula where a sign between two units makes a negation, from what unit does. Condition: a row of at most 2^30 tokens, not empty.
formula.Cursor.atomic where no constant stands, at a dollar. Condition: a row of at most 2^30 tokens, not empty.
formula.Cursor.atomic where no constant stands. Condition: a row of at most 2^30 tokens, not empty. -/
import Derived.Test.YtnclgkdpafhogaaGreatQe8
import Derived.Deep.LoopGhost
set_option maxHeartbeats 16000000
set_option maxRecDepth 100000
namespace Go.Proofs.YtnclgkdpafhogaaGreat
open Go.ChangeShapes Go.WideShapes Go.ChangeAt Go.RowKit
theorem z0w {cb:Nat}{l:List Tok}(hl:l.length≤1073741824){n:Nat}(hU:zcj cb l n){ks:List Tok}(hkn:ks.length≤n){w:World}(h:Cur cb l w ks){f:Fm}{t:Tok}{r:List Tok}(hu:zr ks=.ok f (t::r)) (h6:t.kind=6) (hs:t.text=sImp) :
  Calls Tryz.prog 40 #[.pointer (some ⟨cb,0,none⟩)] w (zu zc7 cb l w (zh zr ks)):=by
 have HE:=Lib.hid (show zh zr ks=(zr r).map (fun g=>fOf 8 [f,g]) by
  unfold zh;rw[hu,Rd.bind_ok,zl,if_neg (by simpa using h6),if_neg (by rw[hs];decide),if_neg (by rw[hs];decide),hs];rfl)
 have hlt:=h.lt
 have hpk:zt (t::r)=t:=rfl
 obtain⟨kd,tx,ta⟩:=t
 simp only at h6 hs
 have q0:(kd != 6)=false:=by rw[bne_eq_false_iff_eq];exact h6
 have q1:(tx.toList==[38])=false:=by subst hs;decide +kernel
 have q2:(tx.toList==[124])=false:=by subst hs;decide +kernel
 have q3:(tx.toList==[61,62])=true:=by subst hs;decide +kernel
 have q4:(tx.toList==[60,61])=false:=by subst hs;decide +kernel
 have q5:(tx.toList==[60,61,62])=false:=by subst hs;decide +kernel
 have q6:(tx.toList==[60,126,62])=false:=by subst hs;decide +kernel
 have q7:(tx.toList==[126,124])=false:=by subst hs;decide +kernel
 have q8:(tx.toList==[126,38])=false:=by subst hs;decide +kernel
 clear hs h6
 obtain⟨W,hW⟩:∃W,W=w.alloc (.cells #[.int .i64 0,.slice none 0 0,.slice none 0 0,.slice none 0 0] 29):=⟨_,rfl⟩
 have hx:Ext w W:=by rw[hW];exact zb _ _
 have hnW:Own W w.heap.size [.int .i64 0,.slice none 0 0,.slice none 0 0,.slice none 0 0]:=by rw[hW];exact own4 w _ _ _ _ _
 have HU:=Lib.hid (hU ks hkn W (h.ext hx))
 have HU2:=Lib.hid hU
 unfold zu at HU
 rw[hu]at HU
 have hul:=zb4 hu
 clear hu h hU
 go_enter Tryz.func40,Tryz.ntmps40
 go_upto_region 2 with (rw[←hW];clear hW;go_at_call 79;refine(HU.out).mono ?_;rintro e w1 ⟨hx1,hc1,v,rfl,xa,xb,xc,xd,rfl,hf⟩;(have hf':=hf);(obtain⟨b1,c1,b2,c2,b3,c3,rfl,rfl,rfl,rfl,-⟩:=hf'.form);clear hf')
 have HP:=Lib.hid (fun w' (hx:Ext w1 w')=>zab hl (hc1.ext hx))
 rw[hpk]at HP
 have hq1:Chg [cb] w w1:=Chg.trans (Chg.of_ext hx) hx1
 have hnc:w.heap.size≠cb:=by omega
 have hn1:=hnW.chg hx1 (by simpa using hnc)
 have hnl:=hnW.lt
 have hnl1:=hx1.size
 go_upto_region 3 with (go_at_call 80;refine(HP.out _ (zb _ _)).mono ?_;rintro e w2 ⟨rfl,hx2⟩;simp only[Tok.vals])
 obtain⟨V,hV⟩:∃V,V=w2.alloc (.cells #[.int .i64 kd,.string tx,.int .i64 ta] 77):=⟨_,rfl⟩
 have hx12:Ext w1 V:=by rw[hV];exact((zb _ _).trans hx2).alloc _
 have hfV:Own V w1.heap.size [.int .i64 f.op,.slice b1 f.vars.length c1,.slice b2 f.terms.length c2,.slice b3 f.args.length c3]:=by rw[hV];exact((own4 w1 _ _ _ _ _).ext hx2).ext (zb _ _)
 have htV:Own V w2.heap.size [.int .i64 kd,.string tx,.int .i64 ta]:=by rw[hV];exact own3 w2 _ _ _ _
 have hqV:=hq1.trans (Chg.of_ext hx12)
 have hcV:=hc1.ext hx12
 have hnV:=hn1.ext hx12
 have hfm:IsFm (fun g=>w.heap.size<g) V _ _ _ _ f:=(Dat.Fs.mono hf fun g hg _=>(show w.heap.size<g by have:W.heap.size≤g:=hg;omega)).ext hx12
 have hfn:w.heap.size<w1.heap.size:=by omega
 have htn:w1.heap.size<w2.heap.size:=by have:=((zb w1 (.cells #[.int .i64 f.op,.slice b1 f.vars.length c1,.slice b2 f.terms.length c2,.slice b3 f.args.length c3] 29)).trans hx2).size;have:=(own4 w1 (.int .i64 f.op) (.slice b1 f.vars.length c1) (.slice b2 f.terms.length c2) (.slice b3 f.args.length c3) 29).lt;have:=hx2.size;omega
 rw[←hV]
 clear hV hx hx1 hx2 hx12 hnW HU HP hq1 hn1 hnl hnl1 hc1 hf
 generalize w1.heap.size=fb at *
 generalize w2.heap.size=tb at *
 have hfc:fb≠cb:=by omega
 have htc:tb≠cb:=by omega
 have hfne:fb≠w.heap.size:=by omega
 clear w1 w2
 obtain⟨⟨m0,-⟩,⟨m1,-⟩,⟨m2,-⟩,⟨m3,-⟩⟩:=hfV.cells4
 obtain⟨t0,-⟩:=htV 0 _ rfl
 obtain⟨t1,-⟩:=htV 1 _ rfl
 obtain⟨⟨n0,g0⟩,⟨n1,g1⟩,⟨n2,g2⟩,⟨n3,g3⟩⟩:=hnV.cells4
 have hnl:=hnV.lt
 obtain⟨hsuf,ca,cc,hown,-,-⟩:=(show Cur cb l V (⟨kd,tx,ta⟩::r)from hcV)
 obtain⟨p,hp,-,hp1,hp2,hp3⟩:=zdn hsuf
 rw[hp2]at hown
 obtain⟨z1,y1⟩:=hown 1 _ rfl
 have hsM:Chg [cb] V (V.setCell ⟨cb,1,none⟩ (.int .i64 ((p:Int)+1))):=(Chg.refl [cb] V).setCell _ (.inl (by simp))
 have hcM:=hcV.move ((List.suffix_cons _ _).trans hsuf) (z:=(p:Int)+1) (by omega)
 clear hp2 hp3 hown hsuf
 go_upto_region 22 with fail
 have hqM:=hqV.trans hsM
 have hfM:=hfV.chg hsM (by simpa using hfc)
 have htM:=htV.chg hsM (by simpa using htc)
 have hnM:=hnV.chg hsM (by simpa using hnc)
 have hfmM:IsFm (fun g=>w.heap.size<g) (V.setCell ⟨cb,1,none⟩ (.int .i64 ((p:Int)+1))) _ _ _ _ f:=Dat.Fs.chg hfm hsM (fun g hg=>by simp;omega)
 clear hqV hfV htV hnV hfm hsM hcV m0 m1 m2 m3 t0 t1 n0 n1 n2 n3 g0 g1 g2 g3 hnl z1 y1
 generalize V.setCell ⟨cb,1,none⟩ (.int .i64 ((p:Int)+1))=U at *
 have HUU:=Lib.hid (HU2.out r (by simp only[List.length_cons]at hul;omega) U hcM)
 unfold zu at HUU
 clear HU2
 cases hk:zr r with
 |bad r2 =>
  rw[hk]at HUU HE
  clear hk
  go_wp2_with (go_at_call 79;refine(HUU.out).mono ?_;rintro e w3 ⟨hx3,rfl⟩)
  exact⟨rfl,hqM.trans hx3,(by rw[HE.out];rfl)⟩
 |ok g r2 =>
 rw[hk]at HUU HE
 clear hk
 go_upto_region 23 with (go_at_call 79;refine(HUU.out).mono ?_;rintro e w3 ⟨hx3,hc3,v,rfl,xa,xb,xc,xd,rfl,hg⟩;(have hg':=hg);(obtain⟨d1,e1,d2,e2,d3,e3,rfl,rfl,rfl,rfl,-⟩:=hg'.form);clear hg')
 obtain⟨Y,hY⟩:∃Y,Y=w3.alloc (.cells #[.int .i64 g.op,.slice d1 g.vars.length e1,.slice d2 g.terms.length e2,.slice d3 g.args.length e3] 29):=⟨_,rfl⟩
 have hxY:Ext w3 Y:=by rw[hY];exact zb _ _
 have hgY:Own Y w3.heap.size [.int .i64 g.op,.slice d1 g.vars.length e1,.slice d2 g.terms.length e2,.slice d3 g.args.length e3]:=by rw[hY];exact own4 w3 _ _ _ _ _
 have hfY:=(hfM.chg hx3 (by simpa using hfc)).ext hxY
 have htY:=(htM.chg hx3 (by simpa using htc)).ext hxY
 have hnY:=(hnM.chg hx3 (by simpa using hnc)).ext hxY
 have hqY:=(hqM.trans hx3).trans (Chg.of_ext hxY)
 have hcY:=hc3.ext hxY
 have hnU:=hnM.lt
 have hF:=(Dat.Fs.chg hfmM hx3 (fun g hg=>by simp;omega)).ext hxY
 have hG:=Dat.Fs.ext (Dat.Fs.mono hg (Q:=fun g=>w.heap.size<g) fun g hg _=>(by omega)) hxY
 rw[←hY]
 clear hY hxY hx3 hc3 hg hfM htM hnM hqM hcM hfmM HUU
 generalize w3.heap.size=gb at *
 obtain⟨⟨m0,-⟩,⟨m1,-⟩,⟨m2,-⟩,⟨m3,-⟩⟩:=hfY.cells4
 obtain⟨⟨s0,-⟩,⟨s1,-⟩,⟨s2,-⟩,⟨s3,-⟩⟩:=hgY.cells4
 obtain⟨t1,-⟩:=htY 1 _ rfl
 have HO:=Lib.hid (fun op a n c w=>zen op a n c w)
 go_wp2_with (go_at_call 82;refine(HO.out _ _ _ _ _).mono ?_;rintro e w4 ⟨rfl,hx4'⟩;have hx4:=(zb _ _).trans hx4';(obtain⟨⟨n0,g0⟩,⟨n1,g1⟩,⟨n2,g2⟩,⟨n3,g3⟩⟩:=(hnY.ext hx4).cells4);have hnl:=(hnY.ext hx4).lt)
 refine za4 (hqY.trans (Chg.of_ext hx4)) hlt (hcY.ext hx4) (hnY.ext hx4) (fun W2 r0 r1 r2 r3=>by simp[results,Tryz.results40,go_sem,r0,r1,r2,r3]) rfl fun W2 k1 k2 k3=>⟨k2,?_⟩
 rw[HE.out]
 refine⟨k1,_,rfl,_,_,_,_,rfl,?_⟩
 have h1:=zcv (op:=8) (l:=[f,g]) (c:=2) (by decide) (by decide) (Nat.le_refl _) (IsFms.ext (zi6 29 hF hG (show w.heap.size<Y.heap.size from hnY.lt)) hx4')
 exact Dat.Fs.mono (Dat.Fs.chg h1 k3 (fun g hg=>by simp;omega)) fun g hg _=>(show w.heap.size≤g by omega)
theorem z0x {cb:Nat}{l:List Tok}(hl:l.length≤1073741824){n:Nat}(hU:zcj cb l n){ks:List Tok}(hkn:ks.length≤n){w:World}(h:Cur cb l w ks){f:Fm}{t:Tok}{r:List Tok}(hu:zr ks=.ok f (t::r)) (h6:t.kind=6) (hs:t.text=sRev) :
  Calls Tryz.prog 40 #[.pointer (some ⟨cb,0,none⟩)] w (zu zc7 cb l w (zh zr ks)):=by
 have HE:=Lib.hid (show zh zr ks=(zr r).map (fun g=>fOf 8 [g,f]) by
  unfold zh;rw[hu,Rd.bind_ok,zl,if_neg (by simpa using h6),if_neg (by rw[hs];decide),if_neg (by rw[hs];decide),hs];rfl)
 have hlt:=h.lt
 have hpk:zt (t::r)=t:=rfl
 obtain⟨kd,tx,ta⟩:=t
 simp only at h6 hs
 have q0:(kd != 6)=false:=by rw[bne_eq_false_iff_eq];exact h6
 have q1:(tx.toList==[38])=false:=by subst hs;decide +kernel
 have q2:(tx.toList==[124])=false:=by subst hs;decide +kernel
 have q3:(tx.toList==[61,62])=false:=by subst hs;decide +kernel
 have q4:(tx.toList==[60,61])=true:=by subst hs;decide +kernel
 have q5:(tx.toList==[60,61,62])=false:=by subst hs;decide +kernel
 have q6:(tx.toList==[60,126,62])=false:=by subst hs;decide +kernel
 have q7:(tx.toList==[126,124])=false:=by subst hs;decide +kernel
 have q8:(tx.toList==[126,38])=false:=by subst hs;decide +kernel
 clear hs h6
 obtain⟨W,hW⟩:∃W,W=w.alloc (.cells #[.int .i64 0,.slice none 0 0,.slice none 0 0,.slice none 0 0] 29):=⟨_,rfl⟩
 have hx:Ext w W:=by rw[hW];exact zb _ _
 have hnW:Own W w.heap.size [.int .i64 0,.slice none 0 0,.slice none 0 0,.slice none 0 0]:=by rw[hW];exact own4 w _ _ _ _ _
 have HU:=Lib.hid (hU ks hkn W (h.ext hx))
 have HU2:=Lib.hid hU
 unfold zu at HU
 rw[hu]at HU
 have hul:=zb4 hu
 clear hu h hU
 go_enter Tryz.func40,Tryz.ntmps40
 go_upto_region 2 with (rw[←hW];clear hW;go_at_call 79;refine(HU.out).mono ?_;rintro e w1 ⟨hx1,hc1,v,rfl,xa,xb,xc,xd,rfl,hf⟩;(have hf':=hf);(obtain⟨b1,c1,b2,c2,b3,c3,rfl,rfl,rfl,rfl,-⟩:=hf'.form);clear hf')
 have HP:=Lib.hid (fun w' (hx:Ext w1 w')=>zab hl (hc1.ext hx))
 rw[hpk]at HP
 have hq1:Chg [cb] w w1:=Chg.trans (Chg.of_ext hx) hx1
 have hnc:w.heap.size≠cb:=by omega
 have hn1:=hnW.chg hx1 (by simpa using hnc)
 have hnl:=hnW.lt
 have hnl1:=hx1.size
 go_upto_region 3 with (go_at_call 80;refine(HP.out _ (zb _ _)).mono ?_;rintro e w2 ⟨rfl,hx2⟩;simp only[Tok.vals])
 obtain⟨V,hV⟩:∃V,V=w2.alloc (.cells #[.int .i64 kd,.string tx,.int .i64 ta] 77):=⟨_,rfl⟩
 have hx12:Ext w1 V:=by rw[hV];exact((zb _ _).trans hx2).alloc _
 have hfV:Own V w1.heap.size [.int .i64 f.op,.slice b1 f.vars.length c1,.slice b2 f.terms.length c2,.slice b3 f.args.length c3]:=by rw[hV];exact((own4 w1 _ _ _ _ _).ext hx2).ext (zb _ _)
 have htV:Own V w2.heap.size [.int .i64 kd,.string tx,.int .i64 ta]:=by rw[hV];exact own3 w2 _ _ _ _
 have hqV:=hq1.trans (Chg.of_ext hx12)
 have hcV:=hc1.ext hx12
 have hnV:=hn1.ext hx12
 have hfm:IsFm (fun g=>w.heap.size<g) V _ _ _ _ f:=(Dat.Fs.mono hf fun g hg _=>(show w.heap.size<g by have:W.heap.size≤g:=hg;omega)).ext hx12
 have hfn:w.heap.size<w1.heap.size:=by omega
 have htn:w1.heap.size<w2.heap.size:=by have:=((zb w1 (.cells #[.int .i64 f.op,.slice b1 f.vars.length c1,.slice b2 f.terms.length c2,.slice b3 f.args.length c3] 29)).trans hx2).size;have:=(own4 w1 (.int .i64 f.op) (.slice b1 f.vars.length c1) (.slice b2 f.terms.length c2) (.slice b3 f.args.length c3) 29).lt;have:=hx2.size;omega
 rw[←hV]
 clear hV hx hx1 hx2 hx12 hnW HU HP hq1 hn1 hnl hnl1 hc1 hf
 generalize w1.heap.size=fb at *
 generalize w2.heap.size=tb at *
 have hfc:fb≠cb:=by omega
 have htc:tb≠cb:=by omega
 have hfne:fb≠w.heap.size:=by omega
 clear w1 w2
 obtain⟨⟨m0,-⟩,⟨m1,-⟩,⟨m2,-⟩,⟨m3,-⟩⟩:=hfV.cells4
 obtain⟨t0,-⟩:=htV 0 _ rfl
 obtain⟨t1,-⟩:=htV 1 _ rfl
 obtain⟨⟨n0,g0⟩,⟨n1,g1⟩,⟨n2,g2⟩,⟨n3,g3⟩⟩:=hnV.cells4
 have hnl:=hnV.lt
 obtain⟨hsuf,ca,cc,hown,-,-⟩:=(show Cur cb l V (⟨kd,tx,ta⟩::r)from hcV)
 obtain⟨p,hp,-,hp1,hp2,hp3⟩:=zdn hsuf
 rw[hp2]at hown
 obtain⟨z1,y1⟩:=hown 1 _ rfl
 have hsM:Chg [cb] V (V.setCell ⟨cb,1,none⟩ (.int .i64 ((p:Int)+1))):=(Chg.refl [cb] V).setCell _ (.inl (by simp))
 have hcM:=hcV.move ((List.suffix_cons _ _).trans hsuf) (z:=(p:Int)+1) (by omega)
 clear hp2 hp3 hown hsuf
 go_upto_region 22 with fail
 have hqM:=hqV.trans hsM
 have hfM:=hfV.chg hsM (by simpa using hfc)
 have htM:=htV.chg hsM (by simpa using htc)
 have hnM:=hnV.chg hsM (by simpa using hnc)
 have hfmM:IsFm (fun g=>w.heap.size<g) (V.setCell ⟨cb,1,none⟩ (.int .i64 ((p:Int)+1))) _ _ _ _ f:=Dat.Fs.chg hfm hsM (fun g hg=>by simp;omega)
 clear hqV hfV htV hnV hfm hsM hcV m0 m1 m2 m3 t0 t1 n0 n1 n2 n3 g0 g1 g2 g3 hnl z1 y1
 generalize V.setCell ⟨cb,1,none⟩ (.int .i64 ((p:Int)+1))=U at *
 have HUU:=Lib.hid (HU2.out r (by simp only[List.length_cons]at hul;omega) U hcM)
 unfold zu at HUU
 clear HU2
 cases hk:zr r with
 |bad r2 =>
  rw[hk]at HUU HE
  clear hk
  go_wp2_with (go_at_call 79;refine(HUU.out).mono ?_;rintro e w3 ⟨hx3,rfl⟩)
  exact⟨rfl,hqM.trans hx3,(by rw[HE.out];rfl)⟩
 |ok g r2 =>
 rw[hk]at HUU HE
 clear hk
 go_upto_region 23 with (go_at_call 79;refine(HUU.out).mono ?_;rintro e w3 ⟨hx3,hc3,v,rfl,xa,xb,xc,xd,rfl,hg⟩;(have hg':=hg);(obtain⟨d1,e1,d2,e2,d3,e3,rfl,rfl,rfl,rfl,-⟩:=hg'.form);clear hg')
 obtain⟨Y,hY⟩:∃Y,Y=w3.alloc (.cells #[.int .i64 g.op,.slice d1 g.vars.length e1,.slice d2 g.terms.length e2,.slice d3 g.args.length e3] 29):=⟨_,rfl⟩
 have hxY:Ext w3 Y:=by rw[hY];exact zb _ _
 have hgY:Own Y w3.heap.size [.int .i64 g.op,.slice d1 g.vars.length e1,.slice d2 g.terms.length e2,.slice d3 g.args.length e3]:=by rw[hY];exact own4 w3 _ _ _ _ _
 have hfY:=(hfM.chg hx3 (by simpa using hfc)).ext hxY
 have htY:=(htM.chg hx3 (by simpa using htc)).ext hxY
 have hnY:=(hnM.chg hx3 (by simpa using hnc)).ext hxY
 have hqY:=(hqM.trans hx3).trans (Chg.of_ext hxY)
 have hcY:=hc3.ext hxY
 have hnU:=hnM.lt
 have hF:=(Dat.Fs.chg hfmM hx3 (fun g hg=>by simp;omega)).ext hxY
 have hG:=Dat.Fs.ext (Dat.Fs.mono hg (Q:=fun g=>w.heap.size<g) fun g hg _=>(by omega)) hxY
 rw[←hY]
 clear hY hxY hx3 hc3 hg hfM htM hnM hqM hcM hfmM HUU
 generalize w3.heap.size=gb at *
 obtain⟨⟨m0,-⟩,⟨m1,-⟩,⟨m2,-⟩,⟨m3,-⟩⟩:=hfY.cells4
 obtain⟨⟨s0,-⟩,⟨s1,-⟩,⟨s2,-⟩,⟨s3,-⟩⟩:=hgY.cells4
 obtain⟨t1,-⟩:=htY 1 _ rfl
 have HO:=Lib.hid (fun op a n c w=>zen op a n c w)
 go_wp2_with (go_at_call 82;refine(HO.out _ _ _ _ _).mono ?_;rintro e w4 ⟨rfl,hx4'⟩;have hx4:=(zb _ _).trans hx4';(obtain⟨⟨n0,g0⟩,⟨n1,g1⟩,⟨n2,g2⟩,⟨n3,g3⟩⟩:=(hnY.ext hx4).cells4);have hnl:=(hnY.ext hx4).lt)
 refine za4 (hqY.trans (Chg.of_ext hx4)) hlt (hcY.ext hx4) (hnY.ext hx4) (fun W2 r0 r1 r2 r3=>by simp[results,Tryz.results40,go_sem,r0,r1,r2,r3]) rfl fun W2 k1 k2 k3=>⟨k2,?_⟩
 rw[HE.out]
 refine⟨k1,_,rfl,_,_,_,_,rfl,?_⟩
 have h1:=zcv (op:=8) (l:=[g,f]) (c:=2) (by decide) (by decide) (Nat.le_refl _) (IsFms.ext (zi6 29 hG hF (show w.heap.size<Y.heap.size from hnY.lt)) hx4')
 exact Dat.Fs.mono (Dat.Fs.chg h1 k3 (fun g hg=>by simp;omega)) fun g hg _=>(show w.heap.size≤g by omega)
theorem z0y {cb:Nat}{l:List Tok}(hl:l.length≤1073741824){n:Nat}(hU:zcj cb l n){ks:List Tok}(hkn:ks.length≤n){w:World}(h:Cur cb l w ks){f:Fm}{t:Tok}{r:List Tok}(hu:zr ks=.ok f (t::r)) (h6:t.kind=6) (hs:t.text=sIff) :
  Calls Tryz.prog 40 #[.pointer (some ⟨cb,0,none⟩)] w (zu zc7 cb l w (zh zr ks)):=by
 have HE:=Lib.hid (show zh zr ks=(zr r).map (fun g=>fOf 9 [f,g]) by
  unfold zh;rw[hu,Rd.bind_ok,zl,if_neg (by simpa using h6),if_neg (by rw[hs];decide),if_neg (by rw[hs];decide),hs];rfl)
 have hlt:=h.lt
 have hpk:zt (t::r)=t:=rfl
 obtain⟨kd,tx,ta⟩:=t
 simp only at h6 hs
 have q0:(kd != 6)=false:=by rw[bne_eq_false_iff_eq];exact h6
 have q1:(tx.toList==[38])=false:=by subst hs;decide +kernel
 have q2:(tx.toList==[124])=false:=by subst hs;decide +kernel
 have q3:(tx.toList==[61,62])=false:=by subst hs;decide +kernel
 have q4:(tx.toList==[60,61])=false:=by subst hs;decide +kernel
 have q5:(tx.toList==[60,61,62])=true:=by subst hs;decide +kernel
 have q6:(tx.toList==[60,126,62])=false:=by subst hs;decide +kernel
 have q7:(tx.toList==[126,124])=false:=by subst hs;decide +kernel
 have q8:(tx.toList==[126,38])=false:=by subst hs;decide +kernel
 clear hs h6
 obtain⟨W,hW⟩:∃W,W=w.alloc (.cells #[.int .i64 0,.slice none 0 0,.slice none 0 0,.slice none 0 0] 29):=⟨_,rfl⟩
 have hx:Ext w W:=by rw[hW];exact zb _ _
 have hnW:Own W w.heap.size [.int .i64 0,.slice none 0 0,.slice none 0 0,.slice none 0 0]:=by rw[hW];exact own4 w _ _ _ _ _
 have HU:=Lib.hid (hU ks hkn W (h.ext hx))
 have HU2:=Lib.hid hU
 unfold zu at HU
 rw[hu]at HU
 have hul:=zb4 hu
 clear hu h hU
 go_enter Tryz.func40,Tryz.ntmps40
 go_upto_region 2 with (rw[←hW];clear hW;go_at_call 79;refine(HU.out).mono ?_;rintro e w1 ⟨hx1,hc1,v,rfl,xa,xb,xc,xd,rfl,hf⟩;(have hf':=hf);(obtain⟨b1,c1,b2,c2,b3,c3,rfl,rfl,rfl,rfl,-⟩:=hf'.form);clear hf')
 have HP:=Lib.hid (fun w' (hx:Ext w1 w')=>zab hl (hc1.ext hx))
 rw[hpk]at HP
 have hq1:Chg [cb] w w1:=Chg.trans (Chg.of_ext hx) hx1
 have hnc:w.heap.size≠cb:=by omega
 have hn1:=hnW.chg hx1 (by simpa using hnc)
 have hnl:=hnW.lt
 have hnl1:=hx1.size
 go_upto_region 3 with (go_at_call 80;refine(HP.out _ (zb _ _)).mono ?_;rintro e w2 ⟨rfl,hx2⟩;simp only[Tok.vals])
 obtain⟨V,hV⟩:∃V,V=w2.alloc (.cells #[.int .i64 kd,.string tx,.int .i64 ta] 77):=⟨_,rfl⟩
 have hx12:Ext w1 V:=by rw[hV];exact((zb _ _).trans hx2).alloc _
 have hfV:Own V w1.heap.size [.int .i64 f.op,.slice b1 f.vars.length c1,.slice b2 f.terms.length c2,.slice b3 f.args.length c3]:=by rw[hV];exact((own4 w1 _ _ _ _ _).ext hx2).ext (zb _ _)
 have htV:Own V w2.heap.size [.int .i64 kd,.string tx,.int .i64 ta]:=by rw[hV];exact own3 w2 _ _ _ _
 have hqV:=hq1.trans (Chg.of_ext hx12)
 have hcV:=hc1.ext hx12
 have hnV:=hn1.ext hx12
 have hfm:IsFm (fun g=>w.heap.size<g) V _ _ _ _ f:=(Dat.Fs.mono hf fun g hg _=>(show w.heap.size<g by have:W.heap.size≤g:=hg;omega)).ext hx12
 have hfn:w.heap.size<w1.heap.size:=by omega
 have htn:w1.heap.size<w2.heap.size:=by have:=((zb w1 (.cells #[.int .i64 f.op,.slice b1 f.vars.length c1,.slice b2 f.terms.length c2,.slice b3 f.args.length c3] 29)).trans hx2).size;have:=(own4 w1 (.int .i64 f.op) (.slice b1 f.vars.length c1) (.slice b2 f.terms.length c2) (.slice b3 f.args.length c3) 29).lt;have:=hx2.size;omega
 rw[←hV]
 clear hV hx hx1 hx2 hx12 hnW HU HP hq1 hn1 hnl hnl1 hc1 hf
 generalize w1.heap.size=fb at *
 generalize w2.heap.size=tb at *
 have hfc:fb≠cb:=by omega
 have htc:tb≠cb:=by omega
 have hfne:fb≠w.heap.size:=by omega
 clear w1 w2
 obtain⟨⟨m0,-⟩,⟨m1,-⟩,⟨m2,-⟩,⟨m3,-⟩⟩:=hfV.cells4
 obtain⟨t0,-⟩:=htV 0 _ rfl
 obtain⟨t1,-⟩:=htV 1 _ rfl
 obtain⟨⟨n0,g0⟩,⟨n1,g1⟩,⟨n2,g2⟩,⟨n3,g3⟩⟩:=hnV.cells4
 have hnl:=hnV.lt
 obtain⟨hsuf,ca,cc,hown,-,-⟩:=(show Cur cb l V (⟨kd,tx,ta⟩::r)from hcV)
 obtain⟨p,hp,-,hp1,hp2,hp3⟩:=zdn hsuf
 rw[hp2]at hown
 obtain⟨z1,y1⟩:=hown 1 _ rfl
 have hsM:Chg [cb] V (V.setCell ⟨cb,1,none⟩ (.int .i64 ((p:Int)+1))):=(Chg.refl [cb] V).setCell _ (.inl (by simp))
 have hcM:=hcV.move ((List.suffix_cons _ _).trans hsuf) (z:=(p:Int)+1) (by omega)
 clear hp2 hp3 hown hsuf
 go_upto_region 22 with fail
 have hqM:=hqV.trans hsM
 have hfM:=hfV.chg hsM (by simpa using hfc)
 have htM:=htV.chg hsM (by simpa using htc)
 have hnM:=hnV.chg hsM (by simpa using hnc)
 have hfmM:IsFm (fun g=>w.heap.size<g) (V.setCell ⟨cb,1,none⟩ (.int .i64 ((p:Int)+1))) _ _ _ _ f:=Dat.Fs.chg hfm hsM (fun g hg=>by simp;omega)
 clear hqV hfV htV hnV hfm hsM hcV m0 m1 m2 m3 t0 t1 n0 n1 n2 n3 g0 g1 g2 g3 hnl z1 y1
 generalize V.setCell ⟨cb,1,none⟩ (.int .i64 ((p:Int)+1))=U at *
 have HUU:=Lib.hid (HU2.out r (by simp only[List.length_cons]at hul;omega) U hcM)
 unfold zu at HUU
 clear HU2
 cases hk:zr r with
 |bad r2 =>
  rw[hk]at HUU HE
  clear hk
  go_wp2_with (go_at_call 79;refine(HUU.out).mono ?_;rintro e w3 ⟨hx3,rfl⟩)
  exact⟨rfl,hqM.trans hx3,(by rw[HE.out];rfl)⟩
 |ok g r2 =>
 rw[hk]at HUU HE
 clear hk
 go_upto_region 23 with (go_at_call 79;refine(HUU.out).mono ?_;rintro e w3 ⟨hx3,hc3,v,rfl,xa,xb,xc,xd,rfl,hg⟩;(have hg':=hg);(obtain⟨d1,e1,d2,e2,d3,e3,rfl,rfl,rfl,rfl,-⟩:=hg'.form);clear hg')
 obtain⟨Y,hY⟩:∃Y,Y=w3.alloc (.cells #[.int .i64 g.op,.slice d1 g.vars.length e1,.slice d2 g.terms.length e2,.slice d3 g.args.length e3] 29):=⟨_,rfl⟩
 have hxY:Ext w3 Y:=by rw[hY];exact zb _ _
 have hgY:Own Y w3.heap.size [.int .i64 g.op,.slice d1 g.vars.length e1,.slice d2 g.terms.length e2,.slice d3 g.args.length e3]:=by rw[hY];exact own4 w3 _ _ _ _ _
 have hfY:=(hfM.chg hx3 (by simpa using hfc)).ext hxY
 have htY:=(htM.chg hx3 (by simpa using htc)).ext hxY
 have hnY:=(hnM.chg hx3 (by simpa using hnc)).ext hxY
 have hqY:=(hqM.trans hx3).trans (Chg.of_ext hxY)
 have hcY:=hc3.ext hxY
 have hnU:=hnM.lt
 have hF:=(Dat.Fs.chg hfmM hx3 (fun g hg=>by simp;omega)).ext hxY
 have hG:=Dat.Fs.ext (Dat.Fs.mono hg (Q:=fun g=>w.heap.size<g) fun g hg _=>(by omega)) hxY
 rw[←hY]
 clear hY hxY hx3 hc3 hg hfM htM hnM hqM hcM hfmM HUU
 generalize w3.heap.size=gb at *
 obtain⟨⟨m0,-⟩,⟨m1,-⟩,⟨m2,-⟩,⟨m3,-⟩⟩:=hfY.cells4
 obtain⟨⟨s0,-⟩,⟨s1,-⟩,⟨s2,-⟩,⟨s3,-⟩⟩:=hgY.cells4
 obtain⟨t1,-⟩:=htY 1 _ rfl
 have HO:=Lib.hid (fun op a n c w=>zen op a n c w)
 go_wp2_with (go_at_call 82;refine(HO.out _ _ _ _ _).mono ?_;rintro e w4 ⟨rfl,hx4'⟩;have hx4:=(zb _ _).trans hx4';(obtain⟨⟨n0,g0⟩,⟨n1,g1⟩,⟨n2,g2⟩,⟨n3,g3⟩⟩:=(hnY.ext hx4).cells4);have hnl:=(hnY.ext hx4).lt)
 refine za4 (hqY.trans (Chg.of_ext hx4)) hlt (hcY.ext hx4) (hnY.ext hx4) (fun W2 r0 r1 r2 r3=>by simp[results,Tryz.results40,go_sem,r0,r1,r2,r3]) rfl fun W2 k1 k2 k3=>⟨k2,?_⟩
 rw[HE.out]
 refine⟨k1,_,rfl,_,_,_,_,rfl,?_⟩
 have h1:=zcv (op:=9) (l:=[f,g]) (c:=2) (by decide) (by decide) (Nat.le_refl _) (IsFms.ext (zi6 29 hF hG (show w.heap.size<Y.heap.size from hnY.lt)) hx4')
 exact Dat.Fs.mono (Dat.Fs.chg h1 k3 (fun g hg=>by simp;omega)) fun g hg _=>(show w.heap.size≤g by omega)
theorem z0z {cb:Nat}{l:List Tok}(hl:l.length≤1073741824){n:Nat}(hU:zcj cb l n){ks:List Tok}(hkn:ks.length≤n){w:World}(h:Cur cb l w ks){f:Fm}{t:Tok}{r:List Tok}(hu:zr ks=.ok f (t::r)) (h6:t.kind=6) (hs:t.text=sXor) :
  Calls Tryz.prog 40 #[.pointer (some ⟨cb,0,none⟩)] w (zu zc7 cb l w (zh zr ks)):=by
 have HE:=Lib.hid (show zh zr ks=(zr r).map (fun g=>fOf 10 [f,g]) by
  unfold zh;rw[hu,Rd.bind_ok,zl,if_neg (by simpa using h6),if_neg (by rw[hs];decide),if_neg (by rw[hs];decide),hs];rfl)
 have hlt:=h.lt
 have hpk:zt (t::r)=t:=rfl
 obtain⟨kd,tx,ta⟩:=t
 simp only at h6 hs
 have q0:(kd != 6)=false:=by rw[bne_eq_false_iff_eq];exact h6
 have q1:(tx.toList==[38])=false:=by subst hs;decide +kernel
 have q2:(tx.toList==[124])=false:=by subst hs;decide +kernel
 have q3:(tx.toList==[61,62])=false:=by subst hs;decide +kernel
 have q4:(tx.toList==[60,61])=false:=by subst hs;decide +kernel
 have q5:(tx.toList==[60,61,62])=false:=by subst hs;decide +kernel
 have q6:(tx.toList==[60,126,62])=true:=by subst hs;decide +kernel
 have q7:(tx.toList==[126,124])=false:=by subst hs;decide +kernel
 have q8:(tx.toList==[126,38])=false:=by subst hs;decide +kernel
 clear hs h6
 obtain⟨W,hW⟩:∃W,W=w.alloc (.cells #[.int .i64 0,.slice none 0 0,.slice none 0 0,.slice none 0 0] 29):=⟨_,rfl⟩
 have hx:Ext w W:=by rw[hW];exact zb _ _
 have hnW:Own W w.heap.size [.int .i64 0,.slice none 0 0,.slice none 0 0,.slice none 0 0]:=by rw[hW];exact own4 w _ _ _ _ _
 have HU:=Lib.hid (hU ks hkn W (h.ext hx))
 have HU2:=Lib.hid hU
 unfold zu at HU
 rw[hu]at HU
 have hul:=zb4 hu
 clear hu h hU
 go_enter Tryz.func40,Tryz.ntmps40
 go_upto_region 2 with (rw[←hW];clear hW;go_at_call 79;refine(HU.out).mono ?_;rintro e w1 ⟨hx1,hc1,v,rfl,xa,xb,xc,xd,rfl,hf⟩;(have hf':=hf);(obtain⟨b1,c1,b2,c2,b3,c3,rfl,rfl,rfl,rfl,-⟩:=hf'.form);clear hf')
 have HP:=Lib.hid (fun w' (hx:Ext w1 w')=>zab hl (hc1.ext hx))
 rw[hpk]at HP
 have hq1:Chg [cb] w w1:=Chg.trans (Chg.of_ext hx) hx1
 have hnc:w.heap.size≠cb:=by omega
 have hn1:=hnW.chg hx1 (by simpa using hnc)
 have hnl:=hnW.lt
 have hnl1:=hx1.size
 go_upto_region 3 with (go_at_call 80;refine(HP.out _ (zb _ _)).mono ?_;rintro e w2 ⟨rfl,hx2⟩;simp only[Tok.vals])
 obtain⟨V,hV⟩:∃V,V=w2.alloc (.cells #[.int .i64 kd,.string tx,.int .i64 ta] 77):=⟨_,rfl⟩
 have hx12:Ext w1 V:=by rw[hV];exact((zb _ _).trans hx2).alloc _
 have hfV:Own V w1.heap.size [.int .i64 f.op,.slice b1 f.vars.length c1,.slice b2 f.terms.length c2,.slice b3 f.args.length c3]:=by rw[hV];exact((own4 w1 _ _ _ _ _).ext hx2).ext (zb _ _)
 have htV:Own V w2.heap.size [.int .i64 kd,.string tx,.int .i64 ta]:=by rw[hV];exact own3 w2 _ _ _ _
 have hqV:=hq1.trans (Chg.of_ext hx12)
 have hcV:=hc1.ext hx12
 have hnV:=hn1.ext hx12
 have hfm:IsFm (fun g=>w.heap.size<g) V _ _ _ _ f:=(Dat.Fs.mono hf fun g hg _=>(show w.heap.size<g by have:W.heap.size≤g:=hg;omega)).ext hx12
 have hfn:w.heap.size<w1.heap.size:=by omega
 have htn:w1.heap.size<w2.heap.size:=by have:=((zb w1 (.cells #[.int .i64 f.op,.slice b1 f.vars.length c1,.slice b2 f.terms.length c2,.slice b3 f.args.length c3] 29)).trans hx2).size;have:=(own4 w1 (.int .i64 f.op) (.slice b1 f.vars.length c1) (.slice b2 f.terms.length c2) (.slice b3 f.args.length c3) 29).lt;have:=hx2.size;omega
 rw[←hV]
 clear hV hx hx1 hx2 hx12 hnW HU HP hq1 hn1 hnl hnl1 hc1 hf
 generalize w1.heap.size=fb at *
 generalize w2.heap.size=tb at *
 have hfc:fb≠cb:=by omega
 have htc:tb≠cb:=by omega
 have hfne:fb≠w.heap.size:=by omega
 clear w1 w2
 obtain⟨⟨m0,-⟩,⟨m1,-⟩,⟨m2,-⟩,⟨m3,-⟩⟩:=hfV.cells4
 obtain⟨t0,-⟩:=htV 0 _ rfl
 obtain⟨t1,-⟩:=htV 1 _ rfl
 obtain⟨⟨n0,g0⟩,⟨n1,g1⟩,⟨n2,g2⟩,⟨n3,g3⟩⟩:=hnV.cells4
 have hnl:=hnV.lt
 obtain⟨hsuf,ca,cc,hown,-,-⟩:=(show Cur cb l V (⟨kd,tx,ta⟩::r)from hcV)
 obtain⟨p,hp,-,hp1,hp2,hp3⟩:=zdn hsuf
 rw[hp2]at hown
 obtain⟨z1,y1⟩:=hown 1 _ rfl
 have hsM:Chg [cb] V (V.setCell ⟨cb,1,none⟩ (.int .i64 ((p:Int)+1))):=(Chg.refl [cb] V).setCell _ (.inl (by simp))
 have hcM:=hcV.move ((List.suffix_cons _ _).trans hsuf) (z:=(p:Int)+1) (by omega)
 clear hp2 hp3 hown hsuf
 go_upto_region 22 with fail
 have hqM:=hqV.trans hsM
 have hfM:=hfV.chg hsM (by simpa using hfc)
 have htM:=htV.chg hsM (by simpa using htc)
 have hnM:=hnV.chg hsM (by simpa using hnc)
 have hfmM:IsFm (fun g=>w.heap.size<g) (V.setCell ⟨cb,1,none⟩ (.int .i64 ((p:Int)+1))) _ _ _ _ f:=Dat.Fs.chg hfm hsM (fun g hg=>by simp;omega)
 clear hqV hfV htV hnV hfm hsM hcV m0 m1 m2 m3 t0 t1 n0 n1 n2 n3 g0 g1 g2 g3 hnl z1 y1
 generalize V.setCell ⟨cb,1,none⟩ (.int .i64 ((p:Int)+1))=U at *
 have HUU:=Lib.hid (HU2.out r (by simp only[List.length_cons]at hul;omega) U hcM)
 unfold zu at HUU
 clear HU2
 cases hk:zr r with
 |bad r2 =>
  rw[hk]at HUU HE
  clear hk
  go_wp2_with (go_at_call 79;refine(HUU.out).mono ?_;rintro e w3 ⟨hx3,rfl⟩)
  exact⟨rfl,hqM.trans hx3,(by rw[HE.out];rfl)⟩
 |ok g r2 =>
 rw[hk]at HUU HE
 clear hk
 go_upto_region 23 with (go_at_call 79;refine(HUU.out).mono ?_;rintro e w3 ⟨hx3,hc3,v,rfl,xa,xb,xc,xd,rfl,hg⟩;(have hg':=hg);(obtain⟨d1,e1,d2,e2,d3,e3,rfl,rfl,rfl,rfl,-⟩:=hg'.form);clear hg')
 obtain⟨Y,hY⟩:∃Y,Y=w3.alloc (.cells #[.int .i64 g.op,.slice d1 g.vars.length e1,.slice d2 g.terms.length e2,.slice d3 g.args.length e3] 29):=⟨_,rfl⟩
 have hxY:Ext w3 Y:=by rw[hY];exact zb _ _
 have hgY:Own Y w3.heap.size [.int .i64 g.op,.slice d1 g.vars.length e1,.slice d2 g.terms.length e2,.slice d3 g.args.length e3]:=by rw[hY];exact own4 w3 _ _ _ _ _
 have hfY:=(hfM.chg hx3 (by simpa using hfc)).ext hxY
 have htY:=(htM.chg hx3 (by simpa using htc)).ext hxY
 have hnY:=(hnM.chg hx3 (by simpa using hnc)).ext hxY
 have hqY:=(hqM.trans hx3).trans (Chg.of_ext hxY)
 have hcY:=hc3.ext hxY
 have hnU:=hnM.lt
 have hF:=(Dat.Fs.chg hfmM hx3 (fun g hg=>by simp;omega)).ext hxY
 have hG:=Dat.Fs.ext (Dat.Fs.mono hg (Q:=fun g=>w.heap.size<g) fun g hg _=>(by omega)) hxY
 rw[←hY]
 clear hY hxY hx3 hc3 hg hfM htM hnM hqM hcM hfmM HUU
 generalize w3.heap.size=gb at *
 obtain⟨⟨m0,-⟩,⟨m1,-⟩,⟨m2,-⟩,⟨m3,-⟩⟩:=hfY.cells4
 obtain⟨⟨s0,-⟩,⟨s1,-⟩,⟨s2,-⟩,⟨s3,-⟩⟩:=hgY.cells4
 obtain⟨t1,-⟩:=htY 1 _ rfl
 have HO:=Lib.hid (fun op a n c w=>zen op a n c w)
 go_wp2_with (go_at_call 82;refine(HO.out _ _ _ _ _).mono ?_;rintro e w4 ⟨rfl,hx4'⟩;have hx4:=(zb _ _).trans hx4';(obtain⟨⟨n0,g0⟩,⟨n1,g1⟩,⟨n2,g2⟩,⟨n3,g3⟩⟩:=(hnY.ext hx4).cells4);have hnl:=(hnY.ext hx4).lt)
 refine za4 (hqY.trans (Chg.of_ext hx4)) hlt (hcY.ext hx4) (hnY.ext hx4) (fun W2 r0 r1 r2 r3=>by simp[results,Tryz.results40,go_sem,r0,r1,r2,r3]) rfl fun W2 k1 k2 k3=>⟨k2,?_⟩
 rw[HE.out]
 refine⟨k1,_,rfl,_,_,_,_,rfl,?_⟩
 have h1:=zcv (op:=10) (l:=[f,g]) (c:=2) (by decide) (by decide) (Nat.le_refl _) (IsFms.ext (zi6 29 hF hG (show w.heap.size<Y.heap.size from hnY.lt)) hx4')
 exact Dat.Fs.mono (Dat.Fs.chg h1 k3 (fun g hg=>by simp;omega)) fun g hg _=>(show w.heap.size≤g by omega)
theorem z00 {cb:Nat}{l:List Tok}(hl:l.length≤1073741824){n:Nat}(hU:zcj cb l n){ks:List Tok}(hkn:ks.length≤n){w:World}(h:Cur cb l w ks){f:Fm}{t:Tok}{r:List Tok}(hu:zr ks=.ok f (t::r)) (h6:t.kind=6) (hs:t.text=sNor) :
  Calls Tryz.prog 40 #[.pointer (some ⟨cb,0,none⟩)] w (zu zc7 cb l w (zh zr ks)):=by
 have HE:=Lib.hid (show zh zr ks=(zr r).map (fun g=>fNot (fOf 7 [f,g])) by
  unfold zh;rw[hu,Rd.bind_ok,zl,if_neg (by simpa using h6),if_neg (by rw[hs];decide),if_neg (by rw[hs];decide),hs];rfl)
 have hlt:=h.lt
 have hpk:zt (t::r)=t:=rfl
 obtain⟨kd,tx,ta⟩:=t
 simp only at h6 hs
 have q0:(kd != 6)=false:=by rw[bne_eq_false_iff_eq];exact h6
 have q1:(tx.toList==[38])=false:=by subst hs;decide +kernel
 have q2:(tx.toList==[124])=false:=by subst hs;decide +kernel
 have q3:(tx.toList==[61,62])=false:=by subst hs;decide +kernel
 have q4:(tx.toList==[60,61])=false:=by subst hs;decide +kernel
 have q5:(tx.toList==[60,61,62])=false:=by subst hs;decide +kernel
 have q6:(tx.toList==[60,126,62])=false:=by subst hs;decide +kernel
 have q7:(tx.toList==[126,124])=true:=by subst hs;decide +kernel
 have q8:(tx.toList==[126,38])=false:=by subst hs;decide +kernel
 clear hs h6
 obtain⟨W,hW⟩:∃W,W=w.alloc (.cells #[.int .i64 0,.slice none 0 0,.slice none 0 0,.slice none 0 0] 29):=⟨_,rfl⟩
 have hx:Ext w W:=by rw[hW];exact zb _ _
 have hnW:Own W w.heap.size [.int .i64 0,.slice none 0 0,.slice none 0 0,.slice none 0 0]:=by rw[hW];exact own4 w _ _ _ _ _
 have HU:=Lib.hid (hU ks hkn W (h.ext hx))
 have HU2:=Lib.hid hU
 unfold zu at HU
 rw[hu]at HU
 have hul:=zb4 hu
 clear hu h hU
 go_enter Tryz.func40,Tryz.ntmps40
 go_upto_region 2 with (rw[←hW];clear hW;go_at_call 79;refine(HU.out).mono ?_;rintro e w1 ⟨hx1,hc1,v,rfl,xa,xb,xc,xd,rfl,hf⟩;(have hf':=hf);(obtain⟨b1,c1,b2,c2,b3,c3,rfl,rfl,rfl,rfl,-⟩:=hf'.form);clear hf')
 have HP:=Lib.hid (fun w' (hx:Ext w1 w')=>zab hl (hc1.ext hx))
 rw[hpk]at HP
 have hq1:Chg [cb] w w1:=Chg.trans (Chg.of_ext hx) hx1
 have hnc:w.heap.size≠cb:=by omega
 have hn1:=hnW.chg hx1 (by simpa using hnc)
 have hnl:=hnW.lt
 have hnl1:=hx1.size
 go_upto_region 3 with (go_at_call 80;refine(HP.out _ (zb _ _)).mono ?_;rintro e w2 ⟨rfl,hx2⟩;simp only[Tok.vals])
 obtain⟨V,hV⟩:∃V,V=w2.alloc (.cells #[.int .i64 kd,.string tx,.int .i64 ta] 77):=⟨_,rfl⟩
 have hx12:Ext w1 V:=by rw[hV];exact((zb _ _).trans hx2).alloc _
 have hfV:Own V w1.heap.size [.int .i64 f.op,.slice b1 f.vars.length c1,.slice b2 f.terms.length c2,.slice b3 f.args.length c3]:=by rw[hV];exact((own4 w1 _ _ _ _ _).ext hx2).ext (zb _ _)
 have htV:Own V w2.heap.size [.int .i64 kd,.string tx,.int .i64 ta]:=by rw[hV];exact own3 w2 _ _ _ _
 have hqV:=hq1.trans (Chg.of_ext hx12)
 have hcV:=hc1.ext hx12
 have hnV:=hn1.ext hx12
 have hfm:IsFm (fun g=>w.heap.size<g) V _ _ _ _ f:=(Dat.Fs.mono hf fun g hg _=>(show w.heap.size<g by have:W.heap.size≤g:=hg;omega)).ext hx12
 have hfn:w.heap.size<w1.heap.size:=by omega
 have htn:w1.heap.size<w2.heap.size:=by have:=((zb w1 (.cells #[.int .i64 f.op,.slice b1 f.vars.length c1,.slice b2 f.terms.length c2,.slice b3 f.args.length c3] 29)).trans hx2).size;have:=(own4 w1 (.int .i64 f.op) (.slice b1 f.vars.length c1) (.slice b2 f.terms.length c2) (.slice b3 f.args.length c3) 29).lt;have:=hx2.size;omega
 rw[←hV]
 clear hV hx hx1 hx2 hx12 hnW HU HP hq1 hn1 hnl hnl1 hc1 hf
 generalize w1.heap.size=fb at *
 generalize w2.heap.size=tb at *
 have hfc:fb≠cb:=by omega
 have htc:tb≠cb:=by omega
 have hfne:fb≠w.heap.size:=by omega
 clear w1 w2
 obtain⟨⟨m0,-⟩,⟨m1,-⟩,⟨m2,-⟩,⟨m3,-⟩⟩:=hfV.cells4
 obtain⟨t0,-⟩:=htV 0 _ rfl
 obtain⟨t1,-⟩:=htV 1 _ rfl
 obtain⟨⟨n0,g0⟩,⟨n1,g1⟩,⟨n2,g2⟩,⟨n3,g3⟩⟩:=hnV.cells4
 have hnl:=hnV.lt
 obtain⟨hsuf,ca,cc,hown,-,-⟩:=(show Cur cb l V (⟨kd,tx,ta⟩::r)from hcV)
 obtain⟨p,hp,-,hp1,hp2,hp3⟩:=zdn hsuf
 rw[hp2]at hown
 obtain⟨z1,y1⟩:=hown 1 _ rfl
 have hsM:Chg [cb] V (V.setCell ⟨cb,1,none⟩ (.int .i64 ((p:Int)+1))):=(Chg.refl [cb] V).setCell _ (.inl (by simp))
 have hcM:=hcV.move ((List.suffix_cons _ _).trans hsuf) (z:=(p:Int)+1) (by omega)
 clear hp2 hp3 hown hsuf
 go_upto_region 22 with fail
 have hqM:=hqV.trans hsM
 have hfM:=hfV.chg hsM (by simpa using hfc)
 have htM:=htV.chg hsM (by simpa using htc)
 have hnM:=hnV.chg hsM (by simpa using hnc)
 have hfmM:IsFm (fun g=>w.heap.size<g) (V.setCell ⟨cb,1,none⟩ (.int .i64 ((p:Int)+1))) _ _ _ _ f:=Dat.Fs.chg hfm hsM (fun g hg=>by simp;omega)
 clear hqV hfV htV hnV hfm hsM hcV m0 m1 m2 m3 t0 t1 n0 n1 n2 n3 g0 g1 g2 g3 hnl z1 y1
 generalize V.setCell ⟨cb,1,none⟩ (.int .i64 ((p:Int)+1))=U at *
 have HUU:=Lib.hid (HU2.out r (by simp only[List.length_cons]at hul;omega) U hcM)
 unfold zu at HUU
 clear HU2
 cases hk:zr r with
 |bad r2 =>
  rw[hk]at HUU HE
  clear hk
  go_wp2_with (go_at_call 79;refine(HUU.out).mono ?_;rintro e w3 ⟨hx3,rfl⟩)
  exact⟨rfl,hqM.trans hx3,(by rw[HE.out];rfl)⟩
 |ok g r2 =>
 rw[hk]at HUU HE
 clear hk
 go_upto_region 23 with (go_at_call 79;refine(HUU.out).mono ?_;rintro e w3 ⟨hx3,hc3,v,rfl,xa,xb,xc,xd,rfl,hg⟩;(have hg':=hg);(obtain⟨d1,e1,d2,e2,d3,e3,rfl,rfl,rfl,rfl,-⟩:=hg'.form);clear hg')
 obtain⟨Y,hY⟩:∃Y,Y=w3.alloc (.cells #[.int .i64 g.op,.slice d1 g.vars.length e1,.slice d2 g.terms.length e2,.slice d3 g.args.length e3] 29):=⟨_,rfl⟩
 have hxY:Ext w3 Y:=by rw[hY];exact zb _ _
 have hgY:Own Y w3.heap.size [.int .i64 g.op,.slice d1 g.vars.length e1,.slice d2 g.terms.length e2,.slice d3 g.args.length e3]:=by rw[hY];exact own4 w3 _ _ _ _ _
 have hfY:=(hfM.chg hx3 (by simpa using hfc)).ext hxY
 have htY:=(htM.chg hx3 (by simpa using htc)).ext hxY
 have hnY:=(hnM.chg hx3 (by simpa using hnc)).ext hxY
 have hqY:=(hqM.trans hx3).trans (Chg.of_ext hxY)
 have hcY:=hc3.ext hxY
 have hnU:=hnM.lt
 have hF:=(Dat.Fs.chg hfmM hx3 (fun g hg=>by simp;omega)).ext hxY
 have hG:=Dat.Fs.ext (Dat.Fs.mono hg (Q:=fun g=>w.heap.size<g) fun g hg _=>(by omega)) hxY
 rw[←hY]
 clear hY hxY hx3 hc3 hg hfM htM hnM hqM hcM hfmM HUU
 generalize w3.heap.size=gb at *
 obtain⟨⟨m0,-⟩,⟨m1,-⟩,⟨m2,-⟩,⟨m3,-⟩⟩:=hfY.cells4
 obtain⟨⟨s0,-⟩,⟨s1,-⟩,⟨s2,-⟩,⟨s3,-⟩⟩:=hgY.cells4
 obtain⟨t1,-⟩:=htY 1 _ rfl
 have HO:=Lib.hid (fun op a n c w=>zen op a n c w)
 go_wp2_with (first|(go_at_call 82;have hx4c:=hx4;refine(HO.out _ _ _ _ _).mono ?_;rintro e w5 ⟨rfl,hx5'⟩;have hx5:=(hx4.trans (zb _ _)).trans hx5';(obtain⟨⟨n0,g0⟩,⟨n1,g1⟩,⟨n2,g2⟩,⟨n3,g3⟩⟩:=(hnY.ext hx5).cells4);have hnl:=(hnY.ext hx5).lt)|(go_at_call 82;refine(HO.out _ _ _ _ _).mono ?_;rintro e w4 ⟨rfl,hx4'⟩;have hx4:=(zb _ _).trans hx4';skip))
 refine za4 (hqY.trans (Chg.of_ext hx5)) hlt (hcY.ext hx5) (hnY.ext hx5) (fun W2 r0 r1 r2 r3=>by simp[results,Tryz.results40,go_sem,r0,r1,r2,r3]) rfl fun W2 k1 k2 k3=>⟨k2,?_⟩
 rw[HE.out]
 refine⟨k1,_,rfl,_,_,_,_,rfl,?_⟩
 have h1:=zcv (op:=7) (l:=[f,g]) (c:=2) (by decide) (by decide) (Nat.le_refl _) (IsFms.ext (zi6 29 hF hG (show w.heap.size<Y.heap.size from hnY.lt)) hx4')
 have h2:=zcv (op:=5) (l:=[fOf 7 [f,g]]) (c:=1) (by decide) (by decide) (Nat.le_refl _) (IsFms.ext (zi5 29 h1 (show w.heap.size<w4.heap.size from (hnY.ext hx4).lt)) hx5')
 exact Dat.Fs.mono (Dat.Fs.chg h2 k3 (fun g hg=>by simp;omega)) fun g hg _=>(show w.heap.size≤g by omega)
theorem zym {cb:Nat}{l:List Tok}(hl:l.length≤1073741824){n:Nat}(hU:zcj cb l n){ks:List Tok}(hkn:ks.length≤n){w:World}(h:Cur cb l w ks){f:Fm}{t:Tok}{r:List Tok}(hu:zr ks=.ok f (t::r)) (h6:t.kind=6) (hs:t.text=zwz) :
  Calls Tryz.prog 40 #[.pointer (some ⟨cb,0,none⟩)] w (zu zc7 cb l w (zh zr ks)):=by
 have HE:=Lib.hid (show zh zr ks=(zr r).map (fun g=>fNot (fOf 6 [f,g])) by
  unfold zh;rw[hu,Rd.bind_ok,zl,if_neg (by simpa using h6),if_neg (by rw[hs];decide),if_neg (by rw[hs];decide),hs];rfl)
 have hlt:=h.lt
 have hpk:zt (t::r)=t:=rfl
 obtain⟨kd,tx,ta⟩:=t
 simp only at h6 hs
 have q0:(kd != 6)=false:=by rw[bne_eq_false_iff_eq];exact h6
 have q1:(tx.toList==[38])=false:=by subst hs;decide +kernel
 have q2:(tx.toList==[124])=false:=by subst hs;decide +kernel
 have q3:(tx.toList==[61,62])=false:=by subst hs;decide +kernel
 have q4:(tx.toList==[60,61])=false:=by subst hs;decide +kernel
 have q5:(tx.toList==[60,61,62])=false:=by subst hs;decide +kernel
 have q6:(tx.toList==[60,126,62])=false:=by subst hs;decide +kernel
 have q7:(tx.toList==[126,124])=false:=by subst hs;decide +kernel
 have q8:(tx.toList==[126,38])=true:=by subst hs;decide +kernel
 clear hs h6
 obtain⟨W,hW⟩:∃W,W=w.alloc (.cells #[.int .i64 0,.slice none 0 0,.slice none 0 0,.slice none 0 0] 29):=⟨_,rfl⟩
 have hx:Ext w W:=by rw[hW];exact zb _ _
 have hnW:Own W w.heap.size [.int .i64 0,.slice none 0 0,.slice none 0 0,.slice none 0 0]:=by rw[hW];exact own4 w _ _ _ _ _
 have HU:=Lib.hid (hU ks hkn W (h.ext hx))
 have HU2:=Lib.hid hU
 unfold zu at HU
 rw[hu]at HU
 have hul:=zb4 hu
 clear hu h hU
 go_enter Tryz.func40,Tryz.ntmps40
 go_upto_region 2 with (rw[←hW];clear hW;go_at_call 79;refine(HU.out).mono ?_;rintro e w1 ⟨hx1,hc1,v,rfl,xa,xb,xc,xd,rfl,hf⟩;(have hf':=hf);(obtain⟨b1,c1,b2,c2,b3,c3,rfl,rfl,rfl,rfl,-⟩:=hf'.form);clear hf')
 have HP:=Lib.hid (fun w' (hx:Ext w1 w')=>zab hl (hc1.ext hx))
 rw[hpk]at HP
 have hq1:Chg [cb] w w1:=Chg.trans (Chg.of_ext hx) hx1
 have hnc:w.heap.size≠cb:=by omega
 have hn1:=hnW.chg hx1 (by simpa using hnc)
 have hnl:=hnW.lt
 have hnl1:=hx1.size
 go_upto_region 3 with (go_at_call 80;refine(HP.out _ (zb _ _)).mono ?_;rintro e w2 ⟨rfl,hx2⟩;simp only[Tok.vals])
 obtain⟨V,hV⟩:∃V,V=w2.alloc (.cells #[.int .i64 kd,.string tx,.int .i64 ta] 77):=⟨_,rfl⟩
 have hx12:Ext w1 V:=by rw[hV];exact((zb _ _).trans hx2).alloc _
 have hfV:Own V w1.heap.size [.int .i64 f.op,.slice b1 f.vars.length c1,.slice b2 f.terms.length c2,.slice b3 f.args.length c3]:=by rw[hV];exact((own4 w1 _ _ _ _ _).ext hx2).ext (zb _ _)
 have htV:Own V w2.heap.size [.int .i64 kd,.string tx,.int .i64 ta]:=by rw[hV];exact own3 w2 _ _ _ _
 have hqV:=hq1.trans (Chg.of_ext hx12)
 have hcV:=hc1.ext hx12
 have hnV:=hn1.ext hx12
 have hfm:IsFm (fun g=>w.heap.size<g) V _ _ _ _ f:=(Dat.Fs.mono hf fun g hg _=>(show w.heap.size<g by have:W.heap.size≤g:=hg;omega)).ext hx12
 have hfn:w.heap.size<w1.heap.size:=by omega
 have htn:w1.heap.size<w2.heap.size:=by have:=((zb w1 (.cells #[.int .i64 f.op,.slice b1 f.vars.length c1,.slice b2 f.terms.length c2,.slice b3 f.args.length c3] 29)).trans hx2).size;have:=(own4 w1 (.int .i64 f.op) (.slice b1 f.vars.length c1) (.slice b2 f.terms.length c2) (.slice b3 f.args.length c3) 29).lt;have:=hx2.size;omega
 rw[←hV]
 clear hV hx hx1 hx2 hx12 hnW HU HP hq1 hn1 hnl hnl1 hc1 hf
 generalize w1.heap.size=fb at *
 generalize w2.heap.size=tb at *
 have hfc:fb≠cb:=by omega
 have htc:tb≠cb:=by omega
 have hfne:fb≠w.heap.size:=by omega
 clear w1 w2
 obtain⟨⟨m0,-⟩,⟨m1,-⟩,⟨m2,-⟩,⟨m3,-⟩⟩:=hfV.cells4
 obtain⟨t0,-⟩:=htV 0 _ rfl
 obtain⟨t1,-⟩:=htV 1 _ rfl
 obtain⟨⟨n0,g0⟩,⟨n1,g1⟩,⟨n2,g2⟩,⟨n3,g3⟩⟩:=hnV.cells4
 have hnl:=hnV.lt
 obtain⟨hsuf,ca,cc,hown,-,-⟩:=(show Cur cb l V (⟨kd,tx,ta⟩::r)from hcV)
 obtain⟨p,hp,-,hp1,hp2,hp3⟩:=zdn hsuf
 rw[hp2]at hown
 obtain⟨z1,y1⟩:=hown 1 _ rfl
 have hsM:Chg [cb] V (V.setCell ⟨cb,1,none⟩ (.int .i64 ((p:Int)+1))):=(Chg.refl [cb] V).setCell _ (.inl (by simp))
 have hcM:=hcV.move ((List.suffix_cons _ _).trans hsuf) (z:=(p:Int)+1) (by omega)
 clear hp2 hp3 hown hsuf
 go_upto_region 22 with fail
 have hqM:=hqV.trans hsM
 have hfM:=hfV.chg hsM (by simpa using hfc)
 have htM:=htV.chg hsM (by simpa using htc)
 have hnM:=hnV.chg hsM (by simpa using hnc)
 have hfmM:IsFm (fun g=>w.heap.size<g) (V.setCell ⟨cb,1,none⟩ (.int .i64 ((p:Int)+1))) _ _ _ _ f:=Dat.Fs.chg hfm hsM (fun g hg=>by simp;omega)
 clear hqV hfV htV hnV hfm hsM hcV m0 m1 m2 m3 t0 t1 n0 n1 n2 n3 g0 g1 g2 g3 hnl z1 y1
 generalize V.setCell ⟨cb,1,none⟩ (.int .i64 ((p:Int)+1))=U at *
 have HUU:=Lib.hid (HU2.out r (by simp only[List.length_cons]at hul;omega) U hcM)
 unfold zu at HUU
 clear HU2
 cases hk:zr r with
 |bad r2 =>
  rw[hk]at HUU HE
  clear hk
  go_wp2_with (go_at_call 79;refine(HUU.out).mono ?_;rintro e w3 ⟨hx3,rfl⟩)
  exact⟨rfl,hqM.trans hx3,(by rw[HE.out];rfl)⟩
 |ok g r2 =>
 rw[hk]at HUU HE
 clear hk
 go_upto_region 23 with (go_at_call 79;refine(HUU.out).mono ?_;rintro e w3 ⟨hx3,hc3,v,rfl,xa,xb,xc,xd,rfl,hg⟩;(have hg':=hg);(obtain⟨d1,e1,d2,e2,d3,e3,rfl,rfl,rfl,rfl,-⟩:=hg'.form);clear hg')
 obtain⟨Y,hY⟩:∃Y,Y=w3.alloc (.cells #[.int .i64 g.op,.slice d1 g.vars.length e1,.slice d2 g.terms.length e2,.slice d3 g.args.length e3] 29):=⟨_,rfl⟩
 have hxY:Ext w3 Y:=by rw[hY];exact zb _ _
 have hgY:Own Y w3.heap.size [.int .i64 g.op,.slice d1 g.vars.length e1,.slice d2 g.terms.length e2,.slice d3 g.args.length e3]:=by rw[hY];exact own4 w3 _ _ _ _ _
 have hfY:=(hfM.chg hx3 (by simpa using hfc)).ext hxY
 have htY:=(htM.chg hx3 (by simpa using htc)).ext hxY
 have hnY:=(hnM.chg hx3 (by simpa using hnc)).ext hxY
 have hqY:=(hqM.trans hx3).trans (Chg.of_ext hxY)
 have hcY:=hc3.ext hxY
 have hnU:=hnM.lt
 have hF:=(Dat.Fs.chg hfmM hx3 (fun g hg=>by simp;omega)).ext hxY
 have hG:=Dat.Fs.ext (Dat.Fs.mono hg (Q:=fun g=>w.heap.size<g) fun g hg _=>(by omega)) hxY
 rw[←hY]
 clear hY hxY hx3 hc3 hg hfM htM hnM hqM hcM hfmM HUU
 generalize w3.heap.size=gb at *
 obtain⟨⟨m0,-⟩,⟨m1,-⟩,⟨m2,-⟩,⟨m3,-⟩⟩:=hfY.cells4
 obtain⟨⟨s0,-⟩,⟨s1,-⟩,⟨s2,-⟩,⟨s3,-⟩⟩:=hgY.cells4
 obtain⟨t1,-⟩:=htY 1 _ rfl
 have HO:=Lib.hid (fun op a n c w=>zen op a n c w)
 go_wp2_with (first|(go_at_call 82;have hx4c:=hx4;refine(HO.out _ _ _ _ _).mono ?_;rintro e w5 ⟨rfl,hx5'⟩;have hx5:=(hx4.trans (zb _ _)).trans hx5';(obtain⟨⟨n0,g0⟩,⟨n1,g1⟩,⟨n2,g2⟩,⟨n3,g3⟩⟩:=(hnY.ext hx5).cells4);have hnl:=(hnY.ext hx5).lt)|(go_at_call 82;refine(HO.out _ _ _ _ _).mono ?_;rintro e w4 ⟨rfl,hx4'⟩;have hx4:=(zb _ _).trans hx4';skip))
 refine za4 (hqY.trans (Chg.of_ext hx5)) hlt (hcY.ext hx5) (hnY.ext hx5) (fun W2 r0 r1 r2 r3=>by simp[results,Tryz.results40,go_sem,r0,r1,r2,r3]) rfl fun W2 k1 k2 k3=>⟨k2,?_⟩
 rw[HE.out]
 refine⟨k1,_,rfl,_,_,_,_,rfl,?_⟩
 have h1:=zcv (op:=6) (l:=[f,g]) (c:=2) (by decide) (by decide) (Nat.le_refl _) (IsFms.ext (zi6 29 hF hG (show w.heap.size<Y.heap.size from hnY.lt)) hx4')
 have h2:=zcv (op:=5) (l:=[fOf 6 [f,g]]) (c:=1) (by decide) (by decide) (Nat.le_refl _) (IsFms.ext (zi5 29 h1 (show w.heap.size<w4.heap.size from (hnY.ext hx4).lt)) hx5')
 exact Dat.Fs.mono (Dat.Fs.chg h2 k3 (fun g hg=>by simp;omega)) fun g hg _=>(show w.heap.size≤g by omega)
section
variable {cb:Nat}{l:List Tok}
theorem zo5 (hl:l.length≤1073741824) (hnel:0<l.length){ks:List Tok}{w:World}(h:Cur cb l w ks) (h3:(zt ks).kind=3) (hnt:(zt ks).text≠zmm) (hnf:(zt ks).text≠zgk) :
  Calls Tryz.prog 131 #[.pointer (some ⟨cb,0,none⟩)] w (zu zc7 cb l w (za3 ks)):=by
 have HE:=Lib.hid (zq7 (ks:=ks) (fun h=>by rcases h.2 with h1|h1;exact hnt h1;exact hnf h1))
 have HP:=Lib.hid (fun w' (hx:Ext w w')=>zab hl (h.ext hx))
 have HC:=Lib.hid h
 have hlt:=h.lt
 clear h
 generalize zt ks=t at *
 obtain⟨kd,tx,ta⟩:=t
 simp only at h3 hnt hnf
 have q1:(kd==3)=true:=by rw[beq_iff_eq];exact h3
 have q2:(tx.toList==[36,116,114,117,101])=false:=by
  have:=zcb (a:=tx) (b:=zmm) hnt
  rwa [show zmm.toList=[36,116,114,117,101] by decide +kernel]at this
 have q3:(tx.toList==[36,102,97,108,115,101])=false:=by
  have:=zcb (a:=tx) (b:=zgk) hnf
  rwa [show zgk.toList=[36,102,97,108,115,101] by decide +kernel]at this
 clear h3 hnt hnf
 obtain⟨W,hW⟩:∃W,W=w.alloc (.cells #[.int .i64 0,.slice none 0 0,.slice none 0 0,.slice none 0 0] 29):=⟨_,rfl⟩
 have hx:Ext w W:=by rw[hW];exact zb _ _
 have hnew:Own W w.heap.size [.int .i64 0,.slice none 0 0,.slice none 0 0,.slice none 0 0]:=by rw[hW];exact own4 w _ _ _ _ _
 go_enter Tryz.func131,Tryz.ntmps131
 go_upto_region 10 with (rw[←hW];clear hW;go_at_call 80;refine(HP.out _ hx).mono ?_;rintro e w1 ⟨rfl,hx1⟩;simp only[Tok.vals])
 obtain⟨V,hV⟩:∃V,V=w1.alloc (.cells #[.int .i64 kd,.string tx,.int .i64 ta] 77):=⟨_,rfl⟩
 have hx3:Ext w V:=by rw[hV];exact(hx.trans hx1).alloc _
 have hnV:Own V w.heap.size [.int .i64 0,.slice none 0 0,.slice none 0 0,.slice none 0 0]:=by rw[hV];exact(hnew.ext hx1).ext (zb _ _)
 rw[←hV]
 clear hV hx hx1 hnew HP
 generalize w1.heap.size=tb
 have hcV:=HC.out.ext hx3
 have hnlt:=hnV.lt
 have hle:=hx3.size
 have HT:=Lib.hid (zey hl hnel ks.length ks (Nat.le_refl _) V hcV)
 unfold zu at HT
 cases hrt:za2 ks with
 |bad r =>
  rw[hrt]at HT HE
  clear hrt
  go_wp2_with (go_at_call 168;refine(HT.out).mono ?_;rintro e w3 ⟨hx4,rfl⟩)
  refine⟨rfl,Chg.trans (Chg.of_ext hx3) hx4,?_⟩
  rw[HE.out];rfl
 |ok x r =>
  rw[hrt]at HT HE
  simp only[Rd.bind_ok]at HE
  clear hrt
  go_upto_region 11 with (go_at_call 168;refine(HT.out).mono ?_;rintro e w3 ⟨hx4,hc4,v,rfl,xa,xb,xc,rfl,hv⟩;(have hv':=hv);(obtain⟨ea,ec,rfl,rfl,rfl,hnsz,hal,hes⟩:=hv'.form);clear hv' hes)
  obtain⟨V3,hV3⟩:∃V3,V3=w3.alloc (.cells #[.bool x.var,.string x.name,.slice ea x.args.length ec] 73):=⟨_,rfl⟩
  have hq3:Chg [cb] w V3:=by rw[hV3];exact(Chg.trans (Chg.of_ext hx3) hx4).alloc _
  have hc3:Cur cb l V3 r:=by rw[hV3];exact hc4.ext (zb _ _)
  have hne:w.heap.size≠cb:=by omega
  have hn3:Own V3 w.heap.size [.int .i64 0,.slice none 0 0,.slice none 0 0,.slice none 0 0]:=by rw[hV3];exact(hnV.chg hx4 (by simpa using hne)).ext (zb _ _)
  have hxb:Own V3 w3.heap.size [.bool x.var,.string x.name,.slice ea x.args.length ec]:=by rw[hV3];exact own3 w3 _ _ _ _
  have hv3:IsEx (fun g=>w.heap.size≤g∧g≠w.heap.size∧g≠cb) V3 (.bool x.var) (.string x.name) (.slice ea x.args.length ec) x:=by rw[hV3];exact(Dat.Fs.mono hv (fun g hg _=>⟨Nat.le_trans hle hg,by omega,by omega⟩)).ext (zb _ _)
  have hxn:w.heap.size<w3.heap.size:=Nat.lt_of_lt_of_le hnlt hx4.size
  rw[←hV3]
  clear hV3 hx3 hx4 hc4 hv hnV hcV HC HT hnlt hle
  generalize w3.heap.size=xb at *
  have hcx:xb≠cb:=by omega
  clear w3 V
  unfold zg4 at HE
  cases ht:zx sEq r with
  |some r1 =>
   rw[ht]at HE
   simp only at HE
   have HT:=Lib.hid (zbt hl hc3 ht)
   have HT2:=Lib.hid (fun w' (h:Cur cb l w' r1)=>zey hl hnel r1.length r1 (Nat.le_refl _) w' h)
   unfold zu at HT2
   simp only[sEq]at HT
   clear ht
   cases hr2:za2 r1 with
   |bad r2 =>
    rw[hr2]at HT2 HE
    clear hr2
    go_upto_region 12 with (go_at_call 81;refine(HT.out).mono ?_;rintro e w4 ⟨rfl,hc4,hx4⟩)
    have hxb4:=hxb.chg hx4 (by simpa using hcx)
    obtain⟨m0,-⟩:=hxb4 0 _ rfl
    obtain⟨m1,-⟩:=hxb4 1 _ rfl
    obtain⟨m2,-⟩:=hxb4 2 _ rfl
    refine wp_region_any (by kernel_rfl) ?_
    change wpAny _ _ _ _ _ _ _ (World.drew _)
    refine wpAny_take (i:=1) (v:=.pointer (some ⟨cb,0,none⟩)) rfl (by kernel_rfl) (by kernel_rfl) (by kernel_rfl) (fun _ _ _ h=>h) (Or.inl ⟨by rfl,fun w0=>?_⟩) ?_
    ·go_simp
    refine wpAny_ready (rs:=[0,2]) (by kernel_rfl) (by simp) ?_
    refine AllReady.cons rfl (fun K hK=>?_) (AllReady.cons rfl (fun K hK=>?_) AllReady.nil)
    ·go_simp
     refine hK _ _ ?_
     clear hK K
     refine wpAny_ready (rs:=[2]) (by kernel_rfl) (by simp) ?_
     refine AllReady.cons rfl (fun K hK=>?_) AllReady.nil
     go_simp
     refine(HT2.out _ (hc4.ext (Ext.drew (Below.refl _ _)))).mono ?_
     rintro e w5 ⟨hx5,rfl⟩
     exact⟨rfl,((hq3.trans hx4).trans (Chg.trans (Chg.of_ext (Ext.drew (Below.refl _ _))) hx5)),(by rw[HE.out];rfl)⟩
    ·go_simp
     refine(HT2.out _ (hc4.ext (Ext.drew (Below.refl _ _)))).mono ?_
     rintro e w5 ⟨hx5,rfl⟩
     exact⟨rfl,((hq3.trans hx4).trans (Chg.trans (Chg.of_ext (Ext.drew (Below.refl _ _))) hx5)),(by rw[HE.out];rfl)⟩
   |ok y r2 =>
    rw[hr2]at HT2 HE
    clear hr2
    go_upto_region 12 with (go_at_call 81;refine(HT.out).mono ?_;rintro e w4 ⟨rfl,hc4,hx4⟩)
    have hxb4:=hxb.chg hx4 (by simpa using hcx)
    have hn4:=hn3.chg hx4 (by simpa using hne)
    obtain⟨m0,-⟩:=hxb4 0 _ rfl
    obtain⟨m1,-⟩:=hxb4 1 _ rfl
    obtain⟨m2,-⟩:=hxb4 2 _ rfl
    have hnlt:=hn4.lt
    go_region_with (go_at_call 168;refine(HT2.out _ (hc4.ext (Ext.drew (Below.refl _ _)))).mono ?_;rintro e w5 ⟨hx5,hc5,v,rfl,ya,yb,yc,rfl,hy⟩;have hx5':=Chg.trans (Chg.of_ext (Ext.drew (Below.refl (World.heap w4).size w4))) hx5;clear m0 m1 m2;(have hxb5:=hxb4.chg hx5' (by simpa using hcx));(have hn5:=hn4.chg hx5' (by simpa using hne));(obtain⟨m0,-⟩:=hxb5 0 _ rfl);(obtain⟨m1,-⟩:=hxb5 1 _ rfl);(obtain⟨m2,-⟩:=hxb5 2 _ rfl);(obtain⟨n0,g0⟩:=hn5 0 _ rfl);(obtain⟨n1,g1⟩:=hn5 1 _ rfl);(obtain⟨n2,g2⟩:=hn5 2 _ rfl);(obtain⟨n3,g3⟩:=hn5 3 _ rfl);have hnlt5:=hn5.lt;(obtain⟨ya',yc',hya,hyb,hyc,hysz,hyal,-⟩:=hy.form);subst hya;subst hyb;subst hyc)
    all_goals
     go_wp2
     refine zga ((hq3.trans hx4).trans hx5') hlt hc5 hn5 _ (fun W2 r0 r1 r2 r3=>by simp[results,Tryz.results131,go_sem,r0,r1,r2,r3]) rfl fun W1 hW k1 k2 k3=>⟨k2,?_⟩
     rw[HE.out]
     refine⟨k1,_,rfl,_,_,_,_,rfl,?_⟩
     have hs:=zo4 73 (hv3.move hx4 hx5' k3) (hy.moved (B:=w4.drew.heap.size) (show w.heap.size<w4.heap.size from hnlt) k3) (show w.heap.size≤W1.heap.size by omega)
     rw[hW]at hs
     exact zf9 (l:=[x,y]) (c:=2) (by decide) (by decide) (Nat.le_refl _) hs
  |none =>
   rw[ht]at HE
   simp only at HE
   have HT:=Lib.hid (za9 hl hc3 ht)
   simp only[sEq]at HT
   clear ht
   cases ht2:zx sNe r with
   |some r1 =>
    rw[ht2]at HE
    simp only at HE
    have HN:=Lib.hid (fun w' (h:Cur cb l w' r)=>zbt hl h ht2)
    have HT2:=Lib.hid (fun w' (h:Cur cb l w' r1)=>zey hl hnel r1.length r1 (Nat.le_refl _) w' h)
    have HO:=Lib.hid (fun b w=>zen 5 (some ⟨b,0,none⟩) 1 1 w)
    unfold zu at HT2
    simp only[sNe]at HN
    clear ht2
    cases hr2:za2 r1 with
    |bad r2 =>
     rw[hr2]at HT2 HE
     clear hr2
     go_upto_region 14 with (first|(with_reducible (go_at_call 81);with_reducible refine(HT.out).mono ?_;rintro e w4' ⟨rfl,hxt⟩)|(go_at_call 81;refine(HN.out _ (hc3.ext hxt)).mono ?_;rintro e w4 ⟨rfl,hc4,hx4'⟩;have hx4:=Chg.trans (Chg.of_ext hxt) hx4'))
     have hxb4:=hxb.chg hx4 (by simpa using hcx)
     obtain⟨m0,-⟩:=hxb4 0 _ rfl
     obtain⟨m1,-⟩:=hxb4 1 _ rfl
     obtain⟨m2,-⟩:=hxb4 2 _ rfl
     refine wp_region_any (by kernel_rfl) ?_
     change wpAny _ _ _ _ _ _ _ (World.drew _)
     refine wpAny_take (i:=1) (v:=.pointer (some ⟨cb,0,none⟩)) rfl (by kernel_rfl) (by kernel_rfl) (by kernel_rfl) (fun _ _ _ h=>h) (Or.inl ⟨by rfl,fun w0=>?_⟩) ?_
     ·go_simp
     refine wpAny_ready (rs:=[0,2]) (by kernel_rfl) (by simp) ?_
     refine AllReady.cons rfl (fun K hK=>?_) (AllReady.cons rfl (fun K hK=>?_) AllReady.nil)
     ·go_simp
      refine hK _ _ ?_
      clear hK K
      refine wpAny_ready (rs:=[2]) (by kernel_rfl) (by simp) ?_
      refine AllReady.cons rfl (fun K hK=>?_) AllReady.nil
      go_simp
      refine(HT2.out _ (hc4.ext (Ext.drew (Below.refl _ _)))).mono ?_
      rintro e w5 ⟨hx5,rfl⟩
      exact⟨rfl,((hq3.trans hx4).trans (Chg.trans (Chg.of_ext (Ext.drew (Below.refl _ _))) hx5)),(by rw[HE.out];rfl)⟩
     ·go_simp
      refine(HT2.out _ (hc4.ext (Ext.drew (Below.refl _ _)))).mono ?_
      rintro e w5 ⟨hx5,rfl⟩
      exact⟨rfl,((hq3.trans hx4).trans (Chg.trans (Chg.of_ext (Ext.drew (Below.refl _ _))) hx5)),(by rw[HE.out];rfl)⟩
    |ok y r2 =>
     rw[hr2]at HT2 HE
     clear hr2
     go_upto_region 14 with (first|(with_reducible (go_at_call 81);with_reducible refine(HT.out).mono ?_;rintro e w4' ⟨rfl,hxt⟩)|(go_at_call 81;refine(HN.out _ (hc3.ext hxt)).mono ?_;rintro e w4 ⟨rfl,hc4,hx4'⟩;have hx4:=Chg.trans (Chg.of_ext hxt) hx4'))
     have hxb4:=hxb.chg hx4 (by simpa using hcx)
     have hn4:=hn3.chg hx4 (by simpa using hne)
     obtain⟨m0,-⟩:=hxb4 0 _ rfl
     obtain⟨m1,-⟩:=hxb4 1 _ rfl
     obtain⟨m2,-⟩:=hxb4 2 _ rfl
     have hnlt:=hn4.lt
     go_region_with (first|(go_at_call 168;refine(HT2.out _ (hc4.ext (Ext.drew (Below.refl _ _)))).mono ?_;rintro e w5 ⟨hx5,hc5,v,rfl,ya,yb,yc,rfl,hy⟩;have hx5':=Chg.trans (Chg.of_ext (Ext.drew (Below.refl (World.heap w4).size w4))) hx5;clear m0 m1 m2;(have hxb5:=hxb4.chg hx5' (by simpa using hcx));(have hn5:=hn4.chg hx5' (by simpa using hne));(obtain⟨m0,-⟩:=hxb5 0 _ rfl);(obtain⟨m1,-⟩:=hxb5 1 _ rfl);(obtain⟨m2,-⟩:=hxb5 2 _ rfl);have hnlt5:=hn5.lt;(obtain⟨ya',yc',hya,hyb,hyc,hysz,hyal,-⟩:=hy.form);subst hya;subst hyb;subst hyc)|(go_at_call 82;refine(HO.out _ _).mono ?_;rintro e w6 ⟨rfl,hx6'⟩;have hx6:=((zb _ _).trans (zb _ _)).trans hx6';(obtain⟨n0,g0⟩:=hn5.ext hx6 0 _ rfl);(obtain⟨n1,g1⟩:=hn5.ext hx6 1 _ rfl);(obtain⟨n2,g2⟩:=hn5.ext hx6 2 _ rfl);(obtain⟨n3,g3⟩:=hn5.ext hx6 3 _ rfl)))
     all_goals
      go_wp2
      refine za4 (((hq3.trans hx4).trans hx5').trans (Chg.of_ext hx6)) hlt (hc5.ext hx6) (hn5.ext hx6) (fun W2 r0 r1 r2 r3=>by simp[results,Tryz.results131,go_sem,r0,r1,r2,r3]) rfl fun W2 k1 k2 k3=>⟨k2,?_⟩
      rw[HE.out]
      refine⟨k1,_,rfl,_,_,_,_,rfl,?_⟩
      have hX:IsEx (fun g=>w.heap.size≤g∧g≠w.heap.size) w5 _ _ _ x:=Dat.Fs.mono (Dat.Fs.chg hv3 (hx4.trans hx5') (fun g hg=>by simpa using hg.2.2)) fun g hg _=>⟨hg.1,hg.2.1⟩
      have hY:IsEx (fun g=>w.heap.size≤g∧g≠w.heap.size) w5 _ _ _ y:=Dat.Fs.mono hy fun g hg _=>(show w.heap.size≤g∧g≠w.heap.size by have:w4.heap.size≤g:=hg;omega)
      have h1:=zf9 (op:=4) (l:=[x,y]) (c:=2) (by decide) (by decide) (Nat.le_refl _) (zo4 73 hX hY ⟨by omega,by omega⟩)
      have h2:=zi5 29 h1 (show _∧_ by simp;omega)
      have h3:=zcv (op:=5) (l:=[fEq x y]) (c:=1) (by decide) (by decide) (Nat.le_refl _) (IsFms.ext h2 hx6')
      have h4:=Dat.Fs.mono (Dat.Fs.chg h3 k3 (fun g hg=>by simpa using hg.2)) (Q:=fun g=>w.heap.size≤g) fun g hg _=>hg.1
      rw[World.size_alloc]at h4
      exact h4
   |none =>
    rw[ht2]at HE
    simp only at HE
    have HN:=Lib.hid (fun w' (h:Cur cb l w' r)=>za9 hl h ht2)
    simp only[sNe]at HN
    clear ht2
    have HB:=Lib.hid (fun w' (h:Cur cb l w' r)=>zg2 hl hnel h)
    cases hxv:x.var with
    |true =>
     rw[hxv]at hxb HE
     clear hxv
     go_wp2_with (first|(with_reducible (go_at_call 81);with_reducible refine(HT.out).mono ?_;rintro e w4' ⟨rfl,hxt⟩)|(go_at_call 81;refine(HN.out _ (hc3.ext hxt)).mono ?_;rintro e w4 ⟨rfl,hx4'⟩;have hx4:=hxt.trans hx4';(obtain⟨m0,-⟩:=hxb.ext hx4 0 _ rfl))|(go_at_call 113;refine(HB.out _ (hc3.ext hx4)).mono ?_;rintro e w5 ⟨rfl,hx5⟩))
     exact⟨rfl,(hq3.trans (Chg.of_ext (hx4.trans hx5))),(by rw[HE.out];rfl)⟩
    |false =>
     rw[hxv]at hxb HE hv3
     clear hxv
     have hn3lt:=hn3.lt
     go_wp2_with (first|(with_reducible (go_at_call 81);with_reducible refine(HT.out).mono ?_;rintro e w4' ⟨rfl,hxt⟩)|(go_at_call 81;refine(HN.out _ (hc3.ext hxt)).mono ?_;rintro e w4 ⟨rfl,hx4'⟩;have hx4:=hxt.trans hx4';have hnlt4:=(hn3.ext hx4).lt;(obtain⟨m0,-⟩:=hxb.ext hx4 0 _ rfl);(obtain⟨m1,-⟩:=hxb.ext hx4 1 _ rfl);(obtain⟨m2,-⟩:=hxb.ext hx4 2 _ rfl);(obtain⟨n0,g0⟩:=hn3.ext hx4 0 _ rfl);(obtain⟨n1,g1⟩:=hn3.ext hx4 1 _ rfl);(obtain⟨n2,g2⟩:=hn3.ext hx4 2 _ rfl);(obtain⟨n3,g3⟩:=hn3.ext hx4 3 _ rfl)))
     refine zga (hq3.trans (Chg.of_ext hx4)) hlt (hc3.ext hx4) (hn3.ext hx4) _ (fun W2 r0 r1 r2 r3=>by simp[results,Tryz.results131,go_sem,r0,r1,r2,r3]) rfl fun W1 hW k1 k2 k3=>⟨k2,?_⟩
     rw[HE.out]
     refine⟨k1,_,rfl,_,_,_,_,rfl,?_⟩
     have hs:=zyj 73 (hv3.move (Chg.of_ext hx4) (Chg.refl _ _) k3) (show w.heap.size≤W1.heap.size by omega)
     rw[hW]at hs
     exact zf9 (l:=[x]) (c:=1) (by decide) (by decide) (Nat.le_refl _) hs
end
section
variable {cb:Nat}{l:List Tok}
theorem zyn (hl:l.length≤1073741824) (hnel:0<l.length){ks:List Tok}{w:World}(h:Cur cb l w ks) (h3:(zt ks).kind≠3) :
  Calls Tryz.prog 131 #[.pointer (some ⟨cb,0,none⟩)] w (zu zc7 cb l w (za3 ks)):=by
 have HE:=Lib.hid (zq7 (ks:=ks) (fun h=>h3 h.1))
 have HP:=Lib.hid (fun w' (hx:Ext w w')=>zab hl (h.ext hx))
 have HC:=Lib.hid h
 have hlt:=h.lt
 clear h
 generalize zt ks=t at *
 obtain⟨kd,tx,ta⟩:=t
 simp only at h3
 have q1:(kd==3)=false:=by rw[beq_eq_false_iff_ne];exact h3
 clear h3
 obtain⟨W,hW⟩:∃W,W=w.alloc (.cells #[.int .i64 0,.slice none 0 0,.slice none 0 0,.slice none 0 0] 29):=⟨_,rfl⟩
 have hx:Ext w W:=by rw[hW];exact zb _ _
 have hnew:Own W w.heap.size [.int .i64 0,.slice none 0 0,.slice none 0 0,.slice none 0 0]:=by rw[hW];exact own4 w _ _ _ _ _
 go_enter Tryz.func131,Tryz.ntmps131
 go_upto_region 10 with (rw[←hW];clear hW;go_at_call 80;refine(HP.out _ hx).mono ?_;rintro e w1 ⟨rfl,hx1⟩;simp only[Tok.vals])
 obtain⟨V,hV⟩:∃V,V=w1.alloc (.cells #[.int .i64 kd,.string tx,.int .i64 ta] 77):=⟨_,rfl⟩
 have hx3:Ext w V:=by rw[hV];exact(hx.trans hx1).alloc _
 have hnV:Own V w.heap.size [.int .i64 0,.slice none 0 0,.slice none 0 0,.slice none 0 0]:=by rw[hV];exact(hnew.ext hx1).ext (zb _ _)
 rw[←hV]
 clear hV hx hx1 hnew HP
 generalize w1.heap.size=tb
 have hcV:=HC.out.ext hx3
 have hnlt:=hnV.lt
 have hle:=hx3.size
 have HT:=Lib.hid (zey hl hnel ks.length ks (Nat.le_refl _) V hcV)
 unfold zu at HT
 cases hrt:za2 ks with
 |bad r =>
  rw[hrt]at HT HE
  clear hrt
  go_wp2_with (go_at_call 168;refine(HT.out).mono ?_;rintro e w3 ⟨hx4,rfl⟩)
  refine⟨rfl,Chg.trans (Chg.of_ext hx3) hx4,?_⟩
  rw[HE.out];rfl
 |ok x r =>
  rw[hrt]at HT HE
  simp only[Rd.bind_ok]at HE
  clear hrt
  go_upto_region 11 with (go_at_call 168;refine(HT.out).mono ?_;rintro e w3 ⟨hx4,hc4,v,rfl,xa,xb,xc,rfl,hv⟩;(have hv':=hv);(obtain⟨ea,ec,rfl,rfl,rfl,hnsz,hal,hes⟩:=hv'.form);clear hv' hes)
  obtain⟨V3,hV3⟩:∃V3,V3=w3.alloc (.cells #[.bool x.var,.string x.name,.slice ea x.args.length ec] 73):=⟨_,rfl⟩
  have hq3:Chg [cb] w V3:=by rw[hV3];exact(Chg.trans (Chg.of_ext hx3) hx4).alloc _
  have hc3:Cur cb l V3 r:=by rw[hV3];exact hc4.ext (zb _ _)
  have hne:w.heap.size≠cb:=by omega
  have hn3:Own V3 w.heap.size [.int .i64 0,.slice none 0 0,.slice none 0 0,.slice none 0 0]:=by rw[hV3];exact(hnV.chg hx4 (by simpa using hne)).ext (zb _ _)
  have hxb:Own V3 w3.heap.size [.bool x.var,.string x.name,.slice ea x.args.length ec]:=by rw[hV3];exact own3 w3 _ _ _ _
  have hv3:IsEx (fun g=>w.heap.size≤g∧g≠w.heap.size∧g≠cb) V3 (.bool x.var) (.string x.name) (.slice ea x.args.length ec) x:=by rw[hV3];exact(Dat.Fs.mono hv (fun g hg _=>⟨Nat.le_trans hle hg,by omega,by omega⟩)).ext (zb _ _)
  have hxn:w.heap.size<w3.heap.size:=Nat.lt_of_lt_of_le hnlt hx4.size
  rw[←hV3]
  clear hV3 hx3 hx4 hc4 hv hnV hcV HC HT hnlt hle
  generalize w3.heap.size=xb at *
  have hcx:xb≠cb:=by omega
  clear w3 V
  unfold zg4 at HE
  cases ht:zx sEq r with
  |some r1 =>
   rw[ht]at HE
   simp only at HE
   have HT:=Lib.hid (zbt hl hc3 ht)
   have HT2:=Lib.hid (fun w' (h:Cur cb l w' r1)=>zey hl hnel r1.length r1 (Nat.le_refl _) w' h)
   unfold zu at HT2
   simp only[sEq]at HT
   clear ht
   cases hr2:za2 r1 with
   |bad r2 =>
    rw[hr2]at HT2 HE
    clear hr2
    go_upto_region 12 with (go_at_call 81;refine(HT.out).mono ?_;rintro e w4 ⟨rfl,hc4,hx4⟩)
    have hxb4:=hxb.chg hx4 (by simpa using hcx)
    obtain⟨m0,-⟩:=hxb4 0 _ rfl
    obtain⟨m1,-⟩:=hxb4 1 _ rfl
    obtain⟨m2,-⟩:=hxb4 2 _ rfl
    refine wp_region_any (by kernel_rfl) ?_
    change wpAny _ _ _ _ _ _ _ (World.drew _)
    refine wpAny_take (i:=1) (v:=.pointer (some ⟨cb,0,none⟩)) rfl (by kernel_rfl) (by kernel_rfl) (by kernel_rfl) (fun _ _ _ h=>h) (Or.inl ⟨by rfl,fun w0=>?_⟩) ?_
    ·go_simp
    refine wpAny_ready (rs:=[0,2]) (by kernel_rfl) (by simp) ?_
    refine AllReady.cons rfl (fun K hK=>?_) (AllReady.cons rfl (fun K hK=>?_) AllReady.nil)
    ·go_simp
     refine hK _ _ ?_
     clear hK K
     refine wpAny_ready (rs:=[2]) (by kernel_rfl) (by simp) ?_
     refine AllReady.cons rfl (fun K hK=>?_) AllReady.nil
     go_simp
     refine(HT2.out _ (hc4.ext (Ext.drew (Below.refl _ _)))).mono ?_
     rintro e w5 ⟨hx5,rfl⟩
     exact⟨rfl,((hq3.trans hx4).trans (Chg.trans (Chg.of_ext (Ext.drew (Below.refl _ _))) hx5)),(by rw[HE.out];rfl)⟩
    ·go_simp
     refine(HT2.out _ (hc4.ext (Ext.drew (Below.refl _ _)))).mono ?_
     rintro e w5 ⟨hx5,rfl⟩
     exact⟨rfl,((hq3.trans hx4).trans (Chg.trans (Chg.of_ext (Ext.drew (Below.refl _ _))) hx5)),(by rw[HE.out];rfl)⟩
   |ok y r2 =>
    rw[hr2]at HT2 HE
    clear hr2
    go_upto_region 12 with (go_at_call 81;refine(HT.out).mono ?_;rintro e w4 ⟨rfl,hc4,hx4⟩)
    have hxb4:=hxb.chg hx4 (by simpa using hcx)
    have hn4:=hn3.chg hx4 (by simpa using hne)
    obtain⟨m0,-⟩:=hxb4 0 _ rfl
    obtain⟨m1,-⟩:=hxb4 1 _ rfl
    obtain⟨m2,-⟩:=hxb4 2 _ rfl
    have hnlt:=hn4.lt
    go_region_with (go_at_call 168;refine(HT2.out _ (hc4.ext (Ext.drew (Below.refl _ _)))).mono ?_;rintro e w5 ⟨hx5,hc5,v,rfl,ya,yb,yc,rfl,hy⟩;have hx5':=Chg.trans (Chg.of_ext (Ext.drew (Below.refl (World.heap w4).size w4))) hx5;clear m0 m1 m2;(have hxb5:=hxb4.chg hx5' (by simpa using hcx));(have hn5:=hn4.chg hx5' (by simpa using hne));(obtain⟨m0,-⟩:=hxb5 0 _ rfl);(obtain⟨m1,-⟩:=hxb5 1 _ rfl);(obtain⟨m2,-⟩:=hxb5 2 _ rfl);(obtain⟨n0,g0⟩:=hn5 0 _ rfl);(obtain⟨n1,g1⟩:=hn5 1 _ rfl);(obtain⟨n2,g2⟩:=hn5 2 _ rfl);(obtain⟨n3,g3⟩:=hn5 3 _ rfl);have hnlt5:=hn5.lt;(obtain⟨ya',yc',hya,hyb,hyc,hysz,hyal,-⟩:=hy.form);subst hya;subst hyb;subst hyc)
    all_goals
     go_wp2
     refine zga ((hq3.trans hx4).trans hx5') hlt hc5 hn5 _ (fun W2 r0 r1 r2 r3=>by simp[results,Tryz.results131,go_sem,r0,r1,r2,r3]) rfl fun W1 hW k1 k2 k3=>⟨k2,?_⟩
     rw[HE.out]
     refine⟨k1,_,rfl,_,_,_,_,rfl,?_⟩
     have hs:=zo4 73 (hv3.move hx4 hx5' k3) (hy.moved (B:=w4.drew.heap.size) (show w.heap.size<w4.heap.size from hnlt) k3) (show w.heap.size≤W1.heap.size by omega)
     rw[hW]at hs
     exact zf9 (l:=[x,y]) (c:=2) (by decide) (by decide) (Nat.le_refl _) hs
  |none =>
   rw[ht]at HE
   simp only at HE
   have HT:=Lib.hid (za9 hl hc3 ht)
   simp only[sEq]at HT
   clear ht
   cases ht2:zx sNe r with
   |some r1 =>
    rw[ht2]at HE
    simp only at HE
    have HN:=Lib.hid (fun w' (h:Cur cb l w' r)=>zbt hl h ht2)
    have HT2:=Lib.hid (fun w' (h:Cur cb l w' r1)=>zey hl hnel r1.length r1 (Nat.le_refl _) w' h)
    have HO:=Lib.hid (fun b w=>zen 5 (some ⟨b,0,none⟩) 1 1 w)
    unfold zu at HT2
    simp only[sNe]at HN
    clear ht2
    cases hr2:za2 r1 with
    |bad r2 =>
     rw[hr2]at HT2 HE
     clear hr2
     go_upto_region 14 with (first|(with_reducible (go_at_call 81);with_reducible refine(HT.out).mono ?_;rintro e w4' ⟨rfl,hxt⟩)|(go_at_call 81;refine(HN.out _ (hc3.ext hxt)).mono ?_;rintro e w4 ⟨rfl,hc4,hx4'⟩;have hx4:=Chg.trans (Chg.of_ext hxt) hx4'))
     have hxb4:=hxb.chg hx4 (by simpa using hcx)
     obtain⟨m0,-⟩:=hxb4 0 _ rfl
     obtain⟨m1,-⟩:=hxb4 1 _ rfl
     obtain⟨m2,-⟩:=hxb4 2 _ rfl
     refine wp_region_any (by kernel_rfl) ?_
     change wpAny _ _ _ _ _ _ _ (World.drew _)
     refine wpAny_take (i:=1) (v:=.pointer (some ⟨cb,0,none⟩)) rfl (by kernel_rfl) (by kernel_rfl) (by kernel_rfl) (fun _ _ _ h=>h) (Or.inl ⟨by rfl,fun w0=>?_⟩) ?_
     ·go_simp
     refine wpAny_ready (rs:=[0,2]) (by kernel_rfl) (by simp) ?_
     refine AllReady.cons rfl (fun K hK=>?_) (AllReady.cons rfl (fun K hK=>?_) AllReady.nil)
     ·go_simp
      refine hK _ _ ?_
      clear hK K
      refine wpAny_ready (rs:=[2]) (by kernel_rfl) (by simp) ?_
      refine AllReady.cons rfl (fun K hK=>?_) AllReady.nil
      go_simp
      refine(HT2.out _ (hc4.ext (Ext.drew (Below.refl _ _)))).mono ?_
      rintro e w5 ⟨hx5,rfl⟩
      exact⟨rfl,((hq3.trans hx4).trans (Chg.trans (Chg.of_ext (Ext.drew (Below.refl _ _))) hx5)),(by rw[HE.out];rfl)⟩
     ·go_simp
      refine(HT2.out _ (hc4.ext (Ext.drew (Below.refl _ _)))).mono ?_
      rintro e w5 ⟨hx5,rfl⟩
      exact⟨rfl,((hq3.trans hx4).trans (Chg.trans (Chg.of_ext (Ext.drew (Below.refl _ _))) hx5)),(by rw[HE.out];rfl)⟩
    |ok y r2 =>
     rw[hr2]at HT2 HE
     clear hr2
     go_upto_region 14 with (first|(with_reducible (go_at_call 81);with_reducible refine(HT.out).mono ?_;rintro e w4' ⟨rfl,hxt⟩)|(go_at_call 81;refine(HN.out _ (hc3.ext hxt)).mono ?_;rintro e w4 ⟨rfl,hc4,hx4'⟩;have hx4:=Chg.trans (Chg.of_ext hxt) hx4'))
     have hxb4:=hxb.chg hx4 (by simpa using hcx)
     have hn4:=hn3.chg hx4 (by simpa using hne)
     obtain⟨m0,-⟩:=hxb4 0 _ rfl
     obtain⟨m1,-⟩:=hxb4 1 _ rfl
     obtain⟨m2,-⟩:=hxb4 2 _ rfl
     have hnlt:=hn4.lt
     go_region_with (first|(go_at_call 168;refine(HT2.out _ (hc4.ext (Ext.drew (Below.refl _ _)))).mono ?_;rintro e w5 ⟨hx5,hc5,v,rfl,ya,yb,yc,rfl,hy⟩;have hx5':=Chg.trans (Chg.of_ext (Ext.drew (Below.refl (World.heap w4).size w4))) hx5;clear m0 m1 m2;(have hxb5:=hxb4.chg hx5' (by simpa using hcx));(have hn5:=hn4.chg hx5' (by simpa using hne));(obtain⟨m0,-⟩:=hxb5 0 _ rfl);(obtain⟨m1,-⟩:=hxb5 1 _ rfl);(obtain⟨m2,-⟩:=hxb5 2 _ rfl);have hnlt5:=hn5.lt;(obtain⟨ya',yc',hya,hyb,hyc,hysz,hyal,-⟩:=hy.form);subst hya;subst hyb;subst hyc)|(go_at_call 82;refine(HO.out _ _).mono ?_;rintro e w6 ⟨rfl,hx6'⟩;have hx6:=((zb _ _).trans (zb _ _)).trans hx6';(obtain⟨n0,g0⟩:=hn5.ext hx6 0 _ rfl);(obtain⟨n1,g1⟩:=hn5.ext hx6 1 _ rfl);(obtain⟨n2,g2⟩:=hn5.ext hx6 2 _ rfl);(obtain⟨n3,g3⟩:=hn5.ext hx6 3 _ rfl)))
     all_goals
      go_wp2
      refine za4 (((hq3.trans hx4).trans hx5').trans (Chg.of_ext hx6)) hlt (hc5.ext hx6) (hn5.ext hx6) (fun W2 r0 r1 r2 r3=>by simp[results,Tryz.results131,go_sem,r0,r1,r2,r3]) rfl fun W2 k1 k2 k3=>⟨k2,?_⟩
      rw[HE.out]
      refine⟨k1,_,rfl,_,_,_,_,rfl,?_⟩
      have hX:IsEx (fun g=>w.heap.size≤g∧g≠w.heap.size) w5 _ _ _ x:=Dat.Fs.mono (Dat.Fs.chg hv3 (hx4.trans hx5') (fun g hg=>by simpa using hg.2.2)) fun g hg _=>⟨hg.1,hg.2.1⟩
      have hY:IsEx (fun g=>w.heap.size≤g∧g≠w.heap.size) w5 _ _ _ y:=Dat.Fs.mono hy fun g hg _=>(show w.heap.size≤g∧g≠w.heap.size by have:w4.heap.size≤g:=hg;omega)
      have h1:=zf9 (op:=4) (l:=[x,y]) (c:=2) (by decide) (by decide) (Nat.le_refl _) (zo4 73 hX hY ⟨by omega,by omega⟩)
      have h2:=zi5 29 h1 (show _∧_ by simp;omega)
      have h3:=zcv (op:=5) (l:=[fEq x y]) (c:=1) (by decide) (by decide) (Nat.le_refl _) (IsFms.ext h2 hx6')
      have h4:=Dat.Fs.mono (Dat.Fs.chg h3 k3 (fun g hg=>by simpa using hg.2)) (Q:=fun g=>w.heap.size≤g) fun g hg _=>hg.1
      rw[World.size_alloc]at h4
      exact h4
   |none =>
    rw[ht2]at HE
    simp only at HE
    have HN:=Lib.hid (fun w' (h:Cur cb l w' r)=>za9 hl h ht2)
    simp only[sNe]at HN
    clear ht2
    have HB:=Lib.hid (fun w' (h:Cur cb l w' r)=>zg2 hl hnel h)
    cases hxv:x.var with
    |true =>
     rw[hxv]at hxb HE
     clear hxv
     go_wp2_with (first|(with_reducible (go_at_call 81);with_reducible refine(HT.out).mono ?_;rintro e w4' ⟨rfl,hxt⟩)|(go_at_call 81;refine(HN.out _ (hc3.ext hxt)).mono ?_;rintro e w4 ⟨rfl,hx4'⟩;have hx4:=hxt.trans hx4';(obtain⟨m0,-⟩:=hxb.ext hx4 0 _ rfl))|(go_at_call 113;refine(HB.out _ (hc3.ext hx4)).mono ?_;rintro e w5 ⟨rfl,hx5⟩))
     exact⟨rfl,(hq3.trans (Chg.of_ext (hx4.trans hx5))),(by rw[HE.out];rfl)⟩
    |false =>
     rw[hxv]at hxb HE hv3
     clear hxv
     have hn3lt:=hn3.lt
     go_wp2_with (first|(with_reducible (go_at_call 81);with_reducible refine(HT.out).mono ?_;rintro e w4' ⟨rfl,hxt⟩)|(go_at_call 81;refine(HN.out _ (hc3.ext hxt)).mono ?_;rintro e w4 ⟨rfl,hx4'⟩;have hx4:=hxt.trans hx4';have hnlt4:=(hn3.ext hx4).lt;(obtain⟨m0,-⟩:=hxb.ext hx4 0 _ rfl);(obtain⟨m1,-⟩:=hxb.ext hx4 1 _ rfl);(obtain⟨m2,-⟩:=hxb.ext hx4 2 _ rfl);(obtain⟨n0,g0⟩:=hn3.ext hx4 0 _ rfl);(obtain⟨n1,g1⟩:=hn3.ext hx4 1 _ rfl);(obtain⟨n2,g2⟩:=hn3.ext hx4 2 _ rfl);(obtain⟨n3,g3⟩:=hn3.ext hx4 3 _ rfl)))
     refine zga (hq3.trans (Chg.of_ext hx4)) hlt (hc3.ext hx4) (hn3.ext hx4) _ (fun W2 r0 r1 r2 r3=>by simp[results,Tryz.results131,go_sem,r0,r1,r2,r3]) rfl fun W1 hW k1 k2 k3=>⟨k2,?_⟩
     rw[HE.out]
     refine⟨k1,_,rfl,_,_,_,_,rfl,?_⟩
     have hs:=zyj 73 (hv3.move (Chg.of_ext hx4) (Chg.refl _ _) k3) (show w.heap.size≤W1.heap.size by omega)
     rw[hW]at hs
     exact zf9 (l:=[x]) (c:=1) (by decide) (by decide) (Nat.le_refl _) hs
end
end Go.Proofs.YtnclgkdpafhogaaGreat
