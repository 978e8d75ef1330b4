/- The reference's Reader: unit, Formula. Condition: a row of at most 2^30 tokens, not empty.
The reference's Read: a formula from tokens on. Condition: a row of at most 2097152 tokens. -/
import Derived.Test.YtnclgkdpafhogaaGreatQc22
import Derived.Test.YtnclgkdpafhogaaGreatQc16
import Derived.Test.YtnclgkdpafhogaaGreatQc19
set_option maxHeartbeats 16000000
set_option maxRecDepth 100000
namespace Go.Proofs.YtnclgkdpafhogaaGreat
open Go.ChangeShapes Go.WideShapes Go.ChangeAt Go.RowKit
section
variable {rb:Nat}{l:List Tok}
theorem zpb (_hl:l.length≤1073741820){k:List Tok}{w:World}(h:RSt rb l w (.bad k)) :
  Calls Tryz.prog 83 #[.pointer (some ⟨rb,0,none⟩)] w (zar za8 rb l w (Rd.bad k:Rd Fm)):=by
 have hlt:=h.lt
 obtain⟨W,hW⟩:∃W,W=w.alloc (.cells #[.int .i64 0,.slice none 0 0,.slice none 0 0,.slice none 0 0] 29):=⟨_,rfl⟩
 have hx:Ext w W:=by rw[hW];exact zd _ _
 have hnew:Own W w.heap.size [.int .i64 0,.slice none 0 0,.slice none 0 0,.slice none 0 0]:=by rw[hW];exact own4 w _ _ _ _ _
 have hst:=h.ext hx
 obtain⟨a,c,p,z,hown,hc,htk,hp,rfl⟩:=h.ext hx
 obtain⟨z2,y2⟩:=hown 2 _ rfl
 clear hown htk h
 go_enter Tryz.func83,Tryz.ntmps83
 go_upto_region 1 with fail
 rw[←hW]
 clear hW
 have hVl:=hst.lt
 have hnl:=hnew.lt
 obtain⟨⟨n0,g0⟩,⟨n1,g1⟩,⟨n2,g2⟩,⟨n3,g3⟩⟩:=hnew.cells4
 go_wp2
 refine zeg (Chg.of_ext hx) (Nat.le_refl _) hlt hst hnew (fun W2 r0 r1 r2 r3=>by simp[results,Tryz.results83,go_sem,r0,r1,r2,r3]) rfl fun W2 k1 k2 k3=>⟨k2,?_⟩
 exact⟨k1,_,.mk 0 [] [] [],rfl,⟨_,_,_,_,rfl,IsFm.mk' (v:=[]) (t:=[]) (l:=[]) (by decide) (by decide) (Nat.le_refl _) (Nat.le_refl _) (Nat.le_refl _) zhv zgl zdu⟩,fun x k he=>by cases he⟩
theorem zvu (hl:l.length≤1073741820){n:Nat}(ih:zbn rb l n){u:Unit}{ks:List Tok}(hkn:ks.length≤n+1){w:World}(h:RSt rb l w (.ok u ks)){r:List Tok}(h1:zp sNot ks=some r) :
  Calls Tryz.prog 83 #[.pointer (some ⟨rb,0,none⟩)] w (zar za8 rb l w (zi ks)):=by
 have hl2:l.length≤1073741824:=by omega
 have HE:=Lib.hid (show zi ks=(zi r).map fNot by rw[zcz];unfold zat;rw[h1])
 have HT1:=Lib.hid (fun w' (h:RSt rb l w' (.ok u ks))=>(by have:=zal hl2 h sNot;rw[(z7 h1).1,(z7 h1).2]at this;exact this:Calls Tryz.prog 132 #[.pointer (some ⟨rb,0,none⟩),.string sNot] w' fun e w''=>e=.returned (.bool true)∧RSt rb l w'' (.ok () r)∧Chg [rb] w' w''))
 simp only[sNot]at HT1
 have hrl:=zu h1
 clear h1
 have hlt:=h.lt
 have hne:w.heap.size≠rb:=by omega
 obtain⟨W,hW⟩:∃W,W=w.alloc (.cells #[.int .i64 0,.slice none 0 0,.slice none 0 0,.slice none 0 0] 29):=⟨_,rfl⟩
 have hx0:Ext w W:=by rw[hW];exact zd _ _
 have hnW:Own W w.heap.size [.int .i64 0,.slice none 0 0,.slice none 0 0,.slice none 0 0]:=by rw[hW];exact own4 w _ _ _ _ _
 have hstW:=h.ext hx0
 have hq0:Chg [rb] w W:=Chg.of_ext hx0
 obtain⟨a,c,p,hown,-,-,-,-,-⟩:=hstW.good
 obtain⟨z2,y2⟩:=hown 2 _ rfl
 clear hown h
 go_enter Tryz.func83,Tryz.ntmps83
 go_upto_region 1 with fail
 rw[←hW]
 clear hW
 have hVl:=hstW.lt
 go_upto_region 4 with (first|(go_at_call 132;with_reducible refine(HT1.out _ hstW).mono ?_;rintro e w1 ⟨rfl,hst1,hx1⟩;have hq1:=hq0.trans hx1;have hn1:=hnW.chg hx1 (by simpa using hne)))
 have hstY:=hst1
 have hqY:=hq1
 have hnY:=hn1
 clear HT1 z2 y2 hx1
 generalize w1=Y at *
 have hnl:=hnY.lt
 have HX:=Lib.hid (ih (.ok () r) (by simp only[toGo];omega) Y hstY)
 unfold zar at HX
 simp only[Rd.bind_ok]at HX
 go_wp2_with (first
  |(go_at_call 86;refine(zc8 5 (P:=fun g=>w.heap.size<g) (l:=[g]) (c:=1) hFo (by simp)).mono ?_;rintro e w8 ⟨⟨a8,c8,rfl,hc8,hf8⟩,hx8⟩;have hx8':=(zd _ (.cells #[.int .i64 g.op,.slice b1 g.vars.length c1,.slice b2 g.terms.length c2,.slice b3 g.args.length c3] 29)).trans hx8;have hn8:=hn6.ext hx8';have hst8:=hst6.ext hx8';have hq8:=hq6.trans (Chg.of_ext hx8');(have hf8':IsFms (fun g=>w.heap.size<g) w8 a8 [g]:=Dat.Rows.mono hf8 fun g hg _=>by simp at hg;omega);simp only[List.length_cons,List.length_nil,Nat.zero_add];simp only[List.length_cons,List.length_nil,Nat.zero_add]at hc8;(obtain⟨⟨n0,g0⟩,⟨n1,g1⟩,⟨n2,g2⟩,⟨n3,g3⟩⟩:=hn8.cells4);have hnl8:=hn8.lt)
  |(go_at_call 83;refine(HX.out).mono ?_;rintro e w6 ⟨hx6,hst6,v6,g,rfl,⟨xa,xb,xc,xd,rfl,hg⟩,hval⟩;(obtain⟨b1,c1,b2,c2,b3,c3,rfl,rfl,rfl,rfl⟩:=zbb hg);have hn6:=hnY.chg hx6 (by simpa using hne);have hnl6:=hn6.lt;have hq6:=hqY.trans hx6;have hFo:=zd8 29 (Dat.Fs.mono hg (Q:=fun g=>w.heap.size<g) fun g hg _=>(by omega)) hnl6))
 refine zeg hq8 (Nat.le_refl _) hlt hst8 hn8 (fun W2 r0 r1 r2 r3=>by simp[results,Tryz.results83,go_sem,r0,r1,r2,r3]) rfl fun W2 k1 k2 k3=>⟨k2,?_⟩
 rw[HE.out]
 refine⟨?_,_,fNot g,rfl,⟨_,_,_,_,rfl,zbc (op:=5) (l:=[g]) (by decide) (by decide) hc8 (Dat.Rows.mono (Dat.Rows.chg hf8' k3 (fun g hg=>by simp;omega)) fun g hg _=>by omega)⟩,fun x k he=>?_⟩
 ·cases hr:zi r with
  |bad k=>rw[hr]at k1;exact k1
  |ok z k=>rw[hr]at k1;exact k1
 ·cases hr:zi r with
  |bad k=>rw[hr]at he;cases he
  |ok z k=>rw[hr]at he;injection he with he;rw[←he,hval z k hr]
theorem zvv (hl:l.length≤1073741820){n:Nat}(ih:zbn rb l n){u:Unit}{ks:List Tok}(hkn:ks.length≤n+1){w:World}(h:RSt rb l w (.ok u ks)) (h1:zp sNot ks=none){r:List Tok}(h2:zp sAll ks=some r) :
  Calls Tryz.prog 83 #[.pointer (some ⟨rb,0,none⟩)] w (zar za8 rb l w (zi ks)):=by
 have hl2:l.length≤1073741824:=by omega
 have HE:=Lib.hid (show zi ks=z8 zi 11 r by rw[zcz];unfold zat;rw[h1,h2])
 have HT1:=Lib.hid (fun w' (h:RSt rb l w' (.ok u ks))=>(by have:=zal hl2 h sNot;rw[(zn h1).1,(zn h1).2]at this;exact this:Calls Tryz.prog 132 #[.pointer (some ⟨rb,0,none⟩),.string sNot] w' fun e w''=>e=.returned (.bool false)∧RSt rb l w'' (.ok () ks)∧Chg [rb] w' w''))
 simp only[sNot]at HT1
 have HT2:=Lib.hid (fun w' (h:RSt rb l w' (.ok u ks))=>(by have:=zal hl2 h sAll;rw[(z7 h2).1,(z7 h2).2]at this;exact this:Calls Tryz.prog 132 #[.pointer (some ⟨rb,0,none⟩),.string sAll] w' fun e w''=>e=.returned (.bool true)∧RSt rb l w'' (.ok () r)∧Chg [rb] w' w''))
 simp only[sAll]at HT2
 have hrl:=zu h2
 clear h1 h2
 have hlt:=h.lt
 have hne:w.heap.size≠rb:=by omega
 obtain⟨W,hW⟩:∃W,W=w.alloc (.cells #[.int .i64 0,.slice none 0 0,.slice none 0 0,.slice none 0 0] 29):=⟨_,rfl⟩
 have hx0:Ext w W:=by rw[hW];exact zd _ _
 have hnW:Own W w.heap.size [.int .i64 0,.slice none 0 0,.slice none 0 0,.slice none 0 0]:=by rw[hW];exact own4 w _ _ _ _ _
 have hstW:=h.ext hx0
 have hq0:Chg [rb] w W:=Chg.of_ext hx0
 obtain⟨a,c,p,hown,-,-,-,-,-⟩:=hstW.good
 obtain⟨z2,y2⟩:=hown 2 _ rfl
 clear hown h
 go_enter Tryz.func83,Tryz.ntmps83
 go_upto_region 1 with fail
 rw[←hW]
 clear hW
 have hVl:=hstW.lt
 go_upto_region 6 with (first|(go_at_call 132;with_reducible refine(HT1.out _ hstW).mono ?_;rintro e w1 ⟨rfl,hst1,hx1⟩;have hq1:=hq0.trans hx1;have hn1:=hnW.chg hx1 (by simpa using hne))|(go_at_call 132;with_reducible refine(HT2.out _ hst1).mono ?_;rintro e w2 ⟨rfl,hst2,hx2⟩;have hq2:=hq1.trans hx2;have hn2:=hn1.chg hx2 (by simpa using hne)))
 have hstY:=hst2
 have hqY:=hq2
 have hnY:=hn2
 clear HT1 HT2 z2 y2 hx1 hx2
 generalize w2=Y at *
 have hnl:=hnY.lt
 have HX:=Lib.hid (zlr hl ih (by omega) hstY 11 (by decide) (by decide))
 unfold zar at HX
 go_wp2_with (go_at_call 133;refine(HX.out).mono ?_;rintro e w6 ⟨hx6,hst6,v6,g,rfl,⟨xa,xb,xc,xd,rfl,hg⟩,hval⟩;(obtain⟨b1,c1,b2,c2,b3,c3,rfl,rfl,rfl,rfl⟩:=zbb hg);have hn6:=hnY.chg hx6 (by simpa using hne);have hnl6:=hn6.lt;have hq6:=hqY.trans hx6;(obtain⟨⟨n0,g0⟩,⟨n1,g1⟩,⟨n2,g2⟩,⟨n3,g3⟩⟩:=hn6.cells4))
 refine zeg hq6 (Nat.le_refl _) hlt hst6 hn6 (fun W2 r0 r1 r2 r3=>by simp[results,Tryz.results83,go_sem,r0,r1,r2,r3]) rfl fun W2 k1 k2 k3=>⟨k2,?_⟩
 rw[HE.out]
 exact⟨k1,_,g,rfl,⟨_,_,_,_,rfl,Dat.Fs.mono (Dat.Fs.chg hg k3 (fun g hg=>by simp;omega)) fun g hg _=>by omega⟩,hval⟩
theorem zub (hl:l.length≤1073741820){n:Nat}(ih:zbn rb l n){u:Unit}{ks:List Tok}(hkn:ks.length≤n+1){w:World}(h:RSt rb l w (.ok u ks)) (h1:zp sNot ks=none) (h2:zp sAll ks=none){r:List Tok}(h3:zp zdv ks=some r) :
  Calls Tryz.prog 83 #[.pointer (some ⟨rb,0,none⟩)] w (zar za8 rb l w (zi ks)):=by
 have hl2:l.length≤1073741824:=by omega
 have HE:=Lib.hid (show zi ks=z8 zi 12 r by rw[zcz];unfold zat;rw[h1,h2,h3])
 have HT1:=Lib.hid (fun w' (h:RSt rb l w' (.ok u ks))=>(by have:=zal hl2 h sNot;rw[(zn h1).1,(zn h1).2]at this;exact this:Calls Tryz.prog 132 #[.pointer (some ⟨rb,0,none⟩),.string sNot] w' fun e w''=>e=.returned (.bool false)∧RSt rb l w'' (.ok () ks)∧Chg [rb] w' w''))
 simp only[sNot]at HT1
 have HT2:=Lib.hid (fun w' (h:RSt rb l w' (.ok u ks))=>(by have:=zal hl2 h sAll;rw[(zn h2).1,(zn h2).2]at this;exact this:Calls Tryz.prog 132 #[.pointer (some ⟨rb,0,none⟩),.string sAll] w' fun e w''=>e=.returned (.bool false)∧RSt rb l w'' (.ok () ks)∧Chg [rb] w' w''))
 simp only[sAll]at HT2
 have HT3:=Lib.hid (fun w' (h:RSt rb l w' (.ok u ks))=>(by have:=zal hl2 h zdv;rw[(z7 h3).1,(z7 h3).2]at this;exact this:Calls Tryz.prog 132 #[.pointer (some ⟨rb,0,none⟩),.string zdv] w' fun e w''=>e=.returned (.bool true)∧RSt rb l w'' (.ok () r)∧Chg [rb] w' w''))
 simp only[zdv]at HT3
 have hrl:=zu h3
 clear h1 h2 h3
 have hlt:=h.lt
 have hne:w.heap.size≠rb:=by omega
 obtain⟨W,hW⟩:∃W,W=w.alloc (.cells #[.int .i64 0,.slice none 0 0,.slice none 0 0,.slice none 0 0] 29):=⟨_,rfl⟩
 have hx0:Ext w W:=by rw[hW];exact zd _ _
 have hnW:Own W w.heap.size [.int .i64 0,.slice none 0 0,.slice none 0 0,.slice none 0 0]:=by rw[hW];exact own4 w _ _ _ _ _
 have hstW:=h.ext hx0
 have hq0:Chg [rb] w W:=Chg.of_ext hx0
 obtain⟨a,c,p,hown,-,-,-,-,-⟩:=hstW.good
 obtain⟨z2,y2⟩:=hown 2 _ rfl
 clear hown h
 go_enter Tryz.func83,Tryz.ntmps83
 go_upto_region 1 with fail
 rw[←hW]
 clear hW
 have hVl:=hstW.lt
 go_upto_region 8 with (first|(go_at_call 132;with_reducible refine(HT1.out _ hstW).mono ?_;rintro e w1 ⟨rfl,hst1,hx1⟩;have hq1:=hq0.trans hx1;have hn1:=hnW.chg hx1 (by simpa using hne))|(go_at_call 132;with_reducible refine(HT2.out _ hst1).mono ?_;rintro e w2 ⟨rfl,hst2,hx2⟩;have hq2:=hq1.trans hx2;have hn2:=hn1.chg hx2 (by simpa using hne))|(go_at_call 132;with_reducible refine(HT3.out _ hst2).mono ?_;rintro e w3 ⟨rfl,hst3,hx3⟩;have hq3:=hq2.trans hx3;have hn3:=hn2.chg hx3 (by simpa using hne)))
 have hstY:=hst3
 have hqY:=hq3
 have hnY:=hn3
 clear HT1 HT2 HT3 z2 y2 hx1 hx2 hx3
 generalize w3=Y at *
 have hnl:=hnY.lt
 have HX:=Lib.hid (zlr hl ih (by omega) hstY 12 (by decide) (by decide))
 unfold zar at HX
 go_wp2_with (go_at_call 133;refine(HX.out).mono ?_;rintro e w6 ⟨hx6,hst6,v6,g,rfl,⟨xa,xb,xc,xd,rfl,hg⟩,hval⟩;(obtain⟨b1,c1,b2,c2,b3,c3,rfl,rfl,rfl,rfl⟩:=zbb hg);have hn6:=hnY.chg hx6 (by simpa using hne);have hnl6:=hn6.lt;have hq6:=hqY.trans hx6;(obtain⟨⟨n0,g0⟩,⟨n1,g1⟩,⟨n2,g2⟩,⟨n3,g3⟩⟩:=hn6.cells4))
 refine zeg hq6 (Nat.le_refl _) hlt hst6 hn6 (fun W2 r0 r1 r2 r3=>by simp[results,Tryz.results83,go_sem,r0,r1,r2,r3]) rfl fun W2 k1 k2 k3=>⟨k2,?_⟩
 rw[HE.out]
 exact⟨k1,_,g,rfl,⟨_,_,_,_,rfl,Dat.Fs.mono (Dat.Fs.chg hg k3 (fun g hg=>by simp;omega)) fun g hg _=>by omega⟩,hval⟩
theorem zrq (hl:l.length≤1073741820){u:Unit}{ks:List Tok}{w:World}(h:RSt rb l w (.ok u ks)) :
  Calls Tryz.prog 135 #[.pointer (some ⟨rb,0,none⟩)] w (zar za8 rb l w (zap ks)):=by
 by_cases hc:(zq ks).kind=3∧((zq ks).text=zg7∨(zq ks).text=zd3)
 ·cases ks with
  |nil=>exact absurd hc.1 (by decide)
  |cons t r =>
   obtain⟨h3,h4|h4⟩:=hc
   ·exact zg0 hl h h3 true h4
   ·exact zg0 hl h h3 false h4
 ·exact zo8 hl h hc
theorem zls (hl:l.length≤1073741820){u:Unit}{ks:List Tok}{w:World}(h:RSt rb l w (.ok u ks)) (h1:zp sNot ks=none) (h2:zp sAll ks=none) (h3:zp zdv ks=none) (h4:zp za6 ks=none) :
  Calls Tryz.prog 83 #[.pointer (some ⟨rb,0,none⟩)] w (zar za8 rb l w (zi ks)):=by
 have hl2:l.length≤1073741824:=by omega
 have HE:=Lib.hid (show zi ks=zap ks by rw[zcz];unfold zat;rw[h1,h2,h3,h4])
 have HT1:=Lib.hid (fun w' (h:RSt rb l w' (.ok u ks))=>(by have:=zal hl2 h sNot;rw[(zn h1).1,(zn h1).2]at this;exact this:Calls Tryz.prog 132 #[.pointer (some ⟨rb,0,none⟩),.string sNot] w' fun e w''=>e=.returned (.bool false)∧RSt rb l w'' (.ok () ks)∧Chg [rb] w' w''))
 simp only[sNot]at HT1
 have HT2:=Lib.hid (fun w' (h:RSt rb l w' (.ok u ks))=>(by have:=zal hl2 h sAll;rw[(zn h2).1,(zn h2).2]at this;exact this:Calls Tryz.prog 132 #[.pointer (some ⟨rb,0,none⟩),.string sAll] w' fun e w''=>e=.returned (.bool false)∧RSt rb l w'' (.ok () ks)∧Chg [rb] w' w''))
 simp only[sAll]at HT2
 have HT3:=Lib.hid (fun w' (h:RSt rb l w' (.ok u ks))=>(by have:=zal hl2 h zdv;rw[(zn h3).1,(zn h3).2]at this;exact this:Calls Tryz.prog 132 #[.pointer (some ⟨rb,0,none⟩),.string zdv] w' fun e w''=>e=.returned (.bool false)∧RSt rb l w'' (.ok () ks)∧Chg [rb] w' w''))
 simp only[zdv]at HT3
 have HT4:=Lib.hid (fun w' (h:RSt rb l w' (.ok u ks))=>(by have:=zal hl2 h za6;rw[(zn h4).1,(zn h4).2]at this;exact this:Calls Tryz.prog 132 #[.pointer (some ⟨rb,0,none⟩),.string za6] w' fun e w''=>e=.returned (.bool false)∧RSt rb l w'' (.ok () ks)∧Chg [rb] w' w''))
 simp only[za6]at HT4
 clear h1 h2 h3 h4
 have hlt:=h.lt
 have hne:w.heap.size≠rb:=by omega
 obtain⟨W,hW⟩:∃W,W=w.alloc (.cells #[.int .i64 0,.slice none 0 0,.slice none 0 0,.slice none 0 0] 29):=⟨_,rfl⟩
 have hx0:Ext w W:=by rw[hW];exact zd _ _
 have hnW:Own W w.heap.size [.int .i64 0,.slice none 0 0,.slice none 0 0,.slice none 0 0]:=by rw[hW];exact own4 w _ _ _ _ _
 have hstW:=h.ext hx0
 have hq0:Chg [rb] w W:=Chg.of_ext hx0
 obtain⟨a,c,p,hown,-,-,-,-,-⟩:=hstW.good
 obtain⟨z2,y2⟩:=hown 2 _ rfl
 clear hown h
 go_enter Tryz.func83,Tryz.ntmps83
 go_upto_region 1 with fail
 rw[←hW]
 clear hW
 have hVl:=hstW.lt
 go_upto_region 13 with (first|(go_at_call 132;with_reducible refine(HT1.out _ hstW).mono ?_;rintro e w1 ⟨rfl,hst1,hx1⟩;have hq1:=hq0.trans hx1;have hn1:=hnW.chg hx1 (by simpa using hne))|(go_at_call 132;with_reducible refine(HT2.out _ hst1).mono ?_;rintro e w2 ⟨rfl,hst2,hx2⟩;have hq2:=hq1.trans hx2;have hn2:=hn1.chg hx2 (by simpa using hne))|(go_at_call 132;with_reducible refine(HT3.out _ hst2).mono ?_;rintro e w3 ⟨rfl,hst3,hx3⟩;have hq3:=hq2.trans hx3;have hn3:=hn2.chg hx3 (by simpa using hne))|(go_at_call 132;with_reducible refine(HT4.out _ hst3).mono ?_;rintro e w4 ⟨rfl,hst4,hx4⟩;have hq4:=hq3.trans hx4;have hn4:=hn3.chg hx4 (by simpa using hne)))
 have hstY:=hst4
 have hqY:=hq4
 have hnY:=hn4
 clear HT1 HT2 HT3 HT4 z2 y2 hx1 hx2 hx3 hx4
 generalize w4=Y at *
 have hnl:=hnY.lt
 have HX:=Lib.hid (zrq hl hstY)
 unfold zar at HX
 go_wp2_with (go_at_call 135;refine(HX.out).mono ?_;rintro e w6 ⟨hx6,hst6,v6,g,rfl,⟨xa,xb,xc,xd,rfl,hg⟩,hval⟩;(obtain⟨b1,c1,b2,c2,b3,c3,rfl,rfl,rfl,rfl⟩:=zbb hg);have hn6:=hnY.chg hx6 (by simpa using hne);have hnl6:=hn6.lt;have hq6:=hqY.trans hx6;(obtain⟨⟨n0,g0⟩,⟨n1,g1⟩,⟨n2,g2⟩,⟨n3,g3⟩⟩:=hn6.cells4))
 refine zeg hq6 (Nat.le_refl _) hlt hst6 hn6 (fun W2 r0 r1 r2 r3=>by simp[results,Tryz.results83,go_sem,r0,r1,r2,r3]) rfl fun W2 k1 k2 k3=>⟨k2,?_⟩
 rw[HE.out]
 exact⟨k1,_,g,rfl,⟨_,_,_,_,rfl,Dat.Fs.mono (Dat.Fs.chg hg k3 (fun g hg=>by simp;omega)) fun g hg _=>by omega⟩,hval⟩
theorem zvw (hl:l.length≤1073741820){n:Nat}(ih:zbn rb l n){u:Unit}{ks:List Tok}(hkn:ks.length≤n+1){w:World}(h:RSt rb l w (.ok u ks)) (h1:zp sNot ks=none) (h2:zp sAll ks=none) (h3:zp zdv ks=none){r:List Tok}(h4:zp za6 ks=some r) :
  Calls Tryz.prog 83 #[.pointer (some ⟨rb,0,none⟩)] w (zar za8 rb l w (zi ks)):=by
 have hl2:l.length≤1073741824:=by omega
 have HE:=Lib.hid (show zi ks=(zg zi r).bind fun f r'=>(zl zbo r').map fun _=>f by rw[zcz];unfold zat;rw[h1,h2,h3,h4])
 have HT1:=Lib.hid (fun w' (h:RSt rb l w' (.ok u ks))=>(by have:=zal hl2 h sNot;rw[(zn h1).1,(zn h1).2]at this;exact this:Calls Tryz.prog 132 #[.pointer (some ⟨rb,0,none⟩),.string sNot] w' fun e w''=>e=.returned (.bool false)∧RSt rb l w'' (.ok () ks)∧Chg [rb] w' w''))
 simp only[sNot]at HT1
 have HT2:=Lib.hid (fun w' (h:RSt rb l w' (.ok u ks))=>(by have:=zal hl2 h sAll;rw[(zn h2).1,(zn h2).2]at this;exact this:Calls Tryz.prog 132 #[.pointer (some ⟨rb,0,none⟩),.string sAll] w' fun e w''=>e=.returned (.bool false)∧RSt rb l w'' (.ok () ks)∧Chg [rb] w' w''))
 simp only[sAll]at HT2
 have HT3:=Lib.hid (fun w' (h:RSt rb l w' (.ok u ks))=>(by have:=zal hl2 h zdv;rw[(zn h3).1,(zn h3).2]at this;exact this:Calls Tryz.prog 132 #[.pointer (some ⟨rb,0,none⟩),.string zdv] w' fun e w''=>e=.returned (.bool false)∧RSt rb l w'' (.ok () ks)∧Chg [rb] w' w''))
 simp only[zdv]at HT3
 have HT4:=Lib.hid (fun w' (h:RSt rb l w' (.ok u ks))=>(by have:=zal hl2 h za6;rw[(z7 h4).1,(z7 h4).2]at this;exact this:Calls Tryz.prog 132 #[.pointer (some ⟨rb,0,none⟩),.string za6] w' fun e w''=>e=.returned (.bool true)∧RSt rb l w'' (.ok () r)∧Chg [rb] w' w''))
 simp only[za6]at HT4
 have hrl:=zu h4
 clear h1 h2 h3 h4
 have hlt:=h.lt
 have hne:w.heap.size≠rb:=by omega
 obtain⟨W,hW⟩:∃W,W=w.alloc (.cells #[.int .i64 0,.slice none 0 0,.slice none 0 0,.slice none 0 0] 29):=⟨_,rfl⟩
 have hx0:Ext w W:=by rw[hW];exact zd _ _
 have hnW:Own W w.heap.size [.int .i64 0,.slice none 0 0,.slice none 0 0,.slice none 0 0]:=by rw[hW];exact own4 w _ _ _ _ _
 have hstW:=h.ext hx0
 have hq0:Chg [rb] w W:=Chg.of_ext hx0
 obtain⟨a,c,p,hown,-,-,-,-,-⟩:=hstW.good
 obtain⟨z2,y2⟩:=hown 2 _ rfl
 clear hown h
 go_enter Tryz.func83,Tryz.ntmps83
 go_upto_region 1 with fail
 rw[←hW]
 clear hW
 have hVl:=hstW.lt
 go_upto_region 10 with (first|(go_at_call 132;with_reducible refine(HT1.out _ hstW).mono ?_;rintro e w1 ⟨rfl,hst1,hx1⟩;have hq1:=hq0.trans hx1;have hn1:=hnW.chg hx1 (by simpa using hne))|(go_at_call 132;with_reducible refine(HT2.out _ hst1).mono ?_;rintro e w2 ⟨rfl,hst2,hx2⟩;have hq2:=hq1.trans hx2;have hn2:=hn1.chg hx2 (by simpa using hne))|(go_at_call 132;with_reducible refine(HT3.out _ hst2).mono ?_;rintro e w3 ⟨rfl,hst3,hx3⟩;have hq3:=hq2.trans hx3;have hn3:=hn2.chg hx3 (by simpa using hne))|(go_at_call 132;with_reducible refine(HT4.out _ hst3).mono ?_;rintro e w4 ⟨rfl,hst4,hx4⟩;have hq4:=hq3.trans hx4;have hn4:=hn3.chg hx4 (by simpa using hne)))
 have hstY:=hst4
 have hqY:=hq4
 have hnY:=hn4
 clear HT1 HT2 HT3 HT4 z2 y2 hx1 hx2 hx3 hx4
 generalize w4=Y at *
 have hnl:=hnY.lt
 have HX:=Lib.hid (zpa hl ih (by omega) hstY)
 unfold zar at HX
 go_upto_region 11 with (go_at_call 41;refine(HX.out).mono ?_;rintro e w6 ⟨hx6,hst6,v6,g,rfl,⟨xa,xb,xc,xd,rfl,hg⟩,hval⟩;(obtain⟨b1,c1,b2,c2,b3,c3,rfl,rfl,rfl,rfl⟩:=zbb hg))
 have hn6:=hnY.chg hx6 (by simpa using hne)
 have hq6:=hqY.trans hx6
 have hb6:=own4 w6 (.int .i64 g.op) (.slice b1 g.vars.length c1) (.slice b2 g.terms.length c2) (.slice b3 g.args.length c3) 29
 have hnl6:=hn6.lt
 have HM:=Lib.hid (ze5 hl2 (hst6.ext (zd _ (.cells #[.int .i64 g.op,.slice b1 g.vars.length c1,.slice b2 g.terms.length c2,.slice b3 g.args.length c3] 29))) zbo)
 simp only[zbo]at HM
 go_wp2_with (go_at_call 134;refine(HM.out).mono ?_;rintro e w7 ⟨rfl,hst7,hx7⟩;have hn7:=(hn6.ext (zd _ _)).chg hx7 (by simpa using hne);have hb7:=hb6.chg hx7 (by simp;omega);(obtain⟨⟨n0,g0⟩,⟨n1,g1⟩,⟨n2,g2⟩,⟨n3,g3⟩⟩:=hn7.cells4);(obtain⟨⟨m0,-⟩,⟨m1,-⟩,⟨m2,-⟩,⟨m3,-⟩⟩:=hb7.cells4);have hnl7:=hn7.lt)
 have hq7:=(hq6.alloc (.cells #[.int .i64 g.op,.slice b1 g.vars.length c1,.slice b2 g.terms.length c2,.slice b3 g.args.length c3] 29)).trans hx7
 refine zeg hq7 (Nat.le_refl _) hlt hst7 hn7 (fun W2 r0 r1 r2 r3=>by simp[results,Tryz.results83,go_sem,r0,r1,r2,r3]) rfl fun W2 k1 k2 k3=>⟨k2,?_⟩
 rw[HE.out]
 refine⟨?_,_,g,rfl,⟨_,_,_,_,rfl,Dat.Fs.mono (Dat.Fs.chg (Dat.Fs.chg (Dat.Fs.ext hg (zd _ _)) hx7 (fun g hg=>by simp;omega)) k3 (fun g hg=>by simp;omega)) fun g hg _=>(by omega)⟩,fun x k he=>?_⟩
 ·cases hr:zg zi r with
  |bad k=>rw[hr]at k1;exact k1
  |ok z k =>
   rw[hr]at k1
   have k1:RSt rb l W2 (zl zbo k):=k1
   simp only[Rd.bind_ok]
   cases hm:zl zbo k with
   |bad k2=>rw[hm]at k1;exact k1
   |ok u2 k2=>rw[hm]at k1;exact k1
 ·cases hr:zg zi r with
  |bad k=>rw[hr]at he;cases he
  |ok z k =>
   rw[hr]at he
   simp only[Rd.bind_ok]at he
   cases hm:zl zbo k with
   |bad k2=>rw[hm]at he;cases he
   |ok u2 k2=>rw[hm]at he;injection he with he;rw[←he,hval z k hr]
theorem zuc (hl:l.length≤1073741820):zbn rb l 0:=fun st hst w h=>by
 cases st with
 |bad k=>exact zpb hl h
 |ok u ks =>
  have:ks=[]:=List.eq_nil_of_length_eq_zero (by simp only[toGo]at hst;omega)
  subst this
  exact zls hl h rfl rfl rfl rfl
theorem zud (hl:l.length≤1073741820){n:Nat}(ih:zbn rb l n):zbn rb l (n+1):=fun st hst w h=>by
 cases st with
 |bad k=>exact zpb hl h
 |ok u ks =>
  have hkn:ks.length≤n+1:=by simp only[toGo]at hst;omega
  simp only[Rd.bind_ok]
  cases h1:zp sNot ks with
  |some r=>exact zvu hl ih hkn h h1
  |none =>
   cases h2:zp sAll ks with
   |some r=>exact zvv hl ih hkn h h1 h2
   |none =>
    cases h3:zp zdv ks with
    |some r=>exact zub hl ih hkn h h1 h2 h3
    |none =>
     cases h4:zp za6 ks with
     |some r=>exact zvw hl ih hkn h h1 h2 h3 h4
     |none=>exact zls hl h h1 h2 h3 h4
theorem zpc (hl:l.length≤1073741820):∀n,zbn rb l n
 |0=>zuc hl
 |n+1=>zud hl (zpc hl n)
theorem zpd (hl:l.length≤1073741820){u:Unit}{ks:List Tok}{w:World}(h:RSt rb l w (.ok u ks)) :
  Calls Tryz.prog 41 #[.pointer (some ⟨rb,0,none⟩)] w (zar za8 rb l w (zgj ks)):=zpa hl (zpc hl ks.length) (Nat.le_refl _) h
end
theorem RSt.keep {α:Type}{rb:Nat}{l:List Tok}{S:List Nat}{w w':World}{rd:Rd α}(h:RSt rb l w rd.st) (hx:Chg S w w') (hS:rb∉S):∃(a:Option Addr) (c p:Nat) (z:Int),Own w' rb [.slice a l.length c,.int .i64 p,.int .i64 z]∧(∀r,rd=.bad r→z=zbi l r)∧(∀x r,rd=.ok x r→z=-1∧p=l.length-r.length∧r <:+ l):=by
 obtain⟨a,c,p,z,h1,h2,h3,h4,h5⟩:=h
 refine⟨a,c,p,z,h1.chg hx hS,fun r he=>?_,fun x r he=>?_⟩
 ·subst he;exact h5
 ·subst he
  obtain⟨g1,g2,g3⟩:=h5
  exact⟨g3,by omega,g1⟩
theorem zrr (l:List Tok) (hl:l.length≤2097152){P:Nat→Prop}{w:World}{a:Option Addr}{c:Nat}(h:Dat.Rows P w a (l.map Tok.dat)) (hc:l.length≤c) (fr:Int) (hf1:-9223372036854775808≤fr) (hf2:fr≤9223372036854775807) :
  Calls Tryz.prog 13 #[.slice a l.length c,.int .i64 fr] w (ReadSays (zb0 l fr) w):=by
 obtain⟨W,hW⟩:∃W,W=w.alloc (.cells #[.int .i64 0,.slice none 0 0,.slice none 0 0,.slice none 0 0] 29):=⟨_,rfl⟩
 have hx:Ext w W:=by rw[hW];exact zd _ _
 have hnew:Own W w.heap.size [.int .i64 0,.slice none 0 0,.slice none 0 0,.slice none 0 0]:=by rw[hW];exact own4 w _ _ _ _ _
 have hnl:=hnew.lt
 obtain⟨⟨n0,g0⟩,⟨n1,g1⟩,⟨n2,g2⟩,⟨n3,g3⟩⟩:=hnew.cells4
 by_cases hfr:fr<0∨(l.length:Int)≤fr
 ·have HE:=Lib.hid (show zb0 l fr=(Fm.zero,0,230) by unfold zb0;rw[if_pos hfr])
  clear h
  have hcase:decide (fr<0)=true∨(decide (fr<0)=false∧decide ((l.length:Int)≤fr)=true):=by
   by_cases h0:fr<0
   ·exact .inl (decide_eq_true h0)
   ·exact .inr ⟨decide_eq_false h0,decide_eq_true (by omega)⟩
  clear hfr
  rcases hcase with q1|⟨q1,q2⟩
  all_goals
   go_enter Tryz.func13,Tryz.ntmps13
   go_upto_region 1 with fail
   rw[←hW]
   clear hW
   go_wp2
   have hch:=zai W w.heap.size (.int .i64 0) (.slice none 0 0) (.slice none 0 0) (.slice none 0 0)
   obtain⟨r0,r1,r2,r3⟩:=za9 (zac hnew (.int .i64 0) (.slice none 0 0) (.slice none 0 0) (.slice none 0 0))
   refine bodyPost_ret (v:=.tuple #[.agg #[.int .i64 0,.slice none 0 0,.slice none 0 0,.slice none 0 0],.int .i64 0,.int .i64 230]) (by simp[results,Tryz.results13,go_sem,r0,r1,r2,r3]) rfl ?_
   rw[HE.out]
   exact ReadSays.mk rfl ⟨_,_,_,_,rfl,zh1⟩ (Chg.ext hx hch (by simp))
 ·have hfr1:0≤fr:=by omega
  have hfr2:fr<(l.length:Int):=by omega
  have q1:decide (fr<0)=false:=decide_eq_false (by omega)
  have q2:decide ((l.length:Int)≤fr)=false:=decide_eq_false (by omega)
  obtain⟨k,hk⟩:∃k:Nat,fr=k:=⟨fr.toNat,by omega⟩
  subst hk
  have hk1:k<l.length:=by omega
  have HE:=Lib.hid (show zb0 l k=match zgj (l.drop k) with
   |.bad r=>(Fm.zero,((zbi l r:Nat):Int),(230:Int))
   |.ok f r=>if f.check≠0 then (Fm.zero,(k:Int),f.check)else (f,((l.length-r.length:Nat):Int),0) by
    unfold zb0;rw[if_neg hfr,Int.toNat_natCast];rfl)
  clear hfr hfr1 hf1 hf2
  obtain⟨W2,hW2⟩:∃W2,W2=W.alloc (.cells #[.slice a l.length c,.int .i64 k,.int .i64 (-1)] 70):=⟨_,rfl⟩
  have hx2:Ext w W2:=by rw[hW2];exact hx.alloc _
  have hst:RSt W.heap.size l W2 (.ok () (l.drop k)):=by
   refine⟨a,c,k,-1,by rw[hW2];exact own3 W _ _ _ _,hc,?_,by omega,zsn,by rw[List.length_drop];omega,rfl⟩
   exact Dat.Rows.ext (Dat.Rows.mono h fun g _ hlt=>(show g<W.heap.size by omega)) hx2
  have hn2:Own W2 w.heap.size [.int .i64 0,.slice none 0 0,.slice none 0 0,.slice none 0 0]:=by rw[hW2];exact hnew.ext (zd _ _)
  have hle:=hx.size
  have hwW:=hnl
  have hz:W.heap.size=w.heap.size+1:=by rw[hW];simp
  rw[hz]at hst
  clear hz
  have HF:=Lib.hid (zpd (by omega) hst)
  unfold zar at HF
  clear h hst n0 n1 n2 n3 g0 g1 g2 g3
  go_enter Tryz.func13,Tryz.ntmps13
  go_upto_region 5 with (rw[←hW,←hW2];go_at_call 41;refine(HF.out).mono ?_;rintro e w3 ⟨hx3,hst3,v3,f,rfl,⟨xa,xb,xc,xd,rfl,hf⟩,hval⟩;(obtain⟨b1,c1,b2,c2,b3,c3,rfl,rfl,rfl,rfl⟩:=zbb hf);have hn3:=hn2.chg hx3 (by simp);have hnl3:=hn3.lt;(obtain⟨⟨n0,g0⟩,⟨n1,g1⟩,⟨n2,g2⟩,⟨n3,g3⟩⟩:=hn3.cells4))
  obtain⟨V,hV⟩:∃V,V=(((w3.setCell ⟨w.heap.size,0,none⟩ (.int .i64 f.op)).setCell ⟨w.heap.size,1,none⟩ (.slice b1 f.vars.length c1)).setCell ⟨w.heap.size,2,none⟩ (.slice b2 f.terms.length c2)).setCell ⟨w.heap.size,3,none⟩ (.slice b3 f.args.length c3):=⟨_,rfl⟩
  have hch:=zai w3 w.heap.size (.int .i64 f.op) (.slice b1 f.vars.length c1) (.slice b2 f.terms.length c2) (.slice b3 f.args.length c3)
  have hn4:=zac hn3 (.int .i64 f.op) (.slice b1 f.vars.length c1) (.slice b2 f.terms.length c2) (.slice b3 f.args.length c3)
  rw[←hV]at hch hn4 ⊢
  have hq4:Ext w V:=Chg.ext hx2 ((hx3.mono (T:=[w.heap.size+1,w.heap.size]) (by simp)).trans (hch.mono (by simp))) (by simp)
  have hn2l:=hn2.lt
  have hf4:IsFm (fun g=>w.heap.size≤g∧g≠w.heap.size) V (.int .i64 f.op) (.slice b1 f.vars.length c1) (.slice b2 f.terms.length c2) (.slice b3 f.args.length c3) f:=Dat.Fs.chg (Dat.Fs.mono hf (Q:=fun g=>w.heap.size≤g∧g≠w.heap.size) fun g hg _=>by omega) hch (fun g hg=>by simpa using hg.2)
  have hst4:=hst3.keep hch (show w.heap.size+1∉[w.heap.size] by simp)
  obtain⟨a4,c4,p,z,ho4,hz1,hz2⟩:=hst4
  clear n0 n1 n2 n3 g0 g1 g2 g3 hn3 hst3 hf hn2 hx3 hch HF hV
  obtain⟨⟨n0,g0⟩,⟨n1,g1⟩,⟨n2,g2⟩,⟨n3,g3⟩⟩:=hn4.cells4
  obtain⟨z1,y1⟩:=ho4 1 _ rfl
  obtain⟨z2,y2⟩:=ho4 2 _ rfl
  have hVl:=hn4.lt
  have hVr:=ho4.lt
  clear hW hW2
  cases hr:zgj (l.drop k) with
  |bad r =>
   have hz:=hz1 r hr
   subst hz
   rw[hr]at HE
   clear hr hz1 hz2 hval
   go_upto_region 6 with fail
   go_region_with fail
   all_goals
    go_wp2
    have hch:=zai V.drew w.heap.size (.int .i64 0) (.slice none 0 0) (.slice none 0 0) (.slice none 0 0)
    have hn5:=hn4.ext (Ext.drew (Below.refl _ V))
    obtain⟨r0,r1,r2,r3⟩:=za9 (zac hn5 (.int .i64 0) (.slice none 0 0) (.slice none 0 0) (.slice none 0 0))
    obtain⟨s0,s1,s2,s3⟩:=za9 (zac hn4 (.int .i64 0) (.slice none 0 0) (.slice none 0 0) (.slice none 0 0))
    refine bodyPost_ret (v:=.tuple #[.agg #[.int .i64 0,.slice none 0 0,.slice none 0 0,.slice none 0 0],.int .i64 (zbi l r:Nat),.int .i64 230]) (by simp[results,Tryz.results13,go_sem,s0,s1,s2,s3]) rfl ?_
    rw[HE.out]
    exact ReadSays.mk rfl ⟨_,_,_,_,rfl,zh1⟩ (Chg.ext (hq4.trans (Ext.drew (Below.refl _ V))) hch (by simp))
  |ok x r =>
   obtain⟨rfl,rfl,hsuf⟩:=hz2 x r hr
   have hxe:=hval x r hr
   subst hxe
   have hfit:=zh8 _ _ _ hr
   rw[hr]at HE
   replace HE:=Lib.hid (show zb0 l k=if f.check≠0 then (Fm.zero,(k:Int),f.check)else (f,((l.length-r.length:Nat):Int),0)from HE.out)
   clear hr hz1 hz2 hval
   rw[List.length_drop]at hfit
   have HCk:=Lib.hid (zoe f _ V _ _ _ _ hf4 (by omega))
   obtain⟨ck,hck⟩:∃ck,ck=f.check:=⟨_,rfl⟩
   have hcr:=zrd f
   rw[←hck]at HCk HE hcr
   have HCK:=Lib.hid hck
   clear hck
   by_cases h0:ck=0
   ·subst h0
    have HE:=Lib.hid (HE.out.trans (if_neg (fun h=>h rfl)))
    clear hcr
    go_upto_region 8 with (go_at_call 22;refine(HCk.out).mono ?_;rintro e w5 ⟨rfl,hx5⟩)
    have hn5:=hn4.ext hx5
    have ho5:=ho4.ext hx5
    have hf5:=IsFm.ext hf4 hx5
    have hq5:=hq4.trans hx5
    clear n0 n1 n2 n3 g0 g1 g2 g3 z1 y1 z2 y2 hn4 ho4 hf4 hq4 hVl hVr
    obtain⟨⟨n0,g0⟩,⟨n1,g1⟩,⟨n2,g2⟩,⟨n3,g3⟩⟩:=hn5.cells4
    obtain⟨z1,y1⟩:=ho5 1 _ rfl
    have hVl:=hn5.lt
    have hVr:=ho5.lt
    go_upto_region 10 with fail
    go_region_with fail
    all_goals
     go_wp2
     have hch:=zai w5.drew w.heap.size (.int .i64 f.op) (.slice b1 f.vars.length c1) (.slice b2 f.terms.length c2) (.slice b3 f.args.length c3)
     have hn6:=hn5.ext (Ext.drew (Below.refl _ w5))
     obtain⟨s0,s1,s2,s3⟩:=za9 (zac hn5 (.int .i64 f.op) (.slice b1 f.vars.length c1) (.slice b2 f.terms.length c2) (.slice b3 f.args.length c3))
     obtain⟨r0,r1,r2,r3⟩:=za9 (zac hn6 (.int .i64 f.op) (.slice b1 f.vars.length c1) (.slice b2 f.terms.length c2) (.slice b3 f.args.length c3))
     refine bodyPost_ret (v:=.tuple #[.agg #[.int .i64 f.op,.slice b1 f.vars.length c1,.slice b2 f.terms.length c2,.slice b3 f.args.length c3],.int .i64 (l.length-r.length:Nat),.int .i64 0]) (by simp[results,Tryz.results13,go_sem,s0,s1,s2,s3]) rfl ?_
     rw[HE.out]
     exact ReadSays.mk rfl ⟨_,_,_,_,rfl,Dat.Fs.mono (Dat.Fs.chg (IsFm.ext hf5 (Ext.drew (Below.refl _ w5))) hch (fun g hg=>by simpa using hg.2)) fun g hg _=>hg.1⟩ (Chg.ext (hq5.trans (Ext.drew (Below.refl _ w5))) hch (by simp))
   ·have HE:=Lib.hid (HE.out.trans (if_pos h0))
    have hq1:(ck != 0)=true:=by rw[bne_iff_ne];exact h0
    clear h0
    go_wp2_with (go_at_call 22;refine(HCk.out).mono ?_;rintro e w5 ⟨rfl,hx5⟩;have hn5:=hn4.ext hx5;clear n0 n1 n2 n3 g0 g1 g2 g3;(obtain⟨⟨n0,g0⟩,⟨n1,g1⟩,⟨n2,g2⟩,⟨n3,g3⟩⟩:=hn5.cells4);have hnl5:=hn5.lt)
    have hch:=zai w5 w.heap.size (.int .i64 0) (.slice none 0 0) (.slice none 0 0) (.slice none 0 0)
    obtain⟨r0,r1,r2,r3⟩:=za9 (zac hn5 (.int .i64 0) (.slice none 0 0) (.slice none 0 0) (.slice none 0 0))
    refine bodyPost_ret (v:=.tuple #[.agg #[.int .i64 0,.slice none 0 0,.slice none 0 0,.slice none 0 0],.int .i64 k,.int .i64 ck]) (by simp[results,Tryz.results13,go_sem,r0,r1,r2,r3]) rfl ?_
    rw[HE.out]
    exact ReadSays.mk rfl ⟨_,_,_,_,rfl,zh1⟩ (Chg.ext (hq4.trans hx5) hch (by simp))
end Go.Proofs.YtnclgkdpafhogaaGreat
