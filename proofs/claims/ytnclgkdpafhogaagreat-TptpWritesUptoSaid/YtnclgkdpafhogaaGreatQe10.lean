/- formula.Cursor.formula, unit. Condition: a row of at most 2^30 tokens, not empty.
formula.Caught, Read$1: a reading is caught where it panics. Condition: a row of at most 2^30 tokens, not empty. -/
import Derived.Test.YtnclgkdpafhogaaGreatQe8
import Derived.Test.YtnclgkdpafhogaaGreatQe9
import Derived.Defers
import Derived.Recover
import Derived.Laws.Pointers
set_option maxHeartbeats 16000000
set_option maxRecDepth 100000
namespace Go.Proofs.YtnclgkdpafhogaaGreat
open Go.ChangeShapes Go.WideShapes Go.ChangeAt Go.RowKit
theorem zo8 {s:ByteArray}{b:Fm→Fm→Fm}(h:zdl s=some b):s=sImp∨s=sRev∨s=sIff∨s=sXor∨s=sNor∨s=zwz:=by
 unfold zdl at h
 repeat' split at h
 all_goals first
  |(cases h;done)
  |simp_all
theorem zsy {cb:Nat}{l:List Tok}(hl:l.length≤1073741824){n:Nat}(hU:zcj cb l n){ks:List Tok}(hkn:ks.length≤n){w:World}(h:Cur cb l w ks) :
  Calls Tryz.prog 40 #[.pointer (some ⟨cb,0,none⟩)] w (zu zc7 cb l w (zh zr ks)):=by
 cases hu:zr ks with
 |bad r=>exact z0u hU hkn h hu
 |ok f r =>
  by_cases h6:(zt r).kind=6
  ·cases r with
   |nil=>exact absurd h6 (by decide)
   |cons t r =>
    have h6:t.kind=6:=h6
    by_cases ha:t.text=sAnd
    ·exact z0t hl hU hkn h hu h6 ha
    ·by_cases ho:t.text=sOr
     ·exact z1z hl hU hkn h hu h6 ho
     ·cases hb:zdl t.text with
      |none=>exact zvh hl hU hkn h hu h6 ha ho hb
      |some b =>
       rcases zo8 hb with h1|h1|h1|h1|h1|h1
       ·exact z0w hl hU hkn h hu h6 h1
       ·exact z0x hl hU hkn h hu h6 h1
       ·exact z0y hl hU hkn h hu h6 h1
       ·exact z0z hl hU hkn h hu h6 h1
       ·exact z00 hl hU hkn h hu h6 h1
       ·exact zym hl hU hkn h hu h6 h1
  ·exact z0v hl hU hkn h hu h6
theorem ztz {cb:Nat}{l:List Tok}(hl:l.length≤1073741824) (hnel:0<l.length){ks:List Tok}{w:World}(h:Cur cb l w ks) :
  Calls Tryz.prog 131 #[.pointer (some ⟨cb,0,none⟩)] w (zu zc7 cb l w (za3 ks)):=by
 by_cases h3:(zt ks).kind=3
 ·by_cases ht:(zt ks).text=zmm
  ·cases ks with
   |nil=>exact absurd h3 (by decide)
   |cons t r=>exact zjw hl h h3 true ht
  ·by_cases hf:(zt ks).text=zgk
   ·cases ks with
    |nil=>exact absurd h3 (by decide)
    |cons t r=>exact zjw hl h h3 false hf
   ·exact zo5 hl hnel h h3 ht hf
 ·exact zyn hl hnel h h3
theorem zyq {cb:Nat}{l:List Tok}(hl:l.length≤1073741824) (_hnel:0<l.length){n:Nat}(hU:zcj cb l n){ks:List Tok}(hkn:ks.length≤n+1){w:World}(h:Cur cb l w ks){r:List Tok}(h1:zx sNot ks=some r) :
  Calls Tryz.prog 79 #[.pointer (some ⟨cb,0,none⟩)] w (zu zc7 cb l w (zr ks)):=by
 have HE:=Lib.hid (show zr ks=(zr r).map fNot by rw[zdc];unfold zan;rw[h1])
 have HT1:=Lib.hid (fun w' (h:Cur cb l w' ks)=>zbt hl h h1)
 simp only[sNot]at HT1
 have hrl:=zv h1
 clear h1
 have HC:=Lib.hid h
 have hlt:=h.lt
 have hne:w.heap.size≠cb:=by omega
 clear h
 obtain⟨W,hW⟩:∃W,W=w.alloc (.cells #[.int .i64 0,.slice none 0 0,.slice none 0 0,.slice none 0 0] 29):=⟨_,rfl⟩
 have hx0:Ext w W:=by rw[hW];exact zb _ _
 have hnW:Own W w.heap.size [.int .i64 0,.slice none 0 0,.slice none 0 0,.slice none 0 0]:=by rw[hW];exact own4 w _ _ _ _ _
 go_enter Tryz.func79,Tryz.ntmps79
 go_upto_region 2 with (first|(rw[←hW];clear hW;go_at_call 81;with_reducible refine(HT1.out _ (HC.out.ext hx0)).mono ?_;rintro e w1 ⟨rfl,hcY,hx1'⟩;have hqY:=Chg.trans (Chg.of_ext hx0) hx1'))
 have hnY:=hnW.chg hx1' (by simpa using hne)
 have hnl:=hnY.lt
 generalize w1=Y at *
 clear HC HT1 hnW
 have HX:=Lib.hid (hU r (by omega) Y hcY)
 have HO:=Lib.hid (fun a n c w=>zen 5 a n c w)
 unfold zu at HX
 cases hk:zr r with
 |bad r2 =>
  rw[hk]at HX HE
  clear hk
  go_wp2_with (go_at_call 79;refine(HX.out).mono ?_;rintro e w6 ⟨hx6,rfl⟩)
  exact⟨rfl,hqY.trans hx6,(by rw[HE.out];rfl)⟩
 |ok g r2 =>
  rw[hk]at HX HE
  clear hk
  go_wp2_with (first|(go_at_call 79;refine(HX.out).mono ?_;rintro e w6 ⟨hx6,hc6,v,rfl,xa,xb,xc,xd,rfl,hg⟩;(have hg':=hg);(obtain⟨d1,e1,d2,e2,d3,e3,rfl,rfl,rfl,rfl,-⟩:=hg'.form);clear hg';have hn6:=hnY.chg hx6 (by simpa using hne))|(go_at_call 82;refine(HO.out _ _ _ _).mono ?_;rintro e w7 ⟨rfl,hx7'⟩;have hx7:=(zb _ _).trans hx7';(obtain⟨⟨n0,g0⟩,⟨n1,g1⟩,⟨n2,g2⟩,⟨n3,g3⟩⟩:=(hn6.ext hx7).cells4);have hnl6:=(hn6.ext hx7).lt))
  refine za4 ((hqY.trans hx6).trans (Chg.of_ext hx7)) hlt (hc6.ext hx7) (hn6.ext hx7) (fun W2 r0 r1 r2 r3=>by simp[results,Tryz.results79,go_sem,r0,r1,r2,r3]) rfl fun W2 k1 k2 k3=>⟨k2,?_⟩
  rw[HE.out]
  refine⟨k1,_,rfl,_,_,_,_,rfl,?_⟩
  have h2:=zcv (op:=5) (l:=[g]) (c:=1) (by decide) (by decide) (Nat.le_refl _) (IsFms.ext (zi5 29 (Dat.Fs.mono hg (Q:=fun g=>w.heap.size<g) fun g hg _=>(by omega)) (show w.heap.size<w6.heap.size from hn6.lt)) hx7')
  exact Dat.Fs.mono (Dat.Fs.chg h2 k3 (fun g hg=>by simp;omega)) fun g hg _=>(show w.heap.size≤g by omega)
theorem zyr {cb:Nat}{l:List Tok}(hl:l.length≤1073741824) (hnel:0<l.length){n:Nat}(hU:zcj cb l n){ks:List Tok}(hkn:ks.length≤n+1){w:World}(h:Cur cb l w ks) (h1:zx sNot ks=none){r:List Tok}(h2:zx sAll ks=some r) :
  Calls Tryz.prog 79 #[.pointer (some ⟨cb,0,none⟩)] w (zu zc7 cb l w (zr ks)):=by
 have HE:=Lib.hid (show zr ks=zad zr 11 r by rw[zdc];unfold zan;rw[h1,h2])
 have HT1:=Lib.hid (fun w' (h:Cur cb l w' ks)=>za9 hl h h1)
 simp only[sNot]at HT1
 have HT2:=Lib.hid (fun w' (h:Cur cb l w' ks)=>zbt hl h h2)
 simp only[sAll]at HT2
 have hrl:=zv h2
 clear h1 h2
 have HC:=Lib.hid h
 have hlt:=h.lt
 have hne:w.heap.size≠cb:=by omega
 clear h
 obtain⟨W,hW⟩:∃W,W=w.alloc (.cells #[.int .i64 0,.slice none 0 0,.slice none 0 0,.slice none 0 0] 29):=⟨_,rfl⟩
 have hx0:Ext w W:=by rw[hW];exact zb _ _
 have hnW:Own W w.heap.size [.int .i64 0,.slice none 0 0,.slice none 0 0,.slice none 0 0]:=by rw[hW];exact own4 w _ _ _ _ _
 go_enter Tryz.func79,Tryz.ntmps79
 go_upto_region 4 with (first|(rw[←hW];clear hW;go_at_call 81;with_reducible refine(HT1.out _ (HC.out.ext hx0)).mono ?_;rintro e w1 ⟨rfl,hx1'⟩;have hx1:=hx0.trans hx1')|(go_at_call 81;with_reducible refine(HT2.out _ (HC.out.ext hx1)).mono ?_;rintro e w2 ⟨rfl,hcY,hx2'⟩;have hqY:=Chg.trans (Chg.of_ext hx1) hx2'))
 have hnY:=((hnW.ext (hx1')).chg hx2' (by simpa using hne))
 have hnl:=hnY.lt
 generalize w2=Y at *
 clear HC HT1 HT2 hnW
 have HX:=Lib.hid (zq8 hl hnel hU (show r.length≤n by omega) hcY 11 (by decide) (by decide))
 unfold zu at HX
 cases hk:zad zr 11 r with
 |bad r2 =>
  rw[hk]at HX HE
  clear hk
  go_wp2_with (go_at_call 129;refine(HX.out).mono ?_;rintro e w6 ⟨hx6,rfl⟩)
  exact⟨rfl,hqY.trans hx6,(by rw[HE.out])⟩
 |ok g r2 =>
  rw[hk]at HX HE
  clear hk
  go_wp2_with (go_at_call 129;refine(HX.out).mono ?_;rintro e w6 ⟨hx6,hc6,v,rfl,xa,xb,xc,xd,rfl,hg⟩;(have hg':=hg);(obtain⟨d1,e1,d2,e2,d3,e3,rfl,rfl,rfl,rfl,-⟩:=hg'.form);clear hg';have hn6:=hnY.chg hx6 (by simpa using hne);(obtain⟨⟨n0,g0⟩,⟨n1,g1⟩,⟨n2,g2⟩,⟨n3,g3⟩⟩:=hn6.cells4);have hnl6:=hn6.lt)
  refine za4 (hqY.trans hx6) hlt hc6 hn6 (fun W2 r0 r1 r2 r3=>by simp[results,Tryz.results79,go_sem,r0,r1,r2,r3]) rfl fun W2 k1 k2 k3=>⟨k2,?_⟩
  rw[HE.out]
  exact⟨k1,_,rfl,_,_,_,_,rfl,Dat.Fs.mono (Dat.Fs.chg hg k3 (fun g hg=>by simp;omega)) fun g hg _=>(by omega)⟩
theorem zvm {cb:Nat}{l:List Tok}(hl:l.length≤1073741824) (hnel:0<l.length){n:Nat}(hU:zcj cb l n){ks:List Tok}(hkn:ks.length≤n+1){w:World}(h:Cur cb l w ks) (h1:zx sNot ks=none) (h2:zx sAll ks=none){r:List Tok}(h3:zx zj0 ks=some r) :
  Calls Tryz.prog 79 #[.pointer (some ⟨cb,0,none⟩)] w (zu zc7 cb l w (zr ks)):=by
 have HE:=Lib.hid (show zr ks=zad zr 12 r by rw[zdc];unfold zan;rw[h1,h2,h3])
 have HT1:=Lib.hid (fun w' (h:Cur cb l w' ks)=>za9 hl h h1)
 simp only[sNot]at HT1
 have HT2:=Lib.hid (fun w' (h:Cur cb l w' ks)=>za9 hl h h2)
 simp only[sAll]at HT2
 have HT3:=Lib.hid (fun w' (h:Cur cb l w' ks)=>zbt hl h h3)
 simp only[zj0]at HT3
 have hrl:=zv h3
 clear h1 h2 h3
 have HC:=Lib.hid h
 have hlt:=h.lt
 have hne:w.heap.size≠cb:=by omega
 clear h
 obtain⟨W,hW⟩:∃W,W=w.alloc (.cells #[.int .i64 0,.slice none 0 0,.slice none 0 0,.slice none 0 0] 29):=⟨_,rfl⟩
 have hx0:Ext w W:=by rw[hW];exact zb _ _
 have hnW:Own W w.heap.size [.int .i64 0,.slice none 0 0,.slice none 0 0,.slice none 0 0]:=by rw[hW];exact own4 w _ _ _ _ _
 go_enter Tryz.func79,Tryz.ntmps79
 go_upto_region 6 with (first|(rw[←hW];clear hW;go_at_call 81;with_reducible refine(HT1.out _ (HC.out.ext hx0)).mono ?_;rintro e w1 ⟨rfl,hx1'⟩;have hx1:=hx0.trans hx1')|(go_at_call 81;with_reducible refine(HT2.out _ (HC.out.ext hx1)).mono ?_;rintro e w2 ⟨rfl,hx2'⟩;have hx2:=hx1.trans hx2')|(go_at_call 81;with_reducible refine(HT3.out _ (HC.out.ext hx2)).mono ?_;rintro e w3 ⟨rfl,hcY,hx3'⟩;have hqY:=Chg.trans (Chg.of_ext hx2) hx3'))
 have hnY:=((hnW.ext ((hx1').trans hx2')).chg hx3' (by simpa using hne))
 have hnl:=hnY.lt
 generalize w3=Y at *
 clear HC HT1 HT2 HT3 hnW
 have HX:=Lib.hid (zq8 hl hnel hU (show r.length≤n by omega) hcY 12 (by decide) (by decide))
 unfold zu at HX
 cases hk:zad zr 12 r with
 |bad r2 =>
  rw[hk]at HX HE
  clear hk
  go_wp2_with (go_at_call 129;refine(HX.out).mono ?_;rintro e w6 ⟨hx6,rfl⟩)
  exact⟨rfl,hqY.trans hx6,(by rw[HE.out])⟩
 |ok g r2 =>
  rw[hk]at HX HE
  clear hk
  go_wp2_with (go_at_call 129;refine(HX.out).mono ?_;rintro e w6 ⟨hx6,hc6,v,rfl,xa,xb,xc,xd,rfl,hg⟩;(have hg':=hg);(obtain⟨d1,e1,d2,e2,d3,e3,rfl,rfl,rfl,rfl,-⟩:=hg'.form);clear hg';have hn6:=hnY.chg hx6 (by simpa using hne);(obtain⟨⟨n0,g0⟩,⟨n1,g1⟩,⟨n2,g2⟩,⟨n3,g3⟩⟩:=hn6.cells4);have hnl6:=hn6.lt)
  refine za4 (hqY.trans hx6) hlt hc6 hn6 (fun W2 r0 r1 r2 r3=>by simp[results,Tryz.results79,go_sem,r0,r1,r2,r3]) rfl fun W2 k1 k2 k3=>⟨k2,?_⟩
  rw[HE.out]
  exact⟨k1,_,rfl,_,_,_,_,rfl,Dat.Fs.mono (Dat.Fs.chg hg k3 (fun g hg=>by simp;omega)) fun g hg _=>(by omega)⟩
theorem zys {cb:Nat}{l:List Tok}(hl:l.length≤1073741824) (hnel:0<l.length){n:Nat}(hU:zcj cb l n){ks:List Tok}(hkn:ks.length≤n+1){w:World}(h:Cur cb l w ks) (h1:zx sNot ks=none) (h2:zx sAll ks=none) (h3:zx zj0 ks=none){r:List Tok}(h4:zx zbp ks=some r) :
  Calls Tryz.prog 79 #[.pointer (some ⟨cb,0,none⟩)] w (zu zc7 cb l w (zr ks)):=by
 have HE:=Lib.hid (show zr ks=(zh zr r).bind fun f r'=>(zw zcx r').map fun _=>f by rw[zdc];unfold zan;rw[h1,h2,h3,h4])
 have HT1:=Lib.hid (fun w' (h:Cur cb l w' ks)=>za9 hl h h1)
 simp only[sNot]at HT1
 have HT2:=Lib.hid (fun w' (h:Cur cb l w' ks)=>za9 hl h h2)
 simp only[sAll]at HT2
 have HT3:=Lib.hid (fun w' (h:Cur cb l w' ks)=>za9 hl h h3)
 simp only[zj0]at HT3
 have HT4:=Lib.hid (fun w' (h:Cur cb l w' ks)=>zbt hl h h4)
 simp only[zbp]at HT4
 have hrl:=zv h4
 clear h1 h2 h3 h4
 have HC:=Lib.hid h
 have hlt:=h.lt
 have hne:w.heap.size≠cb:=by omega
 clear h
 obtain⟨W,hW⟩:∃W,W=w.alloc (.cells #[.int .i64 0,.slice none 0 0,.slice none 0 0,.slice none 0 0] 29):=⟨_,rfl⟩
 have hx0:Ext w W:=by rw[hW];exact zb _ _
 have hnW:Own W w.heap.size [.int .i64 0,.slice none 0 0,.slice none 0 0,.slice none 0 0]:=by rw[hW];exact own4 w _ _ _ _ _
 go_enter Tryz.func79,Tryz.ntmps79
 go_upto_region 8 with (first|(rw[←hW];clear hW;go_at_call 81;with_reducible refine(HT1.out _ (HC.out.ext hx0)).mono ?_;rintro e w1 ⟨rfl,hx1'⟩;have hx1:=hx0.trans hx1')|(go_at_call 81;with_reducible refine(HT2.out _ (HC.out.ext hx1)).mono ?_;rintro e w2 ⟨rfl,hx2'⟩;have hx2:=hx1.trans hx2')|(go_at_call 81;with_reducible refine(HT3.out _ (HC.out.ext hx2)).mono ?_;rintro e w3 ⟨rfl,hx3'⟩;have hx3:=hx2.trans hx3')|(go_at_call 81;with_reducible refine(HT4.out _ (HC.out.ext hx3)).mono ?_;rintro e w4 ⟨rfl,hcY,hx4'⟩;have hqY:=Chg.trans (Chg.of_ext hx3) hx4'))
 have hnY:=((hnW.ext (((hx1').trans hx2').trans hx3')).chg hx4' (by simpa using hne))
 have hnl:=hnY.lt
 generalize w4=Y at *
 clear HC HT1 HT2 HT3 HT4 hnW
 have HX:=Lib.hid (zsy hl hU (show r.length≤n by omega) hcY)
 unfold zu at HX
 cases hk:zh zr r with
 |bad r2 =>
  rw[hk]at HX HE
  clear hk
  go_wp2_with (go_at_call 40;refine(HX.out).mono ?_;rintro e w6 ⟨hx6,rfl⟩)
  exact⟨rfl,hqY.trans hx6,(by rw[HE.out];rfl)⟩
 |ok g r2 =>
  rw[hk]at HX HE
  simp only[Rd.bind_ok]at HE
  clear hk
  cases hm:zw zcx r2 with
  |bad r3 =>
   have HM:=Lib.hid (fun w' (h:Cur cb l w' r2)=>zi4 hl hnel h hm)
   rw[hm]at HE
   clear hm
   simp only[zcx]at HM
   go_wp2_with (first|(go_at_call 40;refine(HX.out).mono ?_;rintro e w6 ⟨hx6,hc6,v,rfl,xa,xb,xc,xd,rfl,hg⟩;(have hg':=hg);(obtain⟨d1,e1,d2,e2,d3,e3,rfl,rfl,rfl,rfl,-⟩:=hg'.form);clear hg')|(go_at_call 130;refine(HM.out _ (hc6.ext (zb _ _))).mono ?_;rintro e w7 ⟨rfl,hx7⟩))
   exact⟨rfl,(hqY.trans hx6).trans (Chg.of_ext ((zb _ _).trans hx7)),(by rw[HE.out];rfl)⟩
  |ok u r3 =>
   have HM:=Lib.hid (fun w' (h:Cur cb l w' r2)=>zii hl h hm)
   rw[hm]at HE
   clear hm
   simp only[zcx]at HM
   go_wp2_with (first|(go_at_call 40;refine(HX.out).mono ?_;rintro e w6 ⟨hx6,hc6,v,rfl,xa,xb,xc,xd,rfl,hg⟩;(have hg':=hg);(obtain⟨d1,e1,d2,e2,d3,e3,rfl,rfl,rfl,rfl,-⟩:=hg'.form);clear hg';have hn6:=hnY.chg hx6 (by simpa using hne);have hb6:=own4 w6 (.int .i64 g.op) (.slice d1 g.vars.length e1) (.slice d2 g.terms.length e2) (.slice d3 g.args.length e3) 29;have hnl6:=hn6.lt)|(go_at_call 130;refine(HM.out _ (hc6.ext (zb _ _))).mono ?_;rintro e w7 ⟨rfl,hc7,hx7⟩;have hn7:=(hn6.ext (zb _ _)).chg hx7 (by simpa using hne);have hb7:=hb6.chg hx7 (by simp;omega);(obtain⟨⟨n0,g0⟩,⟨n1,g1⟩,⟨n2,g2⟩,⟨n3,g3⟩⟩:=hn7.cells4);(obtain⟨⟨m0,-⟩,⟨m1,-⟩,⟨m2,-⟩,⟨m3,-⟩⟩:=hb7.cells4);have hnl7:=hn7.lt))
   refine za4 (((hqY.trans hx6).alloc _).trans hx7) hlt hc7 hn7 (fun W2 r0 r1 r2 r3=>by simp[results,Tryz.results79,go_sem,r0,r1,r2,r3]) rfl fun W2 k1 k2 k3=>⟨k2,?_⟩
   rw[HE.out]
   refine⟨k1,_,rfl,_,_,_,_,rfl,?_⟩
   have hcl:=hqY.size
   exact Dat.Fs.mono (Dat.Fs.chg (Dat.Fs.chg (Dat.Fs.ext hg (zb _ _)) hx7 (fun g hg=>by simp;omega)) k3 (fun g hg=>by simp;omega)) fun g hg _=>(by omega)
theorem zo9 {cb:Nat}{l:List Tok}(hl:l.length≤1073741824) (hnel:0<l.length){ks:List Tok}{w:World}(h:Cur cb l w ks) (h1:zx sNot ks=none) (h2:zx sAll ks=none) (h3:zx zj0 ks=none) (h4:zx zbp ks=none) :
  Calls Tryz.prog 79 #[.pointer (some ⟨cb,0,none⟩)] w (zu zc7 cb l w (zr ks)):=by
 have HE:=Lib.hid (show zr ks=za3 ks by rw[zdc];unfold zan;rw[h1,h2,h3,h4])
 have HT1:=Lib.hid (fun w' (h:Cur cb l w' ks)=>za9 hl h h1)
 simp only[sNot]at HT1
 have HT2:=Lib.hid (fun w' (h:Cur cb l w' ks)=>za9 hl h h2)
 simp only[sAll]at HT2
 have HT3:=Lib.hid (fun w' (h:Cur cb l w' ks)=>za9 hl h h3)
 simp only[zj0]at HT3
 have HT4:=Lib.hid (fun w' (h:Cur cb l w' ks)=>za9 hl h h4)
 simp only[zbp]at HT4
 clear h1 h2 h3 h4
 have HC:=Lib.hid h
 have hlt:=h.lt
 have hne:w.heap.size≠cb:=by omega
 clear h
 obtain⟨W,hW⟩:∃W,W=w.alloc (.cells #[.int .i64 0,.slice none 0 0,.slice none 0 0,.slice none 0 0] 29):=⟨_,rfl⟩
 have hx0:Ext w W:=by rw[hW];exact zb _ _
 have hnW:Own W w.heap.size [.int .i64 0,.slice none 0 0,.slice none 0 0,.slice none 0 0]:=by rw[hW];exact own4 w _ _ _ _ _
 go_enter Tryz.func79,Tryz.ntmps79
 go_upto_region 11 with (first|(rw[←hW];clear hW;go_at_call 81;with_reducible refine(HT1.out _ (HC.out.ext hx0)).mono ?_;rintro e w1 ⟨rfl,hx1'⟩;have hx1:=hx0.trans hx1')|(go_at_call 81;with_reducible refine(HT2.out _ (HC.out.ext hx1)).mono ?_;rintro e w2 ⟨rfl,hx2'⟩;have hx2:=hx1.trans hx2')|(go_at_call 81;with_reducible refine(HT3.out _ (HC.out.ext hx2)).mono ?_;rintro e w3 ⟨rfl,hx3'⟩;have hx3:=hx2.trans hx3')|(go_at_call 81;with_reducible refine(HT4.out _ (HC.out.ext hx3)).mono ?_;rintro e w4 ⟨rfl,hx4'⟩;have hx4:=hx3.trans hx4'))
 have hnY:=hnW.ext ((((hx1').trans hx2').trans hx3').trans hx4')
 have hnl:=hnY.lt
 have hcY:=HC.out.ext hx4
 have hqY:Chg [cb] w w4:=Chg.of_ext hx4
 generalize w4=Y at *
 clear HC HT1 HT2 HT3 HT4 hnW
 have HX:=Lib.hid (ztz hl hnel hcY)
 unfold zu at HX
 cases hk:za3 ks with
 |bad r2 =>
  rw[hk]at HX HE
  clear hk
  go_wp2_with (go_at_call 131;refine(HX.out).mono ?_;rintro e w6 ⟨hx6,rfl⟩)
  exact⟨rfl,hqY.trans hx6,(by rw[HE.out])⟩
 |ok g r2 =>
  rw[hk]at HX HE
  clear hk
  go_wp2_with (go_at_call 131;refine(HX.out).mono ?_;rintro e w6 ⟨hx6,hc6,v,rfl,xa,xb,xc,xd,rfl,hg⟩;(have hg':=hg);(obtain⟨d1,e1,d2,e2,d3,e3,rfl,rfl,rfl,rfl,-⟩:=hg'.form);clear hg';have hn6:=hnY.chg hx6 (by simpa using hne);(obtain⟨⟨n0,g0⟩,⟨n1,g1⟩,⟨n2,g2⟩,⟨n3,g3⟩⟩:=hn6.cells4);have hnl6:=hn6.lt)
  refine za4 (hqY.trans hx6) hlt hc6 hn6 (fun W2 r0 r1 r2 r3=>by simp[results,Tryz.results79,go_sem,r0,r1,r2,r3]) rfl fun W2 k1 k2 k3=>⟨k2,?_⟩
  rw[HE.out]
  exact⟨k1,_,rfl,_,_,_,_,rfl,Dat.Fs.mono (Dat.Fs.chg hg k3 (fun g hg=>by simp;omega)) fun g hg _=>(by omega)⟩
theorem zvn {cb:Nat}{l:List Tok}(hl:l.length≤1073741824) (hnel:0<l.length){n:Nat}(hU:zcj cb l n):zcj cb l (n+1):=fun ks hk w h=>by
 cases h1:zx sNot ks with
 |some r=>exact zyq hl hnel hU hk h h1
 |none=>cases h2:zx sAll ks with
  |some r=>exact zyr hl hnel hU hk h h1 h2
  |none=>cases h3:zx zj0 ks with
   |some r=>exact zvm hl hnel hU hk h h1 h2 h3
   |none=>cases h4:zx zbp ks with
    |some r=>exact zys hl hnel hU hk h h1 h2 h3 h4
    |none=>exact zo9 hl hnel h h1 h2 h3 h4
theorem zsz {cb:Nat}{l:List Tok}(hl:l.length≤1073741824) (hnel:0<l.length):∀n,zcj cb l n
 |0=>fun ks hk w h=>by
  have:ks=[]:=List.eq_nil_of_length_eq_zero (by omega)
  subst this
  exact zo9 hl hnel h rfl rfl rfl rfl
 |n+1=>zvn hl hnel (zsz hl hnel n)
theorem zrb {cb:Nat}{l:List Tok}(hl:l.length≤1073741824) (hnel:0<l.length){ks:List Tok}{w:World}(h:Cur cb l w ks) :
  Calls Tryz.prog 40 #[.pointer (some ⟨cb,0,none⟩)] w (zu zc7 cb l w (zex ks)):=zsy hl (zsz hl hnel ks.length) (Nat.le_refl _) h
theorem zrc (np lp:Addr) (w:World) :
  CallsD Tryz.prog 39 #[.pointer (some np),.pointer (some lp)] .returning w fun e u' w'=>e=.returned (.tuple #[])∧u'=.returning∧w'=w:=by
 refine callsD_of_wpS Tryz.func39 rfl fun c₀ cs hu=>?_
 simp only[Tryz.ntmps39,List.size_toArray,List.length_cons,List.length_nil,Nat.reduceAdd,Nat.reduceSub,Array.replicate_succ,Array.replicate_zero,List.push_toArray,List.append_toArray,List.nil_append,List.cons_append]
 apply wpS_seq
 apply wpS_region
 simp[wpOpsS,go_sem,recoverD,hu,Exit.thenS]
 refine wpS_of_wp (wp_mono (Q:=bodyPost Tryz.prog Tryz.f39 fun e w'=>e=.returned (.tuple #[])∧w'=w) ?_ ?_)
 ·clear hu
  go_wp2
  go_returns
  exact⟨rfl,rfl⟩
 ·intro e a' w' h
  cases e with
  |normal=>obtain⟨hd,v,hr,h1,h2⟩:=h;injection h1 with h1;exact⟨hd,.returning,by rw[←hu],v,hr,by rw[h1],rfl,h2⟩
  |ret=>obtain⟨hd,v,hr,h1,h2⟩:=h;injection h1 with h1;exact⟨hd,.returning,by rw[←hu],v,hr,by rw[h1],rfl,h2⟩
  |exit i=>exact h.elim
  |goto t=>exact h.elim
  |panic ch=>obtain⟨_,h1,_⟩:=h;cases h1
  |outgrown=>obtain⟨h1,_⟩:=h;cases h1
theorem zi8 (x:Value) (w:World):(Instr.typeAssert (.iface 122 x) 20 122 true).run Tryz.prog w=.ok (.tuple #[x,.bool true]) w:=by kernel_rfl
theorem zpa (nb lb n:Nat) (x:Int) (older:List PanicEntry) (w:World) (hn:Own w nb [.int .i64 x]) (hl:Own w lb [.bool false]) (hne:nb≠lb) :
  CallsD Tryz.prog 39 #[.pointer (some ⟨nb,0,none⟩),.pointer (some ⟨lb,0,none⟩)] (.panicking (zch n::older)) w fun e u' w' =>
   e=.returned (.tuple #[])∧u'=.panicking ({ zch n with recovered:=true }::older)∧w'=((w.setCell ⟨nb,0,none⟩ (.int .i64 n)).setCell ⟨lb,0,none⟩ (.bool true)).alloc (.cells #[.int .i64 n] 122):=by
 have hnl:=hn.lt
 have hll:=hl.lt
 obtain⟨c0,f0⟩:=hn 0 _ rfl
 obtain⟨c1,f1⟩:=hl 0 _ rfl
 have hne':lb≠nb:=Ne.symm hne
 have hta:=zi8
 unfold zch
 refine callsD_of_wpS Tryz.func39 rfl fun c₀ cs hu=>?_
 simp only[Tryz.ntmps39,List.size_toArray,List.length_cons,List.length_nil,Nat.reduceAdd,Nat.reduceSub,Array.replicate_succ,Array.replicate_zero,List.push_toArray,List.append_toArray,List.nil_append,List.cons_append]
 apply wpS_seq
 apply wpS_region
 simp[wpOpsS,go_sem,recoverD,hu,Exit.thenS]
 refine wpS_of_wp (wp_mono (Q:=bodyPost Tryz.prog Tryz.f39 fun e w'=>e=.returned (.tuple #[])∧w'=((w.setCell ⟨nb,0,none⟩ (.int .i64 n)).setCell ⟨lb,0,none⟩ (.bool true)).alloc (.cells #[.int .i64 n] 122)) ?_ ?_)
 ·clear hu
  go_wp2
  go_returns
  exact⟨rfl,rfl⟩
 ·intro e a' w' h
  cases e with
  |normal=>obtain⟨hd,v,hr,h1,h2⟩:=h;injection h1 with h1;exact⟨hd,_,rfl,v,hr,by rw[h1],rfl,h2⟩
  |ret=>obtain⟨hd,v,hr,h1,h2⟩:=h;injection h1 with h1;exact⟨hd,_,rfl,v,hr,by rw[h1],rfl,h2⟩
  |exit i=>exact h.elim
  |goto t=>exact h.elim
  |panic ch=>obtain⟨_,h1,_⟩:=h;cases h1
  |outgrown=>obtain⟨h1,_⟩:=h;cases h1
def zpb (cb fb nb lb:Nat) (l:List Tok) (w:World) (rd:Rd Fm) (e:Ending) (w':World):Prop :=
 e=.returned (.tuple #[])∧match rd with
 |.ok x r=>Chg [cb,fb] w w'∧(∃x0 x1 x2 x3,Own w' fb [x0,x1,x2,x3]∧IsFm (fun g=>w.heap.size≤g) w' x0 x1 x2 x3 x)∧∃a c,Own w' cb [.slice a l.length c,.int .i64 (l.length-r.length:Nat)]
 |.bad r=>Chg [cb,nb,lb] w w'∧Own w' nb [.int .i64 (zck l r)]∧Own w' lb [.bool true]
theorem zvo {cb:Nat}{l:List Tok}(hl:l.length≤1073741824) (hnel:0<l.length){ks:List Tok}{w:World}(h:Cur cb l w ks){fb nb lb pb:Nat}{z0 z1 z2 z3:Value}
  (hf:Own w fb [z0,z1,z2,z3]) (hn:Own w nb [.int .i64 0]) (hlb:Own w lb [.bool false]) (hp:w.cell? ⟨pb,0,none⟩=some (.pointer (some ⟨cb,0,none⟩))) (h1:fb≠cb) (h2:nb≠cb) (h3:lb≠cb) (h5:nb≠lb) (h6:fb<w.heap.size) :
  Calls Tryz.prog 38 #[.pointer (some ⟨nb,0,none⟩),.pointer (some ⟨lb,0,none⟩),.pointer (some ⟨pb,0,none⟩),.pointer (some ⟨fb,0,none⟩)] w (zpb cb fb nb lb l w (zex ks)):=by
 have HF:=Lib.hid (zrb hl hnel h)
 unfold zu at HF
 cases hk:zex ks with
 |bad r =>
  rw[hk]at HF
  clear hk
  go_enter_defers Tryz.func38,Tryz.ntmps38
  go_wp2_with (go_at_call 40;refine(HF.out).mono ?_;rintro e w1 ⟨hx1,rfl⟩)
  refine leaves_cons (f:=39) (args:=#[.pointer (some ⟨nb,0,none⟩),.pointer (some ⟨lb,0,none⟩)]) (by simp) (by simp[go_sem]) ?_
  refine(zpa nb lb (zck l r) 0 [] w1 (hn.chg hx1 (by simpa using h2)) (hlb.chg hx1 (by simpa using h3)) h5).mono ?_
  rintro e u' w2 ⟨rfl,rfl,rfl⟩
  simp[Leaves,settle,results,Tryz.results38,go_sem]
  have hn1:=(hn.chg hx1 (by simpa using h2)).set (i:=0) (by simp) (.int .i64 (zck l r))
  have hn2:=(hn1.chg ((Chg.refl [lb] _).setCell (p:=⟨lb,0,none⟩) (.bool true) (.inl (by simp))) (by simpa using h5)).ext (zb _ (.cells #[.int .i64 (zck l r)] 122))
  have hl1:=((hlb.chg hx1 (by simpa using h3)).chg ((Chg.refl [nb] w1).setCell (p:=⟨nb,0,none⟩) (.int .i64 (zck l r)) (.inl (by simp))) (by simpa using Ne.symm h5)).set (i:=0) (by simp) (.bool true)
  exact⟨rfl,(((hx1.mono (T:=[cb,nb,lb]) (by simp)).setCell _ (.inl (by simp))).setCell _ (.inl (by simp))).alloc _,hn2,hl1.ext (zb _ _)⟩
 |ok x r =>
  rw[hk]at HF
  clear hk
  go_enter_defers Tryz.func38,Tryz.ntmps38
  go_wp2_with (go_at_call 40;refine(HF.out).mono ?_;rintro e w1 ⟨hx1,hc1,v,rfl,xa,xb,xc,xd,rfl,hv⟩;have hf1:=hf.chg hx1 (by simpa using h1);(obtain⟨⟨n0,g0⟩,⟨n1,g1⟩,⟨n2,g2⟩,⟨n3,g3⟩⟩:=hf1.cells4);(have hv':=hv);(obtain⟨d1,e1,d2,e2,d3,e3,rfl,rfl,rfl,rfl,-⟩:=hv'.form);clear hv')
  refine leaves_cons (f:=39) (args:=#[.pointer (some ⟨nb,0,none⟩),.pointer (some ⟨lb,0,none⟩)]) (by simp) (by simp[go_sem]) ?_
  refine(zrc ⟨nb,0,none⟩ ⟨lb,0,none⟩ _).mono ?_
  rintro e u' w2 ⟨rfl,rfl,rfl⟩
  simp[Leaves,settle,results,Tryz.results38,go_sem]
  obtain⟨hsf,a,c,hcw,-,-⟩:=hc1
  have hch:=zbr w1 fb (.int .i64 x.op) (.slice d1 x.vars.length e1) (.slice d2 x.terms.length e2) (.slice d3 x.args.length e3)
  exact⟨rfl,(hx1.mono (by simp)).trans (hch.mono (by simp)),⟨_,_,_,_,zbq hf1 _ _ _ _,Dat.Fs.chg hv hch (fun g hg=>by simp;omega)⟩,a,c,hcw.chg hch (by simpa using Ne.symm h1)⟩
end Go.Proofs.YtnclgkdpafhogaaGreat
