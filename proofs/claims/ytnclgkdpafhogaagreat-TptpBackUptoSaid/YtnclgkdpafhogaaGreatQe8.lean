/- formula.Cursor.term, row over terms. Condition: a row of at most 2^30 tokens, not empty.
formula.of; formula.Cursor.atomic. Condition: a row of at most 2^30 tokens, not empty.
formula.Cursor.bound, from what unit does. Condition: a row of at most 2^30 tokens, not empty.
literal, of the program and of the reference. No condition.
formula.Cursor.formula where units stand in a row, from what unit does. Condition: a row of at most 2^30 tokens, not empty.
formula.Cursor.formula where no sign stands behind the unit, from what unit does. Condition: a row of at most 2^30 tokens, not empty. -/
import Derived.Test.YtnclgkdpafhogaaGreatQe7
import Derived.Deep.CutRange
import Derived.Deep.CutBlock
import Derived.Deep.RegionWith
import Derived.Deep.RegionHeld3
import Derived.Test.YtnclgkdpafhogaaGreatQe1
import Derived.Deep.LoopGhost
set_option maxHeartbeats 16000000
set_option maxRecDepth 100000
namespace Go.Proofs.YtnclgkdpafhogaaGreat
open Go.ChangeShapes Go.WideShapes Go.ChangeAt Go.RowKit
def zye (P:Nat→Prop) (w:World) (v:Value) (x:Ex):Prop:=∃a b c,v=.agg #[a,b,c]∧IsEx P w a b c x
def z2d (P:Nat→Prop) (w:World) (v:Value) (x:List Ex):Prop:=∃a c,v=.slice a x.length c∧x.length≤c∧IsExs P w a x
theorem zyf:(Tryz.prog.info? 73).map (fun i=>(i.zero,i.size,i.bytes))=some (some (.agg #[.bool false,.string ⟨#[]⟩,.slice none 0 0]),3,48):=by kernel_rfl
def zyg (cb:Nat) (l:List Tok) (n:Nat):Prop:=∀ks,ks.length≤n→∀w,Cur cb l w ks→Calls Tryz.prog 168 #[.pointer (some ⟨cb,0,none⟩)] w (zu zye cb l w (za2 ks))
theorem z0q {P Q:Nat→Prop}{w:World}{a b c:Value}{x:Ex}(h:IsEx P w a b c x) (hQ:∀g,P g→g<w.heap.size→Q g):(z6 3).is Q w [a,b,c] x.dat :=
 ⟨rfl,Dat.Fs.mono h hQ⟩
theorem zmd {α:Type}{E:Elt α}{e B:Nat}{w:World}{v:Value}{m:List α}(h:GRow E e B w v m){g:Nat}(hg:w.heap.size≤g) (hB:B≤g):B≤g∧v.ownBlock≠some g :=
 ⟨hB,fun he=>by have:=(h.own_ge he).2;omega⟩
section
variable {cb:Nat}{l:List Tok}
def z1x (cb:Nat) (l:List Tok) (ks:List Tok) (w:World) (g:Nat) (v:Value) (wr:World):Prop :=
 ∃(r:List Tok) (pre:List Ex),g=r.length∧GRow (z6 3) 73 w.heap.size wr v (pre.map Ex.dat)∧Cur cb l wr r∧Chg [cb] w wr∧pre.length+r.length≤ks.length∧rowR za2 zj ks=(more za2 zj r).map (pre++·)
theorem z0r (hl:l.length≤1073741824){n:Nat}(hT:zyg cb l n){ks:List Tok}(hn:ks.length≤n){w:World}(h:Cur cb l w ks) :
  Calls Tryz.prog 186 #[.pointer (some ⟨cb,0,none⟩),.func (.func 168) #[.pointer (some ⟨cb,0,none⟩)] #[]] w (zu z2d cb l w (rowR za2 zj ks)):=by
 obtain⟨i0,hi0,hz0,hz1',hz2'⟩:=info_parts zyf
 have H1:=Lib.hid (hT ks hn w h)
 unfold zu at H1
 have HT0:=Lib.hid hT
 clear hT
 have hcb:=h.lt
 cases hk:za2 ks with
 |bad r =>
  have HR:=Lib.hid (show rowR za2 zj ks=.bad r by unfold rowR;rw[hk];rfl)
  rw[hk]at H1
  clear hk h
  go_enter Tryz.func186,Tryz.ntmps186
  go_wp2_with (go_at_call 168;refine(H1.out).mono ?_;rintro e w1 ⟨hx1,rfl⟩)
  refine⟨rfl,hx1,?_⟩
  rw[HR.out]
 |ok x r =>
  have HR:=Lib.hid (show rowR za2 zj ks=(more za2 zj r).map ([x]++·) by unfold rowR;rw[hk];rfl)
  have hrl:=zf2 hk
  rw[hk]at H1
  clear hk
  go_enter Tryz.func186,Tryz.ntmps186
  go_wp2_with (go_at_call 168;refine(H1.out).mono ?_;rintro e w1 ⟨hx1,hc1,v,rfl,a,b,c,rfl,hv⟩)
  go_loopg [5] r.length (fun g v wr=>z1x cb l ks w g v wr)
  case atStart=>exact⟨r,[x],rfl,GRow.one hx1.size (z0q hv fun g hg hlt=>⟨hg,hlt⟩) _ rfl,hc1.ext (zb _ _),hx1.alloc _,by simp;omega,HR.out⟩
  case round =>
   obtain⟨r,pre,hg,hrow,hc,hx,hlen,heq⟩:=hrel
   have HEQ:=Lib.hid heq
   have HG:=Lib.hid hg
   have HROW:=Lib.hid hrow
   have HML:=Lib.hid (show(pre.map Ex.dat).length=pre.length by simp)
   obtain⟨va,vc,hv,hvc⟩:=hrow.form
   rw[HML.out]at hv hvc
   subst hv
   have HM:=Lib.hid (zdj (one:=za2) (sep:=zj) (ks:=r) (zew _))
   have hpl:pre.length≤1073741824:=by
    have:=hc.1.length_le
    have:=h.1.length_le
    omega
   clear heq hg hrow H1
   cases ht:zx zj r with
   |none =>
    have HT:=Lib.hid (za9 hl hc ht)
    rw[ht]at HM
    clear ht
    simp only[zj]at HT
    go_wp2_with (go_at_call 81;refine(HT.out).mono ?_;rintro e w2 ⟨rfl,hx2⟩)
    go_ret
    refine⟨hx.trans (Chg.of_ext hx2),?_⟩
    rw[HEQ.out,HM.out]
    refine⟨hc.ext hx2,_,rfl,?_⟩
    simp only[List.append_nil]
    obtain⟨a,c,hv,hvc,hd⟩:=GRow.dat (by decide) (HROW.out.ext hx2)
    rw[List.length_map]at hv hvc
    exact⟨a,c,hv,hvc,by unfold IsExs;rw[Ex.dats_map];exact hd⟩
   |some r1 =>
    have HT:=Lib.hid (zbt hl hc ht)
    rw[ht]at HM
    have hr1:=zv ht
    have HSUF:=Lib.hid (zbm ht)
    simp only[zj]at HT
    clear ht
    cases hk:za2 r1 with
    |bad r2 =>
     have HN:=Lib.hid (fun w' (h:Cur cb l w' r1)=>HT0.out r1 (by omega) w' h)
     unfold zu at HN
     rw[hk]at HN
     have HR:=Lib.hid (show rowR za2 zj ks=.bad r2 by rw[HEQ.out,HM.out];simp only;rw[hk];rfl)
     clear hk
     go_wp2_with (first|(go_at_call 81;refine(HT.out).mono ?_;rintro e w2 ⟨rfl,hc2,hx2⟩)|(go_at_call 168;refine(HN.out _ hc2).mono ?_;rintro e w3 ⟨hx3,rfl⟩))
     refine⟨rfl,(hx.trans hx2).trans hx3,?_⟩
     rw[HR.out]
    |ok y r2 =>
     have HN:=Lib.hid (fun w' (h:Cur cb l w' r1)=>HT0.out r1 (by omega) w' h)
     unfold zu at HN
     rw[hk]at HN
     have hr2:=zf2 hk
     have HR:=Lib.hid (show rowR za2 zj ks=(more za2 zj r2).map ((pre++[y])++·) by rw[HEQ.out,HM.out];simp only;rw[hk];simp only[Rd.bind_ok];cases more za2 zj r2<;>simp)
     clear hk
     go_wp2_with (first|(go_at_call 81;refine(HT.out).mono ?_;rintro e w2 ⟨rfl,hc2,hx2⟩)|(go_at_call 168;refine(HN.out _ hc2).mono ?_;rintro e w3 ⟨hx3,hc3,v,rfl,xa,xb,xc,rfl,hv⟩)|(at_builtin;refine zav rfl _ _ _ rfl 73 i0 _ 48 Tryz.underlying26 hi0 hz0 hz1' hz2' rfl (by decide) w.heap.size (.slice va pre.length vc) (pre.map Ex.dat) rfl w3 ((HROW.out.chg hx2 (by simpa using hcb)).chg hx3 (by simpa using hcb)) (zb _ _) w3.heap.size rfl _ _ (heap_alloc_new _ _) y.dat (z0q (hv.ext (zb _ _)) fun g hg hlt=>zmd HROW.out (by have:=hx2.size;omega) (by have:=hx.size;have:=hx2.size;omega)) (by go_light;rw[HML.out];simp only[maxLen];omega) (by go_light;rw[HML.out];omega) (by go_light;have:=hx.size;have:=hx2.size;have:=hx3.size;simp;omega) ?_;intro g2 cap2 w4 hrow4 hgrow4 hat4 hlt4;rw[HML.out]at hrow4 ⊢))
     go_roundg r2.length
     case measure=>have:=HG.out;go_light;omega
     case rel =>
      have hgr:=((HROW.out.chg hx2 (by simpa using hcb)).chg hx3 (by simpa using hcb))
      refine⟨r2,pre++[y],rfl,?_,(hc3.ext (zb _ _)).append hgr hcb hgrow4,zci ((hx.trans hx2).trans hx3) hgr (Nat.le_refl _) (zb _ _) hgrow4,by simp;omega,HR.out⟩
      rw[List.map_append]
      exact hrow4
theorem zo2 {P:Nat→Prop}{w:World}:IsExs P w none []:=by unfold IsExs;rw[Ex.dats_map,List.map_nil];trivial
theorem zyh {P:Nat→Prop}{w:World}(v:Bool){n:ByteArray}(hn:n.size≤1073741824):IsEx P w (.bool v) (.string n) (.slice none 0 0) (.mk v n []):=IsEx.mk' (l:=[]) (a:=none) (c:=0) hn (Nat.le_refl _) zo2
theorem zkd {w:World}{nb:Nat}{x y z:Value}(h:Own w nb [x,y,z]):w.cell? ⟨nb,0,none⟩=some x∧w.cell? ⟨nb,1,none⟩=some y∧w.cell? ⟨nb,2,none⟩=some z:=⟨(h 0 _ rfl).1,(h 1 _ rfl).1,(h 2 _ rfl).1⟩
theorem zyi {t:Tok}(h:t.kind=2):t.named=false:=by unfold Tok.named;rw[h];rfl
theorem ztw (hl:l.length≤1073741824) (hne:0<l.length){ks:List Tok}{w:World}(h:Cur cb l w ks) (h2:(zt ks).kind≠2) (hn:(zt ks).named=false) :
  Calls Tryz.prog 168 #[.pointer (some ⟨cb,0,none⟩)] w (zu zye cb l w (za2 ks)):=by
 have HE:=Lib.hid (show za2 ks=.bad ks by
  rw[zhz]
  cases ks with
  |nil=>rfl
  |cons t r =>
   have h2:t.kind≠2:=h2
   have hn:t.named=false:=hn
   rw[zam,if_neg h2,hn];rfl)
 have HP:=Lib.hid (fun w' (hx:Ext w w')=>zab hl (h.ext hx))
 have HB:=Lib.hid (fun w' (hx:Ext w w')=>zg2 hl hne (h.ext hx))
 have hsz:(zt ks).text.size≤1073741824:=by
  cases ks with
  |nil=>exact Nat.zero_le _
  |cons t r=>exact(h.toks t (by simp)).2.1
 have HNM:=Lib.hid (fun w=>zmb (w:=w) (zt ks) hsz)
 rw[hn]at HNM
 generalize zt ks=t at *
 obtain⟨kd,tx,ta⟩:=t
 have q1:(kd==2)=false:=by rw[beq_eq_false_iff_ne];exact h2
 simp only at hsz
 clear hn h2 h
 go_enter Tryz.func168,Tryz.ntmps168
 go_wp2_with (first|(go_at_call 80;refine(HP.out _ (zb _ _)).mono ?_;rintro e w1 ⟨rfl,hx1⟩;simp only[Tok.vals])|(go_at_call 179;refine(HNM.out _).mono ?_;rintro e w2 ⟨rfl,hx2⟩;have hx3:=((zb _ _).trans hx1).trans ((zb _ _).trans hx2))|(go_at_call 113;refine(HB.out _ hx3).mono ?_;rintro e w3 ⟨rfl,hx4⟩))
 refine⟨rfl,Chg.of_ext (hx3.trans hx4),?_⟩
 rw[HE.out]
theorem z0s (hl:l.length≤1073741824){t:Tok}{r:List Tok}{w:World}(h:Cur cb l w (t::r)) (h2:t.kind=2) :
  Calls Tryz.prog 168 #[.pointer (some ⟨cb,0,none⟩)] w (zu zye cb l w (za2 (t::r))):=by
 have HP:=Lib.hid (fun w' (hx:Ext w w')=>zab hl (h.ext hx))
 have HC:=Lib.hid h
 obtain⟨hs,a,c,hown,hc,htk⟩:=h
 have hlt:=hown.lt
 have htok:=HC.out.toks t (by simp)
 obtain⟨p,hp,hpt,hp1,hp2,hp3⟩:=zdn hs
 rw[hp2]at hown
 obtain⟨c1,f1⟩:=hown 1 _ rfl
 have HR:=Lib.hid hp3
 have hsr:r <:+ l:=(List.suffix_cons _ _).trans hs
 have he:zt (t::r)=t:=rfl
 rw[he]at HP
 have HE:=Lib.hid (show za2 (t::r)=.ok (.mk true t.text []) r by rw[zhz,zam,if_pos h2])
 have hsz:=htok.2.1
 obtain⟨kd,tx,ta⟩:=t
 simp only at HE hsz
 have q1:(kd==2)=true:=by rw[beq_iff_eq];exact h2
 clear hs hpt hp2 hp3 he htk hown htok h2
 obtain⟨W,hW⟩:∃W,W=w.alloc (.cells #[.bool false,.string ⟨#[]⟩,.slice none 0 0] 73):=⟨_,rfl⟩
 have hx:Ext w W:=by rw[hW];exact zb _ _
 have hnew:Own W w.heap.size [.bool false,.string ⟨#[]⟩,.slice none 0 0]:=by rw[hW];exact own3 w _ _ _ _
 go_enter Tryz.func168,Tryz.ntmps168
 go_wp2_with (rw[←hW];clear hW;go_at_call 80;refine(HP.out _ hx).mono ?_;rintro e w1 ⟨rfl,hx1⟩;simp only[Tok.vals];replace f1:=(hx.trans hx1).frozen c1 f1;replace c1:=(hx.trans hx1).cell c1;replace hnew:=hnew.ext hx1;have hlt1:cb<w1.heap.size:=zf c1;have hlt2:=hnew.lt;(obtain⟨n0,g0⟩:=hnew 0 _ rfl);(obtain⟨n1,g1⟩:=hnew 1 _ rfl);(obtain⟨n2,g2⟩:=hnew 2 _ rfl);have hne:w.heap.size≠cb:=by omega)
 have hch:=(zd2 (w1.setCell ⟨cb,1,none⟩ (.int .i64 ((p:Int)+1))) w.heap.size (.bool true) (.string tx) (.slice none 0 0)).alloc (.cells #[.int .i64 kd,.string tx,.int .i64 ta] 77)
 obtain⟨k1,k2⟩:=HC.out.set (hx.trans hx1) hsr (by rw[HR.out];omega) (Nat.le_refl _) hch
 have hres:=(zc8 (hnew.chg ((Chg.refl [cb] w1).setCell (p:=⟨cb,1,none⟩) (.int .i64 ((p:Int)+1)) (.inl (by simp))) (by simpa using hne)) (.bool true) (.string tx) (.slice none 0 0)).ext (zb _ (.cells #[.int .i64 kd,.string tx,.int .i64 ta] 77))
 clear hch hnew c1 f1 n0 n1 n2 g0 g1 g2 hlt1 hlt2
 generalize ((((w1.setCell ⟨cb,1,none⟩ (.int .i64 ((p:Int)+1))).setCell ⟨w.heap.size,0,none⟩ (.bool true)).setCell ⟨w.heap.size,1,none⟩ (.string tx)).setCell ⟨w.heap.size,2,none⟩ (.slice none 0 0)).alloc (.cells #[.int .i64 kd,.string tx,.int .i64 ta] 77)=W2 at *
 obtain⟨r0,r1,r2⟩:=zkd hres
 refine bodyPost_ret (v:=.agg #[.bool true,.string tx,.slice none 0 0]) (by simp[results,Tryz.results168,go_sem,r0,r1,r2]) rfl ⟨k2,?_⟩
 rw[HE.out]
 exact⟨k1,_,rfl,_,_,_,rfl,zyh true hsz⟩
theorem zvg (hl:l.length≤1073741824) (hnel:0<l.length){n:Nat}(ih:zyg cb l n){t:Tok}{r:List Tok}{w:World}(h:Cur cb l w (t::r)) (hrn:r.length≤n) (hnm:t.named=true) :
  Calls Tryz.prog 168 #[.pointer (some ⟨cb,0,none⟩)] w (zu zye cb l w (za2 (t::r))):=by
 have h2:t.kind≠2:=fun h2=>by rw[zyi h2]at hnm;cases hnm
 have HP:=Lib.hid (fun w' (hx:Ext w w')=>zab hl (h.ext hx))
 have HC:=Lib.hid h
 obtain⟨hs,a,c,hown,hc,htk⟩:=h
 have hlt:=hown.lt
 have htok:=HC.out.toks t (by simp)
 obtain⟨p,hp,hpt,hp1,hp2,hp3⟩:=zdn hs
 rw[hp2]at hown
 obtain⟨c1,f1⟩:=hown 1 _ rfl
 have HR:=Lib.hid hp3
 have hsr:r <:+ l:=(List.suffix_cons _ _).trans hs
 have he:zt (t::r)=t:=rfl
 rw[he]at HP
 have HE:=Lib.hid (show za2 (t::r)=_ by rw[zhz,zam,if_neg h2,if_pos hnm])
 have HNM:=Lib.hid (fun w=>zmb (w:=w) t htok.2.1)
 rw[hnm]at HNM
 have hsz:=htok.2.1
 obtain⟨kd,tx,ta⟩:=t
 simp only at HE hsz
 have q1:(kd==2)=false:=by rw[beq_eq_false_iff_ne];exact h2
 have HROW:=Lib.hid (fun w' ks' (hn:ks'.length≤n) (h:Cur cb l w' ks')=>z0r hl ih hn h)
 clear hs hpt hp2 hp3 he htk hown htok h2 ih hnm
 obtain⟨W,hW⟩:∃W,W=w.alloc (.cells #[.bool false,.string ⟨#[]⟩,.slice none 0 0] 73):=⟨_,rfl⟩
 have hx:Ext w W:=by rw[hW];exact zb _ _
 have hnew:Own W w.heap.size [.bool false,.string ⟨#[]⟩,.slice none 0 0]:=by rw[hW];exact own3 w _ _ _ _
 go_enter Tryz.func168,Tryz.ntmps168
 go_upto_region 9 with (first|(rw[←hW];clear hW;go_at_call 80;refine(HP.out _ hx).mono ?_;rintro e w1 ⟨rfl,hx1⟩;simp only[Tok.vals];replace f1:=(hx.trans hx1).frozen c1 f1;replace c1:=(hx.trans hx1).cell c1;replace hnew:=hnew.ext hx1;have hlt1:cb<w1.heap.size:=zf c1;have hlt2:=hnew.lt;(obtain⟨n0,g0⟩:=hnew 0 _ rfl);(obtain⟨n1,g1⟩:=hnew 1 _ rfl);(obtain⟨n2,g2⟩:=hnew 2 _ rfl);have hne:w.heap.size≠cb:=by omega)|(go_at_call 179;refine(HNM.out _).mono ?_;rintro e w2 ⟨rfl,hx2'⟩;have hx2:=(zb _ _).trans hx2';(have hne2:w1.heap.size≠cb:=by omega);have t1:=(((own3 w1 (.int .i64 kd) (.string tx) (.int .i64 ta) 77).ext hx2') 1 _ rfl).1;clear hx2' n0 n1 n2 g0 g1 g2 hlt1 hlt2;replace f1:=hx2.frozen c1 f1;replace c1:=hx2.cell c1;replace hnew:=hnew.ext hx2;have hlt1:cb<w2.heap.size:=zf c1;have hlt2:=hnew.lt))
 have hchV:Chg [cb] w2 (w2.setCell ⟨cb,1,none⟩ (.int .i64 ((p:Int)+1))):=(Chg.refl [cb] w2).setCell _ (.inl (by simp))
 have HV:=Lib.hid ((HC.out.ext ((hx.trans hx1).trans hx2)).move hsr (z:=(p:Int)+1) (by rw[HR.out];omega))
 obtain⟨V1,hV1⟩:∃V1,V1=w2.setCell ⟨cb,1,none⟩ (.int .i64 ((p:Int)+1)):=⟨_,rfl⟩
 rw[←hV1]at hchV HV ⊢
 have hz1:=hchV.size
 have hzV:V1.heap.size=w2.heap.size:=by rw[hV1];simp[World.setCell]
 have HZ:=Lib.hid hzV
 have hxb:=own3 V1 (.bool false) (.string tx) (.slice none 0 0) 73
 have hnV:=(hnew.chg hchV (by simpa using hne)).ext (zb V1 (.cells #[.bool false,.string tx,.slice none 0 0] 73))
 have hcV:=HV.out.ext (zb V1 (.cells #[.bool false,.string tx,.slice none 0 0] 73))
 have hqV:Chg [cb] w (V1.alloc (.cells #[.bool false,.string tx,.slice none 0 0] 73)):=(((Chg.of_ext ((hx.trans hx1).trans hx2)).trans hchV).alloc _)
 rw[hzV]at hxb
 clear hchV HV hV1 hz1 hzV HZ hnew c1 f1 t1
 generalize V1.alloc (.cells #[.bool false,.string tx,.slice none 0 0] 73)=V at *
 have hxn:w2.heap.size≠w.heap.size:=by omega
 have hwx:w.heap.size<w2.heap.size:=hlt2
 clear hx hx1 hx2 hne2 hlt1 hlt2 HP HNM
 generalize w1.heap.size=tb at *
 generalize w2.heap.size=xb at *
 have hcx:cb<xb:=by omega
 have hcx':xb≠cb:=by omega
 cases ht:zx zbp r with
 |none =>
  have HT:=Lib.hid (za9 hl hcV ht)
  rw[ht]at HE
  clear ht
  simp only[zbp]at HT
  go_wp2_with (go_at_call 81;refine(HT.out).mono ?_;rintro e w3 ⟨rfl,hx3⟩;(obtain⟨m0,-⟩:=hxb.ext hx3 0 _ rfl);(obtain⟨m1,-⟩:=hxb.ext hx3 1 _ rfl);(obtain⟨m2,-⟩:=hxb.ext hx3 2 _ rfl);(obtain⟨n0,g0⟩:=hnV.ext hx3 0 _ rfl);(obtain⟨n1,g1⟩:=hnV.ext hx3 1 _ rfl);(obtain⟨n2,g2⟩:=hnV.ext hx3 2 _ rfl))
  have hres:=zc8 (hnV.ext hx3) (.bool false) (.string tx) (.slice none 0 0)
  have hch:=zd2 w3 w.heap.size (.bool false) (.string tx) (.slice none 0 0)
  have hcf:=(hcV.ext hx3).chg hch (by simp;omega)
  have hcq:=Chg.drop (T:=[cb]) (Below.refl _ _) (((hqV.trans (Chg.of_ext hx3)).mono (T:=[cb,w.heap.size]) (by simp)).trans (hch.mono (by simp))) (by simp)
  clear hch m0 m1 m2 n0 n1 n2 g0 g1 g2
  generalize ((w3.setCell ⟨w.heap.size,0,none⟩ (.bool false)).setCell ⟨w.heap.size,1,none⟩ (.string tx)).setCell ⟨w.heap.size,2,none⟩ (.slice none 0 0)=W2 at *
  obtain⟨r0,r1,r2⟩:=zkd hres
  refine bodyPost_ret (v:=.agg #[.bool false,.string tx,.slice none 0 0]) (by simp[results,Tryz.results168,go_sem,r0,r1,r2]) rfl ⟨hcq,?_⟩
  rw[HE.out]
  exact⟨hcf,_,rfl,_,_,_,rfl,zyh false hsz⟩
 |some r1 =>
  have HT:=Lib.hid (zbt hl hcV ht)
  have hr1:=zv ht
  rw[ht]at HE
  simp only at HE
  clear ht
  simp only[zbp]at HT
  have HRW:=Lib.hid (fun w' (h:Cur cb l w' r1)=>HROW.out w' r1 (by omega) h)
  unfold zu at HRW
  clear HROW
  cases hrow:rowR za2 zj r1 with
  |bad r2 =>
   rw[hrow]at HRW HE
   go_wp2_with (first|(go_at_call 81;refine(HT.out).mono ?_;rintro e w3 ⟨rfl,hc3,hx3⟩)|(go_at_call 186;refine(HRW.out _ hc3).mono ?_;rintro e w4 ⟨hx4,rfl⟩))
   refine⟨rfl,(hqV.trans hx3).trans hx4,?_⟩
   rw[HE.out];rfl
  |ok xs r2 =>
   rw[hrow]at HRW HE
   simp only[Rd.bind_ok]at HE
   clear hrow
   cases hm:zw zcx r2 with
   |bad r3 =>
    have HM:=Lib.hid (fun w' (h:Cur cb l w' r2)=>zi4 hl hnel h hm)
    rw[hm]at HE
    clear hm
    simp only[zcx]at HM
    go_wp2_with (first|(go_at_call 81;refine(HT.out).mono ?_;rintro e w3 ⟨rfl,hc3,hx3⟩)|(go_at_call 186;refine(HRW.out _ hc3).mono ?_;rintro e w4 ⟨hx4,hc4,v,rfl,sa,sc,rfl,hsc,hse⟩;have hxb4:=(hxb.chg hx3 (by simpa using hcx')).chg hx4 (by simpa using hcx');have hnV4:=(hnV.chg hx3 (by simpa using hne)).chg hx4 (by simpa using hne);(obtain⟨m2,p2⟩:=hxb4 2 _ rfl);have hs4:=(Chg.refl [xb] w4).setCell (p:=⟨xb,2,none⟩) (.slice sa xs.length sc) (.inl (by simp));have hc5:=hc4.chg hs4 (by simp;omega))|(go_at_call 130;refine(HM.out _ hc5).mono ?_;rintro e w5 ⟨rfl,hx5⟩))
    refine⟨rfl,?_,?_⟩
    ·exact Chg.drop (T:=[cb]) (Below.refl _ _) (((((hqV.trans hx3).trans hx4).mono (T:=[cb,xb]) (by simp)).trans (hs4.mono (by simp))).trans (Chg.of_ext hx5)) (by simp;omega)
    ·rw[HE.out];rfl
   |ok u r3 =>
    have HM:=Lib.hid (fun w' (h:Cur cb l w' r2)=>zii hl h hm)
    rw[hm]at HE
    clear hm
    simp only[zcx]at HM
    go_wp2_with (first|(go_at_call 81;refine(HT.out).mono ?_;rintro e w3 ⟨rfl,hc3,hx3⟩)|(go_at_call 186;refine(HRW.out _ hc3).mono ?_;rintro e w4 ⟨hx4,hc4,v,rfl,sa,sc,rfl,hsc,hse⟩;have hxb4:=(hxb.chg hx3 (by simpa using hcx')).chg hx4 (by simpa using hcx');have hnV4:=(hnV.chg hx3 (by simpa using hne)).chg hx4 (by simpa using hne);(obtain⟨m2,p2⟩:=hxb4 2 _ rfl);have hs4:=(Chg.refl [xb] w4).setCell (p:=⟨xb,2,none⟩) (.slice sa xs.length sc) (.inl (by simp));have hc5:=hc4.chg hs4 (by simp;omega))|(go_at_call 130;refine(HM.out _ hc5).mono ?_;rintro e w5 ⟨rfl,hc6,hx5⟩;have hxb5:=(hxb4.set (i:=2) (by simp) (.slice sa xs.length sc)).chg hx5 (by simpa using hcx');have hnV5:=(hnV4.chg hs4 (by simp;omega)).chg hx5 (by simpa using hne);clear m2 p2;(obtain⟨m0,-⟩:=hxb5 0 _ rfl);(obtain⟨m1,-⟩:=hxb5 1 _ rfl);(obtain⟨m2,-⟩:=hxb5 2 _ rfl);(obtain⟨n0,g0⟩:=hnV5 0 _ rfl);(obtain⟨n1,g1⟩:=hnV5 1 _ rfl);(obtain⟨n2,g2⟩:=hnV5 2 _ rfl)))
    have hres:=zc8 hnV5 (.bool false) (.string tx) (.slice sa xs.length sc)
    have hch:=zd2 w5 w.heap.size (.bool false) (.string tx) (.slice sa xs.length sc)
    have hcf:=hc6.chg hch (by simp;omega)
    have h45:Chg [cb,xb,w.heap.size] w4 _:=((hs4.mono (T:=[cb,xb,w.heap.size]) (by simp)).trans (hx5.mono (by simp))).trans (hch.mono (by simp))
    have hcq:=Chg.drop (T:=[cb]) (Below.refl _ _) ((((hqV.trans hx3).trans hx4).mono (T:=[cb,xb,w.heap.size]) (by simp)).trans h45) (by simp;omega)
    have hxb3:=(hxb.chg hx3 (by simpa using hcx')).lt
    have hle3:=(hqV.trans hx3).size
    have hse':=Dat.Rows.mono (Dat.Rows.chg hse h45 (fun b hb=>by simp;omega)) (Q:=fun g=>w.heap.size≤g) (fun b hb _=>by omega)
    clear hch m0 m1 m2 n0 n1 n2 g0 g1 g2 h45
    generalize ((w5.setCell ⟨w.heap.size,0,none⟩ (.bool false)).setCell ⟨w.heap.size,1,none⟩ (.string tx)).setCell ⟨w.heap.size,2,none⟩ (.slice sa xs.length sc)=W2 at *
    obtain⟨r0,r1,r2⟩:=zkd hres
    refine bodyPost_ret (v:=.agg #[.bool false,.string tx,.slice sa xs.length sc]) (by simp[results,Tryz.results168,go_sem,r0,r1,r2]) rfl ⟨hcq,?_⟩
    rw[HE.out]
    exact⟨hcf,_,rfl,_,_,_,rfl,IsEx.mk' hsz hsc hse'⟩
theorem zey (hl:l.length≤1073741824) (hne:0<l.length):∀n,zyg cb l n
 |0=>fun ks hk w h=>by
  have:ks=[]:=List.eq_nil_of_length_eq_zero (by omega)
  subst this
  exact ztw hl hne h (by decide) rfl
 |n+1=>fun ks hk w h=>by
  by_cases h2:(zt ks).kind=2
  ·cases ks with
   |nil=>exact absurd h2 (by decide)
   |cons t r=>exact z0s hl h h2
  ·cases hn:(zt ks).named with
   |false=>exact ztw hl hne h h2 hn
   |true =>
    cases ks with
    |nil=>exact absurd hn (by decide)
    |cons t r=>exact zvg hl hne (zey hl hne n) h (by simpa using hk) hn
end
def zc7 (P:Nat→Prop) (w:World) (v:Value) (x:Fm):Prop:=∃a b c d,v=.agg #[a,b,c,d]∧IsFm P w a b c d x
theorem zg3 {P:Nat→Prop}{w:World}:IsFms P w none []:=by unfold IsFms;rw[Fm.dats_map,List.map_nil];trivial
theorem zo3 {P:Nat→Prop}{w:World}:IsStrs P w none []:=by unfold IsStrs;rw[List.map_nil];trivial
theorem zf8 {w:World}{arr:Array Value}{ty:TypeId}{i:Nat}{v:Value}(h:arr[i]?=some v):(w.alloc (.cells arr ty)).cell? ⟨w.heap.size,i,none⟩=some v:=by
 unfold World.cell?
 rw[heap_alloc_new]
 exact h
theorem zyj {P:Nat→Prop}{w:World}{a b c:Value}{x:Ex}(ty:TypeId) (h:IsEx P w a b c x) (hs:P w.heap.size):IsExs P (w.alloc (.cells #[a,b,c] ty)) (some ⟨w.heap.size,0,none⟩) [x]:=by
 unfold IsExs;rw[Ex.dats_map]
 refine⟨w.heap.size,0,[a,b,c],rfl,hs,by simp,fun i v hv=>?_,Dat.Fs.ext h (zb _ _),trivial⟩
 exact zf8 (by simpa using hv)
theorem zo4 {P:Nat→Prop}{w:World}{a b c a' b' c':Value}{x y:Ex}(ty:TypeId) (h:IsEx P w a b c x) (h':IsEx P w a' b' c' y) (hs:P w.heap.size):IsExs P (w.alloc (.cells #[a,b,c,a',b',c'] ty)) (some ⟨w.heap.size,0,none⟩) [x,y]:=by
 unfold IsExs;rw[Ex.dats_map]
 refine⟨w.heap.size,0,[a,b,c],rfl,hs,by simp,fun i v hv=>?_,Dat.Fs.ext h (zb _ _),w.heap.size,3,[a',b',c'],?_,hs,by simp,fun i v hv=>?_,Dat.Fs.ext h' (zb _ _),trivial⟩
 ·refine zf8 ?_
  match i,hv with
  |0,hv=>simpa using hv
  |1,hv=>simpa using hv
  |2,hv=>simpa using hv
  |n+3,hv=>simp at hv
 ·rw[Ex.dat_length]
 ·refine zf8 ?_
  match i,hv with
  |0,hv=>simpa using hv
  |1,hv=>simpa using hv
  |2,hv=>simpa using hv
  |n+3,hv=>simp at hv
theorem zi5 {P:Nat→Prop}{w:World}{a b c d:Value}{x:Fm}(ty:TypeId) (h:IsFm P w a b c d x) (hs:P w.heap.size):IsFms P (w.alloc (.cells #[a,b,c,d] ty)) (some ⟨w.heap.size,0,none⟩) [x]:=by
 unfold IsFms;rw[Fm.dats_map]
 refine⟨w.heap.size,0,[a,b,c,d],rfl,hs,by simp,fun i v hv=>?_,Dat.Fs.ext h (zb _ _),trivial⟩
 exact zf8 (by simpa using hv)
theorem zi6 {P:Nat→Prop}{w:World}{a b c d a' b' c' d':Value}{x y:Fm}(ty:TypeId) (h:IsFm P w a b c d x) (h':IsFm P w a' b' c' d' y) (hs:P w.heap.size):IsFms P (w.alloc (.cells #[a,b,c,d,a',b',c',d'] ty)) (some ⟨w.heap.size,0,none⟩) [x,y]:=by
 unfold IsFms;rw[Fm.dats_map]
 refine⟨w.heap.size,0,[a,b,c,d],rfl,hs,by simp,fun i v hv=>?_,Dat.Fs.ext h (zb _ _),w.heap.size,4,[a',b',c',d'],?_,hs,by simp,fun i v hv=>?_,Dat.Fs.ext h' (zb _ _),trivial⟩
 ·refine zf8 ?_
  match i,hv with
  |0,hv=>simpa using hv
  |1,hv=>simpa using hv
  |2,hv=>simpa using hv
  |3,hv=>simpa using hv
  |n+4,hv=>simp at hv
 ·rw[Fm.dat_length]
 ·refine zf8 ?_
  match i,hv with
  |0,hv=>simpa using hv
  |1,hv=>simpa using hv
  |2,hv=>simpa using hv
  |3,hv=>simpa using hv
  |n+4,hv=>simp at hv
theorem zcv {P:Nat→Prop}{w:World}{op:Int}{l:List Fm}{a:Option Addr}{c:Nat}(h0:-9223372036854775808≤op) (h0':op≤9223372036854775807) (hl:l.length≤c) (h:IsFms P w a l):IsFm P w (.int .i64 op) (.slice none 0 0) (.slice none 0 0) (.slice a l.length c) (fOf op l) :=
 IsFm.mk' (v:=[]) (t:=[]) h0 h0' (Nat.le_refl _) (Nat.le_refl _) hl zo3 zo2 h
theorem zf9 {P:Nat→Prop}{w:World}{op:Int}{l:List Ex}{a:Option Addr}{c:Nat}(h0:-9223372036854775808≤op) (h0':op≤9223372036854775807) (hl:l.length≤c) (h:IsExs P w a l):IsFm P w (.int .i64 op) (.slice none 0 0) (.slice a l.length c) (.slice none 0 0) (.mk op [] l []) :=
 IsFm.mk' (v:=[]) (l:=[]) h0 h0' (Nat.le_refl _) hl (Nat.le_refl _) zo3 h zg3
theorem zd9 {w:World}{nb:Nat}{x y z u:Value}(h:Own w nb [x,y,z,u]):w.cell? ⟨nb,0,none⟩=some x∧w.cell? ⟨nb,1,none⟩=some y∧w.cell? ⟨nb,2,none⟩=some z∧w.cell? ⟨nb,3,none⟩=some u:=⟨(h 0 _ rfl).1,(h 1 _ rfl).1,(h 2 _ rfl).1,(h 3 _ rfl).1⟩
theorem zen (op:Int) (a:Option Addr) (n c:Nat) (w:World):Calls Tryz.prog 82 #[.int .i64 op,.slice a n c] w fun e w'=>e=.returned (.agg #[.int .i64 op,.slice none 0 0,.slice none 0 0,.slice a n c])∧Ext w w':=by
 go_enter Tryz.func82,Tryz.ntmps82
 go_wp2
 exact bodyPost_ret (v:=.agg #[.int .i64 op,.slice none 0 0,.slice none 0 0,.slice a n c]) (by simp[results,Tryz.results82,go_sem]) rfl ⟨rfl,by go_grown⟩
theorem za4 {cb:Nat}{l r:List Tok}{w w2:World}{z0 z1 z2 z3 x0 x1 x2 x3:Value}{fn:Func}{R:Ending→World→Prop}{a:Act}(hq:Chg [cb] w w2) (hcb:cb<w.heap.size) (hc:Cur cb l w2 r) (hn:Own w2 w.heap.size [z0,z1,z2,z3])
  (hr:∀W2:World,W2.cell? ⟨w.heap.size,0,none⟩=some x0→W2.cell? ⟨w.heap.size,1,none⟩=some x1→W2.cell? ⟨w.heap.size,2,none⟩=some x2→W2.cell? ⟨w.heap.size,3,none⟩=some x3→(results fn a.tmps).run Tryz.prog W2=.ok (.agg #[x0,x1,x2,x3]) W2)
  (hd:a.defers=[]) (hR:∀W2,Cur cb l W2 r→Chg [cb] w W2→Chg [w.heap.size] w2 W2→R (.returned (.agg #[x0,x1,x2,x3])) W2) :
  bodyPost Tryz.prog fn R .ret a ((((w2.setCell ⟨w.heap.size,0,none⟩ x0).setCell ⟨w.heap.size,1,none⟩ x1).setCell ⟨w.heap.size,2,none⟩ x2).setCell ⟨w.heap.size,3,none⟩ x3):=by
 have hres:=zbq hn x0 x1 x2 x3
 have hch:=zbr w2 w.heap.size x0 x1 x2 x3
 have hcq:=Chg.drop (T:=[cb]) (Below.refl _ _) ((hq.mono (T:=[cb,w.heap.size]) (by simp)).trans (hch.mono (by simp))) (by simp)
 obtain⟨r0,r1,r2,r3⟩:=zd9 hres
 exact bodyPost_ret (hr _ r0 r1 r2 r3) hd (hR _ (hc.chg hch (by simpa using hcb)) hcq hch)
theorem zga {cb:Nat}{l r:List Tok}{w w2:World}{z0 z1 z2 z3 x0 x1 x2 x3:Value}{fn:Func}{R:Ending→World→Prop}{a:Act}(hq:Chg [cb] w w2) (hcb:cb<w.heap.size) (hc:Cur cb l w2 r) (hn:Own w2 w.heap.size [z0,z1,z2,z3]) (o:Obj)
  (hr:∀W2:World,W2.cell? ⟨w.heap.size,0,none⟩=some x0→W2.cell? ⟨w.heap.size,1,none⟩=some x1→W2.cell? ⟨w.heap.size,2,none⟩=some x2→W2.cell? ⟨w.heap.size,3,none⟩=some x3→(results fn a.tmps).run Tryz.prog W2=.ok (.agg #[x0,x1,x2,x3]) W2)
  (hd:a.defers=[]) (hR:∀W1,W1.heap.size=w2.heap.size→Cur cb l (W1.alloc o) r→Chg [cb] w (W1.alloc o)→Chg [w.heap.size] w2 W1→R (.returned (.agg #[x0,x1,x2,x3])) (W1.alloc o)) :
  bodyPost Tryz.prog fn R .ret a (((((w2.setCell ⟨w.heap.size,0,none⟩ x0).setCell ⟨w.heap.size,1,none⟩ x1).setCell ⟨w.heap.size,2,none⟩ x2).setCell ⟨w.heap.size,3,none⟩ x3).alloc o):=by
 have hres:=(zbq hn x0 x1 x2 x3).ext (zb _ o)
 have hch:=zbr w2 w.heap.size x0 x1 x2 x3
 have hcq:=Chg.drop (T:=[cb]) (Below.refl _ _) ((hq.mono (T:=[cb,w.heap.size]) (by simp)).trans (hch.mono (by simp))) (by simp)
 obtain⟨r0,r1,r2,r3⟩:=zd9 hres
 exact bodyPost_ret (hr _ r0 r1 r2 r3) hd (hR _ (by simp[World.setCell]) ((hc.chg hch (by simpa using hcb)).ext (zb _ _)) (hcq.alloc _) hch)
section
variable {cb:Nat}{l:List Tok}
theorem zjw (hl:l.length≤1073741824){t:Tok}{r:List Tok}{w:World}(h:Cur cb l w (t::r)) (h3:t.kind=3) (b:Bool) (ht:t.text=if b then zmm else zgk) :
  Calls Tryz.prog 131 #[.pointer (some ⟨cb,0,none⟩)] w (zu zc7 cb l w (za3 (t::r))):=by
 have HP:=Lib.hid (fun w' (hx:Ext w w')=>zab hl (h.ext hx))
 have HC:=Lib.hid h
 obtain⟨hs,a,c,hown,hc,htk⟩:=h
 have hlt:=hown.lt
 obtain⟨p,hp,hpt,hp1,hp2,hp3⟩:=zdn hs
 rw[hp2]at hown
 obtain⟨c1,f1⟩:=hown 1 _ rfl
 have HR:=Lib.hid hp3
 have hsr:r <:+ l:=(List.suffix_cons _ _).trans hs
 have he:zt (t::r)=t:=rfl
 rw[he]at HP
 have HE:=Lib.hid (show za3 (t::r)=.ok (if b then zzp else ztj) r by
  unfold za3
  cases b with
  |true=>rw[if_pos (by simp[h3,ht])];rfl
  |false =>
   rw[if_neg (by simp[h3,ht];decide),if_pos (by simp[h3,ht])];rfl)
 obtain⟨kd,tx,ta⟩:=t
 have q1:(kd==3)=true:=by rw[beq_iff_eq];exact h3
 simp only at ht
 have q2:(tx.toList==[36,116,114,117,101])=b:=by subst ht;cases b<;>decide +kernel
 have q3:b=false→(tx.toList==[36,102,97,108,115,101])=true:=by intro hb;subst ht;subst hb;decide +kernel
 clear hs hpt hp2 hp3 he htk hown h3 ht
 obtain⟨W,hW⟩:∃W,W=w.alloc (.cells #[.int .i64 0,.slice none 0 0,.slice none 0 0,.slice none 0 0] 29):=⟨_,rfl⟩
 have hx:Ext w W:=by rw[hW];exact zb _ _
 have hnew:Own W w.heap.size [.int .i64 0,.slice none 0 0,.slice none 0 0,.slice none 0 0]:=by rw[hW];exact own4 w _ _ _ _ _
 cases b
 case' true =>
  have HO:=Lib.hid (fun w=>zen 1 none 0 0 w)
  clear q3
  go_enter Tryz.func131,Tryz.ntmps131
  go_wp2_with (first|(rw[←hW];clear hW;go_at_call 80;refine(HP.out _ hx).mono ?_;rintro e w1 ⟨rfl,hx1⟩;simp only[Tok.vals];replace f1:=(hx.trans hx1).frozen c1 f1;replace c1:=(hx.trans hx1).cell c1;replace hnew:=hnew.ext hx1;have hlt1:cb<w1.heap.size:=zf c1;have hlt2:=hnew.lt;(have hne:w.heap.size≠cb:=by omega))|(go_at_call 82;refine(HO.out _).mono ?_;rintro e w2 ⟨rfl,hx2⟩;have hn2:=((hnew.chg ((Chg.refl [cb] w1).setCell (p:=⟨cb,1,none⟩) (.int .i64 ((p:Int)+1)) (.inl (by simp))) (by simpa using hne)).ext (zb _ (.cells #[.int .i64 kd,.string tx,.int .i64 ta] 77))).ext hx2;(obtain⟨n0,g0⟩:=hn2 0 _ rfl);(obtain⟨n1,g1⟩:=hn2 1 _ rfl);(obtain⟨n2,g2⟩:=hn2 2 _ rfl);(obtain⟨n3,g3⟩:=hn2 3 _ rfl)))
 case' false =>
  have q3:=q3 rfl
  have HO:=Lib.hid (fun w=>zen 2 none 0 0 w)
  go_enter Tryz.func131,Tryz.ntmps131
  go_wp2_with (first|(rw[←hW];clear hW;go_at_call 80;refine(HP.out _ hx).mono ?_;rintro e w1 ⟨rfl,hx1⟩;simp only[Tok.vals];replace f1:=(hx.trans hx1).frozen c1 f1;replace c1:=(hx.trans hx1).cell c1;replace hnew:=hnew.ext hx1;have hlt1:cb<w1.heap.size:=zf c1;have hlt2:=hnew.lt;(have hne:w.heap.size≠cb:=by omega))|(go_at_call 82;refine(HO.out _).mono ?_;rintro e w2 ⟨rfl,hx2⟩;have hn2:=((hnew.chg ((Chg.refl [cb] w1).setCell (p:=⟨cb,1,none⟩) (.int .i64 ((p:Int)+1)) (.inl (by simp))) (by simpa using hne)).ext (zb _ (.cells #[.int .i64 kd,.string tx,.int .i64 ta] 77))).ext hx2;(obtain⟨n0,g0⟩:=hn2 0 _ rfl);(obtain⟨n1,g1⟩:=hn2 1 _ rfl);(obtain⟨n2,g2⟩:=hn2 2 _ rfl);(obtain⟨n3,g3⟩:=hn2 3 _ rfl)))
 all_goals
  have hq2:Chg [cb] w w2:=(((Chg.of_ext (hx.trans hx1)).setCell (p:=⟨cb,1,none⟩) (.int .i64 ((p:Int)+1)) (.inl (by simp))).alloc _).trans (Chg.of_ext hx2)
  have hc2:Cur cb l w2 r:=(((HC.out.ext (hx.trans hx1)).move hsr (z:=(p:Int)+1) (by rw[HR.out];omega)).ext (zb _ _)).ext hx2
  refine za4 hq2 hlt hc2 hn2 (fun W2 r0 r1 r2 r3=>by simp[results,Tryz.results131,go_sem,r0,r1,r2,r3]) rfl fun W2 k1 k2 k3=>⟨k2,?_⟩
  rw[HE.out]
  exact⟨k1,_,rfl,_,_,_,_,rfl,zcv (l:=[]) (by decide) (by decide) (Nat.le_refl _) zg3⟩
def zg4 (x:Ex) (r:List Tok):Rd Fm:=match zx sEq r with
  |some r'=>(za2 r').map fun y=>fEq x y
  |none=>match zx sNe r with
   |some r'=>(za2 r').map fun y=>fNot (fEq x y)
   |none=>if x.var then .bad r else .ok (zzq x) r
theorem zq7 {ks:List Tok}(h:¬((zt ks).kind=3∧((zt ks).text=zmm∨(zt ks).text=zgk))):za3 ks=(za2 ks).bind zg4:=by
 unfold za3
 cases ks with
 |nil=>rfl
 |cons t r =>
  have h:¬(t.kind=3∧(t.text=zmm∨t.text=zgk)):=h
  rw[if_neg (by simp;intro h3 ht;exact h ⟨h3,.inl ht⟩),if_neg (by simp;intro h3 ht;exact h ⟨h3,.inr ht⟩)]
  rfl
end
theorem IsEx.move {cb nb:Nat}{w w1 w2 w3:World}{a b c:Value}{x:Ex}(h:IsEx (fun g=>nb≤g∧g≠nb∧g≠cb) w a b c x) (h1:Chg [cb] w w1) (h2:Chg [cb] w1 w2) (h3:Chg [nb] w2 w3):IsEx (fun g=>nb≤g) w3 a b c x :=
 Dat.Fs.mono (Dat.Fs.chg h (((h1.trans h2).mono (T:=[cb,nb]) (by simp)).trans (h3.mono (by simp))) (fun g hg=>by simp;exact⟨hg.2.2,hg.2.1⟩)) fun g hg _=>hg.1
theorem IsEx.moved {nb B:Nat}{w2 w3:World}{a b c:Value}{x:Ex}(h:IsEx (fun g=>B≤g) w2 a b c x) (hB:nb<B) (h3:Chg [nb] w2 w3):IsEx (fun g=>nb≤g) w3 a b c x :=
 Dat.Fs.mono (Dat.Fs.chg h h3 (fun g hg=>by simp;omega)) fun g hg _=>by omega
theorem z1y {cb nb:Nat}{l r:List Tok}{w w2:World}{z0 z1 z2 z3 x0 x1 x2 x3:Value}{fn:Func}{R:Ending→World→Prop}{a:Act}(hq:Chg [cb] w w2) (hnb:w.heap.size≤nb) (hcb:cb<nb) (hc:Cur cb l w2 r) (hn:Own w2 nb [z0,z1,z2,z3])
  (hr:∀W2:World,W2.cell? ⟨nb,0,none⟩=some x0→W2.cell? ⟨nb,1,none⟩=some x1→W2.cell? ⟨nb,2,none⟩=some x2→W2.cell? ⟨nb,3,none⟩=some x3→(results fn a.tmps).run Tryz.prog W2=.ok (.agg #[x0,x1,x2,x3]) W2)
  (hd:a.defers=[]) (hR:∀W2,Cur cb l W2 r→Chg [cb] w W2→Chg [nb] w2 W2→R (.returned (.agg #[x0,x1,x2,x3])) W2) :
  bodyPost Tryz.prog fn R .ret a ((((w2.setCell ⟨nb,0,none⟩ x0).setCell ⟨nb,1,none⟩ x1).setCell ⟨nb,2,none⟩ x2).setCell ⟨nb,3,none⟩ x3):=by
 have hres:=zbq hn x0 x1 x2 x3
 have hch:=zbr w2 nb x0 x1 x2 x3
 have hcq:=Chg.drop (T:=[cb]) (Below.refl _ _) ((hq.mono (T:=[cb,nb]) (by simp)).trans (hch.mono (by simp))) (by simp;omega)
 obtain⟨r0,r1,r2,r3⟩:=zd9 hres
 exact bodyPost_ret (hr _ r0 r1 r2 r3) hd (hR _ (hc.chg hch (by simpa using hcb)) hcq hch)
def zcj (cb:Nat) (l:List Tok) (n:Nat):Prop:=∀ks,ks.length≤n→∀w,Cur cb l w ks→Calls Tryz.prog 79 #[.pointer (some ⟨cb,0,none⟩)] w (zu zc7 cb l w (zr ks))
theorem Own.cells4 {w:World}{b:Nat}{x y z u:Value}(h:Own w b [x,y,z,u]):(w.cell? ⟨b,0,none⟩=some x∧w.frozen? ⟨b,0,none⟩=false)∧(w.cell? ⟨b,1,none⟩=some y∧w.frozen? ⟨b,1,none⟩=false)∧(w.cell? ⟨b,2,none⟩=some z∧w.frozen? ⟨b,2,none⟩=false)∧(w.cell? ⟨b,3,none⟩=some u∧w.frozen? ⟨b,3,none⟩=false):=⟨h 0 _ rfl,h 1 _ rfl,h 2 _ rfl,h 3 _ rfl⟩
section
variable {cb:Nat}{l:List Tok}
theorem zq8 (hl:l.length≤1073741824) (hnel:0<l.length){n:Nat}(hU:zcj cb l n){ks:List Tok}(hkn:ks.length≤n){w:World}(h:Cur cb l w ks) (op:Int) (h0:-9223372036854775808≤op) (h0':op≤9223372036854775807) :
  Calls Tryz.prog 129 #[.pointer (some ⟨cb,0,none⟩),.int .i64 op] w (zu zc7 cb l w (zad zr op ks)):=by
 have hlt:=h.lt
 have HU:=Lib.hid hU
 clear hU
 generalize hres:zad zr op ks=RES
 unfold zad at hres
 have HE:=Lib.hid hres.symm
 clear hres
 obtain⟨W,hW⟩:∃W,W=(w.alloc (.cells #[.pointer (some ⟨cb,0,none⟩)] 61)).alloc (.cells #[.int .i64 0,.slice none 0 0,.slice none 0 0,.slice none 0 0] 29):=⟨_,rfl⟩
 have hx:Ext w W:=by rw[hW];exact(zb _ _).alloc _
 have hnW:Own W (w.heap.size+1) [.int .i64 0,.slice none 0 0,.slice none 0 0,.slice none 0 0]:=by rw[hW];have:=own4 (w.alloc (.cells #[.pointer (some ⟨cb,0,none⟩)] 61)) (.int .i64 0) (.slice none 0 0) (.slice none 0 0) (.slice none 0 0) 29;rw[World.size_alloc]at this;exact this
 have hpW:Own W w.heap.size [.pointer (some ⟨cb,0,none⟩)]:=by rw[hW];exact(own1 w _ _).ext (zb _ _)
 have hcW:=h.ext hx
 have hqW:Chg [cb] w W:=Chg.of_ext hx
 clear h
 go_enter Tryz.func129,Tryz.ntmps129
 go_upto_region 1 with fail
 rw[←hW]
 clear hW hx
 obtain⟨pb,hpb⟩:∃pb,pb=w.heap.size:=⟨_,rfl⟩
 obtain⟨nb,hnb⟩:∃nb,nb=w.heap.size+1:=⟨_,rfl⟩
 rw[←hpb]at hpW
 rw[←hnb]at hnW
 rw[←hnb,←hpb]
 have hwp:w.heap.size≤pb:=by omega
 have hwn:w.heap.size≤nb:=by omega
 have hpc:pb≠cb:=by omega
 have hnc:nb≠cb:=by omega
 have hpn:pb≠nb:=by omega
 clear hpb hnb
 obtain⟨p0,-⟩:=hpW 0 _ rfl
 cases h1:zw ziu ks with
 |bad r =>
  have HM:=Lib.hid (zi4 hl hnel hcW h1)
  rw[h1]at HE
  clear h1
  simp only[ziu]at HM
  go_wp2_with (go_at_call 130;refine(HM.out).mono ?_;rintro e w1 ⟨rfl,hx1⟩)
  exact⟨rfl,hqW.trans (Chg.of_ext hx1),(by rw[HE.out];rfl)⟩
 |ok u1 r1 =>
 have HM:=Lib.hid (zii hl hcW h1)
 have hr1:=za7 h1
 rw[h1]at HE
 simp only[Rd.bind_ok]at HE
 clear h1
 simp only[ziu]at HM
 go_upto_region 2 with (go_at_call 130;refine(HM.out).mono ?_;rintro e w1 ⟨rfl,hc1,hx1⟩)
 have hq1:=hqW.trans hx1
 have hn1:=hnW.chg hx1 (by simpa using hnc)
 have hp1:=hpW.chg hx1 (by simpa using hpc)
 clear HM hx1 hcW hqW hnW hpW p0
 obtain⟨p0,-⟩:=hp1 0 _ rfl
 have HRW:=Lib.hid (z0p hl hnel pb hpc hc1 p0)
 unfold zu at HRW
 cases h2:rowR (za5 2) zj r1 with
 |bad r =>
  rw[h2]at HRW HE
  clear h2
  go_wp2_with (go_at_call 166;refine(HRW.out).mono ?_;rintro e w2 ⟨hx2,rfl⟩)
  exact⟨rfl,hq1.trans hx2,(by rw[HE.out];rfl)⟩
 |ok vs r2 =>
 have hr2:=zka (zb3 2 _) h2
 rw[h2]at HRW HE
 simp only[Rd.bind_ok]at HE
 clear h2
 go_upto_region 3 with (go_at_call 166;refine(HRW.out).mono ?_;rintro e w2 ⟨hx2,hc2,v,rfl,va,vc,rfl,hvl,hvs⟩)
 obtain⟨V,hV⟩:∃V,V=w2.alloc (.cells #[.int .i64 op,.slice va vs.length vc,.slice none 0 0,.slice none 0 0] 29):=⟨_,rfl⟩
 have hq3:Chg [cb] w V:=by rw[hV];exact(hq1.trans hx2).alloc _
 have hc3:Cur cb l V r2:=by rw[hV];exact hc2.ext (zb _ _)
 have hn3:Own V nb [.int .i64 0,.slice none 0 0,.slice none 0 0,.slice none 0 0]:=by rw[hV];exact(hn1.chg hx2 (by simpa using hnc)).ext (zb _ _)
 have hp3:Own V pb [.pointer (some ⟨cb,0,none⟩)]:=by rw[hV];exact(hp1.chg hx2 (by simpa using hpc)).ext (zb _ _)
 have hf3:Own V w2.heap.size [.int .i64 op,.slice va vs.length vc,.slice none 0 0,.slice none 0 0]:=by rw[hV];exact own4 w2 _ _ _ _ _
 have hvs3:IsStrs (fun g=>w.heap.size≤g∧g<w2.heap.size∧g≠cb∧g≠nb) V va vs:=by
  rw[hV];refine Dat.Rows.ext (Dat.Rows.mono hvs fun g hg hlt=>?_) (zb _ _)
  have:=hn1.lt;have:=hq1.size;omega
 have hfn:nb<w2.heap.size:=Nat.lt_of_lt_of_le hn1.lt hx2.size
 rw[←hV]
 clear hV HRW hx2 hc2 hvs hq1 hn1 hp1 hc1 p0
 obtain⟨p0,-⟩:=hp3 0 _ rfl
 generalize w2.heap.size=fb at *
 have hfc:fb≠cb:=by omega
 have hfp:fb≠pb:=by have:=hp3.lt;intro hh;subst hh;obtain⟨q1,-⟩:=hf3 0 _ rfl;rw[q1]at p0;cases p0
 clear w2
 cases h3:zw zln r2 with
 |bad r =>
  have HM:=Lib.hid (zi4 hl hnel hc3 h3)
  rw[h3]at HE
  clear h3
  simp only[zln]at HM
  go_wp2_with (go_at_call 130;refine(HM.out).mono ?_;rintro e w4 ⟨rfl,hx4⟩)
  exact⟨rfl,hq3.trans (Chg.of_ext hx4),(by rw[HE.out];rfl)⟩
 |ok u3 r3 =>
 have HM:=Lib.hid (zii hl hc3 h3)
 have hr3:=za7 h3
 rw[h3]at HE
 simp only[Rd.bind_ok]at HE
 clear h3
 simp only[zln]at HM
 go_upto_region 4 with (go_at_call 130;refine(HM.out).mono ?_;rintro e w4 ⟨rfl,hc4,hx4⟩)
 have hq4:=hq3.trans hx4
 have hn4:=hn3.chg hx4 (by simpa using hnc)
 have hp4:=hp3.chg hx4 (by simpa using hpc)
 have hf4:=hf3.chg hx4 (by simpa using hfc)
 have hvs4:=Dat.Rows.chg hvs3 hx4 (fun g hg=>by simpa using hg.2.2.1)
 clear HM hx4 hc3 hq3 hn3 hp3 hf3 hvs3 p0
 obtain⟨p0,-⟩:=hp4 0 _ rfl
 cases h4:zw znd r3 with
 |bad r =>
  have HM:=Lib.hid (zi4 hl hnel hc4 h4)
  rw[h4]at HE
  clear h4
  simp only[znd]at HM
  go_wp2_with (go_at_call 130;refine(HM.out).mono ?_;rintro e w5 ⟨rfl,hx5⟩)
  exact⟨rfl,hq4.trans (Chg.of_ext hx5),(by rw[HE.out];rfl)⟩
 |ok u4 r4 =>
 have HM:=Lib.hid (zii hl hc4 h4)
 have hr4:=za7 h4
 rw[h4]at HE
 simp only[Rd.bind_ok]at HE
 clear h4
 simp only[znd]at HM
 go_upto_region 5 with (go_at_call 130;refine(HM.out).mono ?_;rintro e w5 ⟨rfl,hc5,hx5⟩)
 have hq5:=hq4.trans hx5
 have hn5:=hn4.chg hx5 (by simpa using hnc)
 have hp5:=hp4.chg hx5 (by simpa using hpc)
 have hf5:=hf4.chg hx5 (by simpa using hfc)
 have hvs5:=Dat.Rows.chg hvs4 hx5 (fun g hg=>by simpa using hg.2.2.1)
 clear HM hx5 hc4 hq4 hn4 hp4 hf4 hvs4 p0
 obtain⟨p0,-⟩:=hp5 0 _ rfl
 have HUU:=Lib.hid (HU.out r4 (by omega) w5 hc5)
 unfold zu at HUU
 clear HU
 cases h5:zr r4 with
 |bad r =>
  rw[h5]at HUU HE
  clear h5
  go_wp2_with (go_at_call 79;refine(HUU.out).mono ?_;rintro e w6 ⟨hx6,rfl⟩)
  exact⟨rfl,hq5.trans hx6,(by rw[HE.out];rfl)⟩
 |ok f r5 =>
 rw[h5]at HUU HE
 clear h5
 go_upto_region 6 with (go_at_call 79;refine(HUU.out).mono ?_;rintro e w6 ⟨hx6,hc6,v,rfl,xa,xb,xc,xd,rfl,hf⟩;(obtain⟨b1,c1,b2,c2,b3,c3,e1,e2,e3,e4,-⟩:=hf.form);subst e1;subst e2;subst e3;subst e4;have hf6:=hf5.chg hx6 (by simpa using hfc);(obtain⟨m3,p3⟩:=hf6 3 _ rfl);have hflt:=hf6.lt)
 have hs6:=(Chg.refl [fb] w6).setCell (p:=⟨fb,3,none⟩) (.slice (some ⟨w6.heap.size,0,none⟩) 1 1) (.inl (by simp))
 have hf6':=hf6.set (i:=3) (by simp) (.slice (some ⟨w6.heap.size,0,none⟩) 1 1)
 have hz6:(w6.setCell ⟨fb,3,none⟩ (.slice (some ⟨w6.heap.size,0,none⟩) 1 1)).heap.size=w6.heap.size:=by simp[World.setCell]
 have h5lt:=hf5.lt
 have hx7:=hx6.size
 have hle:=hq5.size
 have hF:=zi5 29 (P:=fun g=>w.heap.size≤g∧g≠cb∧g≠nb) (Dat.Fs.mono (Dat.Fs.chg hf hs6 (fun g hg=>by simp;omega)) (fun g hg _=>(by omega))) (show _∧_ by rw[hz6];omega)
 rw[hz6]at hF
 have hc7:=(hc6.chg hs6 (by simp;omega)).ext (zb _ (.cells #[.int .i64 f.op,.slice b1 f.vars.length c1,.slice b2 f.terms.length c2,.slice b3 f.args.length c3] 29))
 have hq7:=Chg.drop (T:=[cb]) (Below.refl _ _) ((((hq5.trans hx6).mono (T:=[cb,fb]) (by simp)).trans (hs6.mono (by simp))).alloc (.cells #[.int .i64 f.op,.slice b1 f.vars.length c1,.slice b2 f.terms.length c2,.slice b3 f.args.length c3] 29)) (by simp;omega)
 have hn7:=(((hn5.chg hx6 (by simpa using hnc)).chg hs6 (by simp;omega)).ext (zb _ (.cells #[.int .i64 f.op,.slice b1 f.vars.length c1,.slice b2 f.terms.length c2,.slice b3 f.args.length c3] 29)))
 have hf7:=hf6'.ext (zb _ (.cells #[.int .i64 f.op,.slice b1 f.vars.length c1,.slice b2 f.terms.length c2,.slice b3 f.args.length c3] 29))
 have hvs7:=Dat.Rows.ext (Dat.Rows.chg hvs5 ((hx6.mono (T:=[cb,fb]) (by simp)).trans (hs6.mono (by simp))) (fun g hg=>by simp;omega)) (zb _ (.cells #[.int .i64 f.op,.slice b1 f.vars.length c1,.slice b2 f.terms.length c2,.slice b3 f.args.length c3] 29))
 clear m3 p3 hs6 hf6' hf6 hf5 hn5 hp5 hvs5 hq5 hc5 hx6 hc6 hf p0
 generalize (w6.setCell ⟨fb,3,none⟩ (.slice (some ⟨w6.heap.size,0,none⟩) 1 1)).alloc (.cells #[.int .i64 f.op,.slice b1 f.vars.length c1,.slice b2 f.terms.length c2,.slice b3 f.args.length c3] 29)=V7 at *
 generalize w6.heap.size=gb at *
 obtain⟨⟨m0,-⟩,⟨m1,-⟩,⟨m2,-⟩,⟨m3,-⟩⟩:=hf7.cells4
 obtain⟨⟨n0,g0⟩,⟨n1,g1⟩,⟨n2,g2⟩,⟨n3,g3⟩⟩:=hn7.cells4
 have hcbn:cb<nb:=by omega
 have hfn':fb≠nb:=by omega
 clear HUU
 go_wp2
 refine z1y hq7 hwn hcbn hc7 hn7 (fun W2 r0 r1 r2 r3=>by simp[results,Tryz.results129,go_sem,r0,r1,r2,r3]) rfl fun W2 k1 k2 k3=>⟨k2,?_⟩
 rw[HE.out]
 refine⟨k1,_,rfl,_,_,_,_,rfl,?_⟩
 exact IsFm.mk' (t:=[]) (l:=[f]) (c:=1) h0 h0' hvl (Nat.le_refl _) (Nat.le_refl _) (Dat.Rows.mono (Dat.Rows.chg hvs7 k3 (fun g hg=>by simpa using hg.2.2.2)) fun g hg _=>hg.1) zo2 (Dat.Rows.mono (Dat.Rows.chg hF k3 (fun g hg=>by simpa using hg.2.2)) fun g hg _=>hg.1)
end
def zg5 (op:Int):Bool:=decide (1≤op)&&decide (op≤4)
def Fm.lit (f:Fm):Bool:=if f.op=5∧f.args.length=1 then zg5 ((f.args.head?.map Fm.op).getD 0)else zg5 f.op
theorem zyk (op:Int):zg5 op=(op==3 || op==4 || op==1 || op==2):=by
 unfold zg5
 rw[Bool.eq_iff_iff]
 simp only[Bool.and_eq_true,decide_eq_true_eq,Bool.or_eq_true,beq_iff_eq]
 omega
theorem zme (f:Fm) (P:Nat→Prop) (w:World) (x y z u:Value) (ht:IsFm P w x y z u f) :
  Calls Tryz.prog 64 #[.agg #[x,y,z,u]] w fun e w'=>e=.returned (.bool f.lit)∧Ext w w':=by
 obtain⟨b1,c1,b2,c2,b3,c3,rfl,rfl,rfl,rfl,-,-,-,-,-,-,-,hls⟩:=ht.form
 obtain⟨o,v,t,l⟩:=f
 simp only[Fm.op,Fm.vars,Fm.terms,Fm.args]at hls ⊢
 obtain⟨W,hW⟩:∃W,W=w.alloc (.cells #[.int .i64 o,.slice b1 v.length c1,.slice b2 t.length c2,.slice b3 l.length c3] 29):=⟨_,rfl⟩
 have hx:Ext w W:=by rw[hW];exact zb _ _
 have hb:Own W w.heap.size [.int .i64 o,.slice b1 v.length c1,.slice b2 t.length c2,.slice b3 l.length c3]:=by rw[hW];exact own4 w _ _ _ _ _
 obtain⟨⟨k0,f0⟩,⟨k1,f1⟩,⟨k2,f2⟩,⟨k3,f3⟩⟩:=hb.cells4
 clear ht
 by_cases h5:o=5∧l.length=1
 ·obtain⟨g,rfl⟩:∃g,l=[g]:=by match l,h5.2 with|[g],_=>exact⟨g,rfl⟩
  obtain⟨rfl,-⟩:=h5
  obtain⟨gb,go',a1,d1,a2,d2,a3,d3,rfl,-,g0,g1,g2,g3,-⟩:=(hls.ext hx).look (i:=0) (by simp)
  simp only[List.getElem_cons_zero,Nat.zero_mul,Nat.add_zero,List.length_cons,List.length_nil,Nat.zero_add]at g0 g1 g2 g3 hW k3 hb ⊢
  have HR:=Lib.hid (show(Fm.mk 5 v t [g]).lit=zg5 g.op by unfold Fm.lit;rw[if_pos ⟨rfl,rfl⟩];rfl)
  have hset:=zbq hb (.int .i64 g.op) (.slice a1 g.vars.length d1) (.slice a2 g.terms.length d2) (.slice a3 g.args.length d3)
  obtain⟨⟨q0,-⟩,⟨q1,-⟩,⟨q2,-⟩,⟨q3,-⟩⟩:=hset.cells4
  clear hset
  have HA:=Lib.hid (show zg5 g.op=(decide (1≤g.op)&&decide (g.op≤4))from rfl)
  cases h1:decide (1≤g.op)<;>cases h4:decide (g.op≤4)
  all_goals
   rw[h1,h4]at HA
   go_enter Tryz.func64,Tryz.ntmps64
   go_upto_region 1 with fail
   rw[←hW]
   clear hW
   go_wp2_with fail
   go_ret
   exact⟨ze (by rw[HR.out,HA.out];rfl),Below.setCell (Below.setCell (Below.setCell (Below.setCell hx (Nat.le_refl _) _) (Nat.le_refl _) _) (Nat.le_refl _) _) (Nat.le_refl _) _⟩
 ·have hcase:(o==5)=false∨((o==5)=true∧((l.length:Int)==1)=false):=by
   by_cases h:o=5
   ·exact .inr ⟨by rw[beq_iff_eq];exact h,by rw[beq_eq_false_iff_ne];exact fun h1=>h5 ⟨h,by omega⟩⟩
   ·exact .inl (by rw[beq_eq_false_iff_ne];exact h)
  have HR:=Lib.hid (show(Fm.mk o v t l).lit=zg5 o from if_neg h5)
  have HA:=Lib.hid (show zg5 o=(decide (1≤o)&&decide (o≤4))from rfl)
  clear h5
  rcases hcase with e1|⟨e1,e2⟩
  all_goals cases h1:decide (1≤o)<;>cases h4:decide (o≤4)
  all_goals
   rw[h1,h4]at HA
   go_enter Tryz.func64,Tryz.ntmps64
   go_upto_region 1 with fail
   rw[←hW]
   clear hW
   go_wp2_with fail
   go_ret
   exact⟨ze (by rw[HR.out,HA.out];rfl),hx⟩
theorem zq9:(Tryz.prog.info? 29).map (fun i=>(i.zero,i.size,i.bytes))=some (some (.agg #[.int .i64 0,.slice none 0 0,.slice none 0 0,.slice none 0 0]),4,80):=by kernel_rfl
theorem zsv {P Q:Nat→Prop}{w:World}{a b c d:Value}{x:Fm}(h:IsFm P w a b c d x) (hQ:∀g,P g→g<w.heap.size→Q g):(z6 4).is Q w [a,b,c,d] x.dat :=
 ⟨rfl,Dat.Fs.mono h hQ⟩
def ztx (tb:Nat) (v:Value):Prop:=∀g,v.ownBlock=some g→tb<g
theorem Own.append {w1 w2:World}{b:Nat}{vs:List Value}{v:Value}(h:Own w1 b vs) (hg:w1.grownBy w2 v.ownBlock) (hb:v.ownBlock≠some b):Own w2 b vs:=by
 cases ho:v.ownBlock with
 |none =>
  rw[ho]at hg
  exact h.chg (S:=[]) (Chg.of_grown hg (by simp)) (by simp)
 |some g =>
  rw[ho]at hg
  exact h.chg (S:=[g]) (Chg.of_grown hg (by simp)) (by simp;intro he;subst he;exact hb ho)
def zyl (cb:Nat) (l:List Tok) (f:Fm) (s:ByteArray) (ks:List Tok) (w:World) (g:Nat) (v:Value) (wr:World):Prop :=
 ∃(r:List Tok) (pre:List Fm),g=r.length∧GRow (z6 4) 29 (w.heap.size+1) wr v ((f::pre).map Fm.dat)∧Cur cb l wr r∧Chg [cb] w wr∧pre.length+r.length≤ks.length∧more zr s ks=(more zr s r).map (pre++·)
theorem z0t {cb:Nat}{l:List Tok}(hl:l.length≤1073741824){n:Nat}(hU:zcj cb l n){ks:List Tok}(hkn:ks.length≤n){w:World}(h:Cur cb l w ks){f:Fm}{t:Tok}{r:List Tok}(hu:zr ks=.ok f (t::r)) (h6:t.kind=6) (hs:t.text=sAnd) :
  Calls Tryz.prog 40 #[.pointer (some ⟨cb,0,none⟩)] w (zu zc7 cb l w (zh zr ks)):=by
 have HE:=Lib.hid (show zh zr ks=(more zr sAnd (t::r)).map (fun l=>fOf 6 (f::l)) by
  unfold zh;rw[hu,Rd.bind_ok,zl,if_neg (by simpa using h6)]
  rw[if_pos hs])
 have hlt:=h.lt
 have hpk:zt (t::r)=t:=rfl
 obtain⟨kd,tx,ta⟩:=t
 simp only at h6 hs
 have q0:(kd != 6)=false:=by rw[bne_eq_false_iff_eq];exact h6
 have q1:(tx.toList==[38])=true:=by subst hs;decide +kernel
 have q2:(tx.toList==[124])=false:=by subst hs;decide +kernel
 obtain⟨i0,hi0,hz0,hz1',hz2'⟩:=info_parts zq9
 have HTX:=Lib.hid hs
 have H6:=Lib.hid h6
 clear hs h6
 obtain⟨W,hW⟩:∃W,W=w.alloc (.cells #[.int .i64 0,.slice none 0 0,.slice none 0 0,.slice none 0 0] 29):=⟨_,rfl⟩
 have hx:Ext w W:=by rw[hW];exact zb _ _
 have hnW:Own W w.heap.size [.int .i64 0,.slice none 0 0,.slice none 0 0,.slice none 0 0]:=by rw[hW];exact own4 w _ _ _ _ _
 have HU:=Lib.hid (hU ks hkn W (h.ext hx))
 have HU2:=Lib.hid hU
 unfold zu at HU
 rw[hu]at HU
 have hul:=zb4 hu
 clear hu h hU
 go_enter Tryz.func40,Tryz.ntmps40
 go_upto_region 2 with (rw[←hW];clear hW;go_at_call 79;refine(HU.out).mono ?_;rintro e w1 ⟨hx1,hc1,v,rfl,xa,xb,xc,xd,rfl,hf⟩;(have hf':=hf);(obtain⟨b1,c1,b2,c2,b3,c3,rfl,rfl,rfl,rfl,-⟩:=hf'.form);clear hf')
 have HP:=Lib.hid (fun w' (hx:Ext w1 w')=>zab hl (hc1.ext hx))
 rw[hpk]at HP
 have hq1:Chg [cb] w w1:=Chg.trans (Chg.of_ext hx) hx1
 have hnc:w.heap.size≠cb:=by omega
 have hn1:=hnW.chg hx1 (by simpa using hnc)
 have hnl:=hnW.lt
 have hnl1:=hx1.size
 go_upto_region 3 with (go_at_call 80;refine(HP.out _ (zb _ _)).mono ?_;rintro e w2 ⟨rfl,hx2⟩;simp only[Tok.vals])
 obtain⟨V,hV⟩:∃V,V=w2.alloc (.cells #[.int .i64 kd,.string tx,.int .i64 ta] 77):=⟨_,rfl⟩
 have hx12:Ext w1 V:=by rw[hV];exact((zb _ _).trans hx2).alloc _
 have hfV:Own V w1.heap.size [.int .i64 f.op,.slice b1 f.vars.length c1,.slice b2 f.terms.length c2,.slice b3 f.args.length c3]:=by rw[hV];exact((own4 w1 _ _ _ _ _).ext hx2).ext (zb _ _)
 have htV:Own V w2.heap.size [.int .i64 kd,.string tx,.int .i64 ta]:=by rw[hV];exact own3 w2 _ _ _ _
 have hqV:=hq1.trans (Chg.of_ext hx12)
 have hcV:=hc1.ext hx12
 have hnV:=hn1.ext hx12
 have hfm:IsFm (fun g=>w.heap.size<g) V _ _ _ _ f:=(Dat.Fs.mono hf fun g hg _=>(show w.heap.size<g by have:W.heap.size≤g:=hg;omega)).ext hx12
 have hfn:w.heap.size<w1.heap.size:=by omega
 have htn:w1.heap.size<w2.heap.size:=by have:=((zb w1 (.cells #[.int .i64 f.op,.slice b1 f.vars.length c1,.slice b2 f.terms.length c2,.slice b3 f.args.length c3] 29)).trans hx2).size;have:=(own4 w1 (.int .i64 f.op) (.slice b1 f.vars.length c1) (.slice b2 f.terms.length c2) (.slice b3 f.args.length c3) 29).lt;have:=hx2.size;omega
 rw[←hV]
 clear hV hx hx1 hx2 hx12 hnW HU HP hq1 hn1 hnl hnl1 hc1 hf
 generalize w1.heap.size=fb at *
 generalize w2.heap.size=tb at *
 have hfc:fb≠cb:=by omega
 have htc:tb≠cb:=by omega
 have hfne:fb≠w.heap.size:=by omega
 clear w1 w2
 obtain⟨⟨m0,-⟩,⟨m1,-⟩,⟨m2,-⟩,⟨m3,-⟩⟩:=hfV.cells4
 obtain⟨t0,-⟩:=htV 0 _ rfl
 obtain⟨t1,-⟩:=htV 1 _ rfl
 obtain⟨⟨n0,g0⟩,⟨n1,g1⟩,⟨n2,g2⟩,⟨n3,g3⟩⟩:=hnV.cells4
 have hnl:=hnV.lt
 have hone:GRow (z6 4) 29 (w.heap.size+1) (V.alloc (.cells #[.int .i64 f.op,.slice b1 f.vars.length c1,.slice b2 f.terms.length c2,.slice b3 f.args.length c3] 29)) (.slice (some ⟨V.heap.size,0,none⟩) 1 1) [f.dat]:=GRow.one (by omega) (zsv hfm fun g hg hlt=>⟨hg,hlt⟩) _ rfl
 go_wp2_with fail
 go_loopg [5] (r.length+1) (fun g v wr=>zyl cb l f tx (⟨kd,tx,ta⟩::r) w g v wr∧Own wr tb [.int .i64 kd,.string tx,.int .i64 ta]∧Own wr w.heap.size [.int .i64 0,.slice none 0 0,.slice none 0 0,.slice none 0 0]∧ztx tb v)
 case atStart=>exact⟨⟨⟨kd,tx,ta⟩::r,[],rfl,hone,hcV.ext (zb _ _),hqV.alloc _,by simp,by cases more zr tx (⟨kd,tx,ta⟩::r)<;>rfl⟩,htV.ext (zb _ _),hnV.ext (zb _ _),fun g hg=>by injection hg with hg;dsimp only at hg;subst hg;exact htV.lt⟩
 case round =>
  clear t0 t1 m0 m1 m2 m3 n0 n1 n2 n3 g0 g1 g2 g3 hnl
  obtain⟨⟨r',pre,hg,hrow,hc,hx,hlen,heq⟩,htw,hnw,hob⟩:=hrel
  have HEQ:=Lib.hid heq
  have HG:=Lib.hid hg
  have HROW:=Lib.hid hrow
  have HML:=Lib.hid (show((f::pre).map Fm.dat).length=pre.length+1 by simp)
  obtain⟨va,vc,hv,hvc⟩:=hrow.form
  rw[HML.out]at hv hvc
  subst hv
  have HM:=Lib.hid (zdj (one:=zr) (sep:=tx) (ks:=r') (zcq _))
  have hpl:pre.length≤1073741824:=by
   have:=hcV.1.length_le
   omega
  have hrk:r'.length≤n:=by simp only[List.length_cons]at hlen hul;omega
  obtain⟨t1,-⟩:=htw 1 _ rfl
  clear heq hg hrow
  cases ht:zx tx r' with
  |none =>
   have HT:=Lib.hid (za9 hl hc ht)
   rw[ht]at HM
   clear ht
   have HO:=Lib.hid (fun a n c w=>zen 6 a n c w)
   go_wp2_with (first|(go_at_call 81;refine(HT.out).mono ?_;rintro e w2 ⟨rfl,hx2⟩;replace t1:=hx2.cell t1)|(go_at_call 82;refine(HO.out _ _ _ _).mono ?_;rintro e w3 ⟨rfl,hx3⟩;have hx23:=hx2.trans hx3;(obtain⟨⟨n0,g0⟩,⟨n1,g1⟩,⟨n2,g2⟩,⟨n3,g3⟩⟩:=(hnw.ext hx23).cells4);have hnl:=(hnw.ext hx23).lt))
   refine za4 (hx.trans (Chg.of_ext hx23)) hlt (hc.ext hx23) (hnw.ext hx23) (fun W2 r0 r1 r2 r3=>by simp[results,Tryz.results40,go_sem,r0,r1,r2,r3]) rfl fun W2 k1 k2 k3=>⟨k2,?_⟩
   have he:=HE.out
   rw[←HTX.out,HEQ.out,HM.out]at he
   simp only[Rd.map_ok,List.append_nil]at he
   rw[he]
   refine⟨k1,_,rfl,_,_,_,_,rfl,?_⟩
   obtain⟨a,c,hv,hvc,hd⟩:=GRow.dat (by decide) (HROW.out.ext hx23)
   rw[HML.out]at hv hvc
   injection hv with e1 _ e3
   subst e1
   subst e3
   have hd':IsFms (fun g=>w.heap.size≤g) W2 va (f::pre):=by
    unfold IsFms
    rw[Fm.dats_map]
    exact Dat.Rows.mono (Dat.Rows.chg hd k3 (fun g hg=>by simp;omega)) fun g hg _=>(by omega)
   exact zcv (l:=f::pre) (by decide) (by decide) (by simpa using hvc) hd'
  |some r1 =>
   have HT:=Lib.hid (zbt hl hc ht)
   rw[ht]at HM
   have hr1:=zv ht
   clear ht
   have HUU:=Lib.hid (fun w' (h:Cur cb l w' r1)=>HU2.out r1 (by omega) w' h)
   unfold zu at HUU
   cases hk:zr r1 with
   |bad r2 =>
    rw[hk]at HUU
    have HR:=Lib.hid (show more zr tx (⟨kd,tx,ta⟩::r)=.bad r2 by rw[HEQ.out,HM.out];simp only;rw[hk];rfl)
    clear hk
    go_wp2_with (first|(go_at_call 81;refine(HT.out).mono ?_;rintro e w2 ⟨rfl,hc2,hx2⟩)|(go_at_call 79;refine(HUU.out _ hc2).mono ?_;rintro e w3 ⟨hx3,rfl⟩))
    refine⟨rfl,(hx.trans hx2).trans hx3,?_⟩
    have he:=HE.out
    rw[←HTX.out,HR.out]at he
    rw[he];rfl
   |ok y r2 =>
    rw[hk]at HUU
    have hr2:=zb4 hk
    have HR:=Lib.hid (show more zr tx (⟨kd,tx,ta⟩::r)=(more zr tx r2).map ((pre++[y])++·) by rw[HEQ.out,HM.out];simp only;rw[hk];simp only[Rd.bind_ok];cases more zr tx r2<;>simp)
    clear hk
    go_wp2_with (first|(go_at_call 81;refine(HT.out).mono ?_;rintro e w2 ⟨rfl,hc2,hx2⟩)|(go_at_call 79;refine(HUU.out _ hc2).mono ?_;rintro e w3 ⟨hx3,hc3,v,rfl,xa,xb,xc,xd,rfl,hv⟩)|(at_builtin;refine zav rfl _ _ _ rfl 29 i0 _ 80 Tryz.underlying27 hi0 hz0 hz1' hz2' rfl (by decide) (w.heap.size+1) (.slice va (pre.length+1) vc) ((f::pre).map Fm.dat) rfl w3 ((HROW.out.chg hx2 (by simp;omega)).chg hx3 (by simp;omega)) (zb _ _) w3.heap.size rfl _ _ (heap_alloc_new _ _) y.dat (zsv (hv.ext (zb _ _)) fun g hg hlt=>zmd HROW.out (by have:=hx2.size;omega) (by have:=hnw.lt;have:=hx2.size;omega)) (by go_light;rw[HML.out];simp only[maxLen];omega) (by go_light;rw[HML.out];omega) (by go_light;have:=hnw.lt;have:=hx2.size;have:=hx3.size;simp;omega) ?_;intro g2 cap2 w4 hrow4 hgrow4 hat4 hlt4;rw[HML.out]at hrow4 ⊢))
    go_roundg r2.length
    case measure=>have:=HG.out;go_light;omega
    case rel =>
     have hgr:=((HROW.out.chg hx2 (by simp;omega)).chg hx3 (by simp;omega))
     refine⟨⟨r2,pre++[y],rfl,?_,(hc3.ext (zb _ _)).append hgr (by omega) hgrow4,zci ((hx.trans hx2).trans hx3) hgr (by omega) (zb _ _) hgrow4,by simp only[List.length_append,List.length_cons,List.length_nil]at hlen ⊢;omega,HR.out⟩,?_,?_,?_⟩
     ·rw[←List.cons_append,List.map_append]
      exact hrow4
     ·exact(((htw.chg hx2 (by simpa using htc)).chg hx3 (by simpa using htc)).ext (zb _ _)).append hgrow4 (fun he=>by have:=hob _ he;omega)
     ·exact(((hnw.chg hx2 (by simpa using hnc)).chg hx3 (by simpa using hnc)).ext (zb _ _)).append hgrow4 (fun he=>by have:=(HROW.out.own_ge he).1;omega)
     ·intro g hg
      injection hg with hg
      dsimp only at hg
      subst hg
      rcases hat4 with h1|h1
      ·exact hob _ h1
      ·have:=htw.lt;have:=hx2.size;have:=hx3.size;simp at h1;omega
theorem z1z {cb:Nat}{l:List Tok}(hl:l.length≤1073741824){n:Nat}(hU:zcj cb l n){ks:List Tok}(hkn:ks.length≤n){w:World}(h:Cur cb l w ks){f:Fm}{t:Tok}{r:List Tok}(hu:zr ks=.ok f (t::r)) (h6:t.kind=6) (hs:t.text=sOr) :
  Calls Tryz.prog 40 #[.pointer (some ⟨cb,0,none⟩)] w (zu zc7 cb l w (zh zr ks)):=by
 have HE:=Lib.hid (show zh zr ks=(more zr sOr (t::r)).map (fun l=>fOf 7 (f::l)) by
  unfold zh;rw[hu,Rd.bind_ok,zl,if_neg (by simpa using h6)]
  rw[if_neg (by rw[hs];decide),if_pos hs])
 have hlt:=h.lt
 have hpk:zt (t::r)=t:=rfl
 obtain⟨kd,tx,ta⟩:=t
 simp only at h6 hs
 have q0:(kd != 6)=false:=by rw[bne_eq_false_iff_eq];exact h6
 have q1:(tx.toList==[38])=false:=by subst hs;decide +kernel
 have q2:(tx.toList==[124])=true:=by subst hs;decide +kernel
 obtain⟨i0,hi0,hz0,hz1',hz2'⟩:=info_parts zq9
 have HTX:=Lib.hid hs
 have H6:=Lib.hid h6
 clear hs h6
 obtain⟨W,hW⟩:∃W,W=w.alloc (.cells #[.int .i64 0,.slice none 0 0,.slice none 0 0,.slice none 0 0] 29):=⟨_,rfl⟩
 have hx:Ext w W:=by rw[hW];exact zb _ _
 have hnW:Own W w.heap.size [.int .i64 0,.slice none 0 0,.slice none 0 0,.slice none 0 0]:=by rw[hW];exact own4 w _ _ _ _ _
 have HU:=Lib.hid (hU ks hkn W (h.ext hx))
 have HU2:=Lib.hid hU
 unfold zu at HU
 rw[hu]at HU
 have hul:=zb4 hu
 clear hu h hU
 go_enter Tryz.func40,Tryz.ntmps40
 go_upto_region 2 with (rw[←hW];clear hW;go_at_call 79;refine(HU.out).mono ?_;rintro e w1 ⟨hx1,hc1,v,rfl,xa,xb,xc,xd,rfl,hf⟩;(have hf':=hf);(obtain⟨b1,c1,b2,c2,b3,c3,rfl,rfl,rfl,rfl,-⟩:=hf'.form);clear hf')
 have HP:=Lib.hid (fun w' (hx:Ext w1 w')=>zab hl (hc1.ext hx))
 rw[hpk]at HP
 have hq1:Chg [cb] w w1:=Chg.trans (Chg.of_ext hx) hx1
 have hnc:w.heap.size≠cb:=by omega
 have hn1:=hnW.chg hx1 (by simpa using hnc)
 have hnl:=hnW.lt
 have hnl1:=hx1.size
 go_upto_region 3 with (go_at_call 80;refine(HP.out _ (zb _ _)).mono ?_;rintro e w2 ⟨rfl,hx2⟩;simp only[Tok.vals])
 obtain⟨V,hV⟩:∃V,V=w2.alloc (.cells #[.int .i64 kd,.string tx,.int .i64 ta] 77):=⟨_,rfl⟩
 have hx12:Ext w1 V:=by rw[hV];exact((zb _ _).trans hx2).alloc _
 have hfV:Own V w1.heap.size [.int .i64 f.op,.slice b1 f.vars.length c1,.slice b2 f.terms.length c2,.slice b3 f.args.length c3]:=by rw[hV];exact((own4 w1 _ _ _ _ _).ext hx2).ext (zb _ _)
 have htV:Own V w2.heap.size [.int .i64 kd,.string tx,.int .i64 ta]:=by rw[hV];exact own3 w2 _ _ _ _
 have hqV:=hq1.trans (Chg.of_ext hx12)
 have hcV:=hc1.ext hx12
 have hnV:=hn1.ext hx12
 have hfm:IsFm (fun g=>w.heap.size<g) V _ _ _ _ f:=(Dat.Fs.mono hf fun g hg _=>(show w.heap.size<g by have:W.heap.size≤g:=hg;omega)).ext hx12
 have hfn:w.heap.size<w1.heap.size:=by omega
 have htn:w1.heap.size<w2.heap.size:=by have:=((zb w1 (.cells #[.int .i64 f.op,.slice b1 f.vars.length c1,.slice b2 f.terms.length c2,.slice b3 f.args.length c3] 29)).trans hx2).size;have:=(own4 w1 (.int .i64 f.op) (.slice b1 f.vars.length c1) (.slice b2 f.terms.length c2) (.slice b3 f.args.length c3) 29).lt;have:=hx2.size;omega
 rw[←hV]
 clear hV hx hx1 hx2 hx12 hnW HU HP hq1 hn1 hnl hnl1 hc1 hf
 generalize w1.heap.size=fb at *
 generalize w2.heap.size=tb at *
 have hfc:fb≠cb:=by omega
 have htc:tb≠cb:=by omega
 have hfne:fb≠w.heap.size:=by omega
 clear w1 w2
 obtain⟨⟨m0,-⟩,⟨m1,-⟩,⟨m2,-⟩,⟨m3,-⟩⟩:=hfV.cells4
 obtain⟨t0,-⟩:=htV 0 _ rfl
 obtain⟨t1,-⟩:=htV 1 _ rfl
 obtain⟨⟨n0,g0⟩,⟨n1,g1⟩,⟨n2,g2⟩,⟨n3,g3⟩⟩:=hnV.cells4
 have hnl:=hnV.lt
 have hone:GRow (z6 4) 29 (w.heap.size+1) (V.alloc (.cells #[.int .i64 f.op,.slice b1 f.vars.length c1,.slice b2 f.terms.length c2,.slice b3 f.args.length c3] 29)) (.slice (some ⟨V.heap.size,0,none⟩) 1 1) [f.dat]:=GRow.one (by omega) (zsv hfm fun g hg hlt=>⟨hg,hlt⟩) _ rfl
 go_wp2_with fail
 go_loopg [5] (r.length+1) (fun g v wr=>zyl cb l f tx (⟨kd,tx,ta⟩::r) w g v wr∧Own wr tb [.int .i64 kd,.string tx,.int .i64 ta]∧Own wr w.heap.size [.int .i64 0,.slice none 0 0,.slice none 0 0,.slice none 0 0]∧ztx tb v)
 case atStart=>exact⟨⟨⟨kd,tx,ta⟩::r,[],rfl,hone,hcV.ext (zb _ _),hqV.alloc _,by simp,by cases more zr tx (⟨kd,tx,ta⟩::r)<;>rfl⟩,htV.ext (zb _ _),hnV.ext (zb _ _),fun g hg=>by injection hg with hg;dsimp only at hg;subst hg;exact htV.lt⟩
 case round =>
  clear t0 t1 m0 m1 m2 m3 n0 n1 n2 n3 g0 g1 g2 g3 hnl
  obtain⟨⟨r',pre,hg,hrow,hc,hx,hlen,heq⟩,htw,hnw,hob⟩:=hrel
  have HEQ:=Lib.hid heq
  have HG:=Lib.hid hg
  have HROW:=Lib.hid hrow
  have HML:=Lib.hid (show((f::pre).map Fm.dat).length=pre.length+1 by simp)
  obtain⟨va,vc,hv,hvc⟩:=hrow.form
  rw[HML.out]at hv hvc
  subst hv
  have HM:=Lib.hid (zdj (one:=zr) (sep:=tx) (ks:=r') (zcq _))
  have hpl:pre.length≤1073741824:=by
   have:=hcV.1.length_le
   omega
  have hrk:r'.length≤n:=by simp only[List.length_cons]at hlen hul;omega
  obtain⟨t1,-⟩:=htw 1 _ rfl
  clear heq hg hrow
  cases ht:zx tx r' with
  |none =>
   have HT:=Lib.hid (za9 hl hc ht)
   rw[ht]at HM
   clear ht
   have HO:=Lib.hid (fun a n c w=>zen 7 a n c w)
   go_wp2_with (first|(go_at_call 81;refine(HT.out).mono ?_;rintro e w2 ⟨rfl,hx2⟩;replace t1:=hx2.cell t1)|(go_at_call 82;refine(HO.out _ _ _ _).mono ?_;rintro e w3 ⟨rfl,hx3⟩;have hx23:=hx2.trans hx3;(obtain⟨⟨n0,g0⟩,⟨n1,g1⟩,⟨n2,g2⟩,⟨n3,g3⟩⟩:=(hnw.ext hx23).cells4);have hnl:=(hnw.ext hx23).lt))
   refine za4 (hx.trans (Chg.of_ext hx23)) hlt (hc.ext hx23) (hnw.ext hx23) (fun W2 r0 r1 r2 r3=>by simp[results,Tryz.results40,go_sem,r0,r1,r2,r3]) rfl fun W2 k1 k2 k3=>⟨k2,?_⟩
   have he:=HE.out
   rw[←HTX.out,HEQ.out,HM.out]at he
   simp only[Rd.map_ok,List.append_nil]at he
   rw[he]
   refine⟨k1,_,rfl,_,_,_,_,rfl,?_⟩
   obtain⟨a,c,hv,hvc,hd⟩:=GRow.dat (by decide) (HROW.out.ext hx23)
   rw[HML.out]at hv hvc
   injection hv with e1 _ e3
   subst e1
   subst e3
   have hd':IsFms (fun g=>w.heap.size≤g) W2 va (f::pre):=by
    unfold IsFms
    rw[Fm.dats_map]
    exact Dat.Rows.mono (Dat.Rows.chg hd k3 (fun g hg=>by simp;omega)) fun g hg _=>(by omega)
   exact zcv (l:=f::pre) (by decide) (by decide) (by simpa using hvc) hd'
  |some r1 =>
   have HT:=Lib.hid (zbt hl hc ht)
   rw[ht]at HM
   have hr1:=zv ht
   clear ht
   have HUU:=Lib.hid (fun w' (h:Cur cb l w' r1)=>HU2.out r1 (by omega) w' h)
   unfold zu at HUU
   cases hk:zr r1 with
   |bad r2 =>
    rw[hk]at HUU
    have HR:=Lib.hid (show more zr tx (⟨kd,tx,ta⟩::r)=.bad r2 by rw[HEQ.out,HM.out];simp only;rw[hk];rfl)
    clear hk
    go_wp2_with (first|(go_at_call 81;refine(HT.out).mono ?_;rintro e w2 ⟨rfl,hc2,hx2⟩)|(go_at_call 79;refine(HUU.out _ hc2).mono ?_;rintro e w3 ⟨hx3,rfl⟩))
    refine⟨rfl,(hx.trans hx2).trans hx3,?_⟩
    have he:=HE.out
    rw[←HTX.out,HR.out]at he
    rw[he];rfl
   |ok y r2 =>
    rw[hk]at HUU
    have hr2:=zb4 hk
    have HR:=Lib.hid (show more zr tx (⟨kd,tx,ta⟩::r)=(more zr tx r2).map ((pre++[y])++·) by rw[HEQ.out,HM.out];simp only;rw[hk];simp only[Rd.bind_ok];cases more zr tx r2<;>simp)
    clear hk
    go_wp2_with (first|(go_at_call 81;refine(HT.out).mono ?_;rintro e w2 ⟨rfl,hc2,hx2⟩)|(go_at_call 79;refine(HUU.out _ hc2).mono ?_;rintro e w3 ⟨hx3,hc3,v,rfl,xa,xb,xc,xd,rfl,hv⟩)|(at_builtin;refine zav rfl _ _ _ rfl 29 i0 _ 80 Tryz.underlying27 hi0 hz0 hz1' hz2' rfl (by decide) (w.heap.size+1) (.slice va (pre.length+1) vc) ((f::pre).map Fm.dat) rfl w3 ((HROW.out.chg hx2 (by simp;omega)).chg hx3 (by simp;omega)) (zb _ _) w3.heap.size rfl _ _ (heap_alloc_new _ _) y.dat (zsv (hv.ext (zb _ _)) fun g hg hlt=>zmd HROW.out (by have:=hx2.size;omega) (by have:=hnw.lt;have:=hx2.size;omega)) (by go_light;rw[HML.out];simp only[maxLen];omega) (by go_light;rw[HML.out];omega) (by go_light;have:=hnw.lt;have:=hx2.size;have:=hx3.size;simp;omega) ?_;intro g2 cap2 w4 hrow4 hgrow4 hat4 hlt4;rw[HML.out]at hrow4 ⊢))
    go_roundg r2.length
    case measure=>have:=HG.out;go_light;omega
    case rel =>
     have hgr:=((HROW.out.chg hx2 (by simp;omega)).chg hx3 (by simp;omega))
     refine⟨⟨r2,pre++[y],rfl,?_,(hc3.ext (zb _ _)).append hgr (by omega) hgrow4,zci ((hx.trans hx2).trans hx3) hgr (by omega) (zb _ _) hgrow4,by simp only[List.length_append,List.length_cons,List.length_nil]at hlen ⊢;omega,HR.out⟩,?_,?_,?_⟩
     ·rw[←List.cons_append,List.map_append]
      exact hrow4
     ·exact(((htw.chg hx2 (by simpa using htc)).chg hx3 (by simpa using htc)).ext (zb _ _)).append hgrow4 (fun he=>by have:=hob _ he;omega)
     ·exact(((hnw.chg hx2 (by simpa using hnc)).chg hx3 (by simpa using hnc)).ext (zb _ _)).append hgrow4 (fun he=>by have:=(HROW.out.own_ge he).1;omega)
     ·intro g hg
      injection hg with hg
      dsimp only at hg
      subst hg
      rcases hat4 with h1|h1
      ·exact hob _ h1
      ·have:=htw.lt;have:=hx2.size;have:=hx3.size;simp at h1;omega
theorem z0u {cb:Nat}{l:List Tok}{n:Nat}(hU:zcj cb l n){ks:List Tok}(hkn:ks.length≤n){w:World}(h:Cur cb l w ks){r:List Tok}(hu:zr ks=.bad r) :
  Calls Tryz.prog 40 #[.pointer (some ⟨cb,0,none⟩)] w (zu zc7 cb l w (zh zr ks)):=by
 have HE:=Lib.hid (show zh zr ks=.bad r by unfold zh;rw[hu];rfl)
 have HU:=Lib.hid (fun w' (hx:Ext w w')=>hU ks hkn w' (h.ext hx))
 unfold zu at HU
 rw[hu]at HU
 clear hu h hU
 go_enter Tryz.func40,Tryz.ntmps40
 go_wp2_with (go_at_call 79;refine(HU.out _ (zb _ _)).mono ?_;rintro e w1 ⟨hx1,rfl⟩)
 exact⟨rfl,(Chg.of_ext (zb _ _)).trans hx1,(by rw[HE.out])⟩
theorem z0v {cb:Nat}{l:List Tok}(hl:l.length≤1073741824){n:Nat}(hU:zcj cb l n){ks:List Tok}(hkn:ks.length≤n){w:World}(h:Cur cb l w ks){f:Fm}{r:List Tok}(hu:zr ks=.ok f r) (h6:(zt r).kind≠6) :
  Calls Tryz.prog 40 #[.pointer (some ⟨cb,0,none⟩)] w (zu zc7 cb l w (zh zr ks)):=by
 have HE:=Lib.hid (show zh zr ks=.ok f r by
  unfold zh;rw[hu,Rd.bind_ok]
  cases r with
  |nil=>rfl
  |cons t r=>rw[zl,if_pos (show t.kind≠6 from h6)])
 have hlt:=h.lt
 obtain⟨⟨kd,tx,ta⟩,hpk⟩:∃t,zt r=t:=⟨_,rfl⟩
 rw[hpk]at h6
 simp only at h6
 have q1:(kd != 6)=true:=by rw[bne_iff_ne];exact h6
 clear h6
 obtain⟨W,hW⟩:∃W,W=w.alloc (.cells #[.int .i64 0,.slice none 0 0,.slice none 0 0,.slice none 0 0] 29):=⟨_,rfl⟩
 have hx:Ext w W:=by rw[hW];exact zb _ _
 have hnW:Own W w.heap.size [.int .i64 0,.slice none 0 0,.slice none 0 0,.slice none 0 0]:=by rw[hW];exact own4 w _ _ _ _ _
 have HU:=Lib.hid (hU ks hkn W (h.ext hx))
 have HU2:=Lib.hid hU
 unfold zu at HU
 rw[hu]at HU
 have hul:=zb4 hu
 clear hu h hU
 go_enter Tryz.func40,Tryz.ntmps40
 go_upto_region 2 with (rw[←hW];clear hW;go_at_call 79;refine(HU.out).mono ?_;rintro e w1 ⟨hx1,hc1,v,rfl,xa,xb,xc,xd,rfl,hf⟩;(have hf':=hf);(obtain⟨b1,c1,b2,c2,b3,c3,rfl,rfl,rfl,rfl,-⟩:=hf'.form);clear hf')
 have HP:=Lib.hid (fun w' (hx:Ext w1 w')=>zab hl (hc1.ext hx))
 rw[hpk]at HP
 have hq1:Chg [cb] w w1:=Chg.trans (Chg.of_ext hx) hx1
 have hnc:w.heap.size≠cb:=by omega
 have hn1:=hnW.chg hx1 (by simpa using hnc)
 have hnl:=hnW.lt
 have hnl1:=hx1.size
 go_upto_region 3 with (go_at_call 80;refine(HP.out _ (zb _ _)).mono ?_;rintro e w2 ⟨rfl,hx2⟩;simp only[Tok.vals])
 obtain⟨V,hV⟩:∃V,V=w2.alloc (.cells #[.int .i64 kd,.string tx,.int .i64 ta] 77):=⟨_,rfl⟩
 have hx12:Ext w1 V:=by rw[hV];exact((zb _ _).trans hx2).alloc _
 have hfV:Own V w1.heap.size [.int .i64 f.op,.slice b1 f.vars.length c1,.slice b2 f.terms.length c2,.slice b3 f.args.length c3]:=by rw[hV];exact((own4 w1 _ _ _ _ _).ext hx2).ext (zb _ _)
 have htV:Own V w2.heap.size [.int .i64 kd,.string tx,.int .i64 ta]:=by rw[hV];exact own3 w2 _ _ _ _
 have hqV:=hq1.trans (Chg.of_ext hx12)
 have hcV:=hc1.ext hx12
 have hnV:=hn1.ext hx12
 have hfm:IsFm (fun g=>w.heap.size<g) V _ _ _ _ f:=(Dat.Fs.mono hf fun g hg _=>(show w.heap.size<g by have:W.heap.size≤g:=hg;omega)).ext hx12
 have hfn:w.heap.size<w1.heap.size:=by omega
 have htn:w1.heap.size<w2.heap.size:=by have:=((zb w1 (.cells #[.int .i64 f.op,.slice b1 f.vars.length c1,.slice b2 f.terms.length c2,.slice b3 f.args.length c3] 29)).trans hx2).size;have:=(own4 w1 (.int .i64 f.op) (.slice b1 f.vars.length c1) (.slice b2 f.terms.length c2) (.slice b3 f.args.length c3) 29).lt;have:=hx2.size;omega
 rw[←hV]
 clear hV hx hx1 hx2 hx12 hnW HU HP hq1 hn1 hnl hnl1 hc1 hf
 generalize w1.heap.size=fb at *
 generalize w2.heap.size=tb at *
 have hfc:fb≠cb:=by omega
 have htc:tb≠cb:=by omega
 have hfne:fb≠w.heap.size:=by omega
 clear w1 w2
 obtain⟨⟨m0,-⟩,⟨m1,-⟩,⟨m2,-⟩,⟨m3,-⟩⟩:=hfV.cells4
 obtain⟨t0,-⟩:=htV 0 _ rfl
 obtain⟨t1,-⟩:=htV 1 _ rfl
 obtain⟨⟨n0,g0⟩,⟨n1,g1⟩,⟨n2,g2⟩,⟨n3,g3⟩⟩:=hnV.cells4
 have hnl:=hnV.lt
 go_wp2
 refine za4 hqV hlt hcV hnV (fun W2 r0 r1 r2 r3=>by simp[results,Tryz.results40,go_sem,r0,r1,r2,r3]) rfl fun W2 k1 k2 k3=>⟨k2,?_⟩
 rw[HE.out]
 exact⟨k1,_,rfl,_,_,_,_,rfl,Dat.Fs.mono (Dat.Fs.chg hfm k3 (fun g hg=>by simp;omega)) fun g hg _=>(show w.heap.size≤g by omega)⟩
theorem zsw {s:ByteArray}(h:zdl s=none):(s.toList==[61,62])=false∧(s.toList==[60,61])=false∧(s.toList==[60,61,62])=false∧(s.toList==[60,126,62])=false∧(s.toList==[126,124])=false∧(s.toList==[126,38])=false:=by
 unfold zdl at h
 repeat' split at h
 all_goals try (cases h;done)
 rename_i h1 h2 h3 h4 h5 h6
 have k1:=zcb h1
 have k2:=zcb h2
 have k3:=zcb h3
 have k4:=zcb h4
 have k5:=zcb h5
 have k6:=zcb h6
 rw[show sImp.toList=[61,62] by decide +kernel]at k1
 rw[show sRev.toList=[60,61] by decide +kernel]at k2
 rw[show sIff.toList=[60,61,62] by decide +kernel]at k3
 rw[show sXor.toList=[60,126,62] by decide +kernel]at k4
 rw[show sNor.toList=[126,124] by decide +kernel]at k5
 rw[show zwz.toList=[126,38] by decide +kernel]at k6
 exact⟨k1,k2,k3,k4,k5,k6⟩
theorem zvh {cb:Nat}{l:List Tok}(hl:l.length≤1073741824){n:Nat}(hU:zcj cb l n){ks:List Tok}(hkn:ks.length≤n){w:World}(h:Cur cb l w ks){f:Fm}{t:Tok}{r:List Tok}(hu:zr ks=.ok f (t::r)) (h6:t.kind=6) (ha:t.text≠sAnd) (ho:t.text≠sOr) (hb:zdl t.text=none) :
  Calls Tryz.prog 40 #[.pointer (some ⟨cb,0,none⟩)] w (zu zc7 cb l w (zh zr ks)):=by
 have HE:=Lib.hid (show zh zr ks=.ok f (t::r) by
  unfold zh;rw[hu,Rd.bind_ok,zl,if_neg (by simpa using h6),if_neg ha,if_neg ho,hb])
 have hlt:=h.lt
 have hpk:zt (t::r)=t:=rfl
 have hbin:=zsw hb
 obtain⟨kd,tx,ta⟩:=t
 simp only at h6 ha ho hbin
 have q1:(kd != 6)=false:=by rw[bne_eq_false_iff_eq];exact h6
 clear h6
 have qa:=zcb ha
 have qo:=zcb ho
 obtain⟨q3,q4,q5,q6,q7,q8⟩:=hbin
 rw[show sAnd.toList=[38] by decide +kernel]at qa
 rw[show sOr.toList=[124] by decide +kernel]at qo
 clear ha ho hb
 obtain⟨W,hW⟩:∃W,W=w.alloc (.cells #[.int .i64 0,.slice none 0 0,.slice none 0 0,.slice none 0 0] 29):=⟨_,rfl⟩
 have hx:Ext w W:=by rw[hW];exact zb _ _
 have hnW:Own W w.heap.size [.int .i64 0,.slice none 0 0,.slice none 0 0,.slice none 0 0]:=by rw[hW];exact own4 w _ _ _ _ _
 have HU:=Lib.hid (hU ks hkn W (h.ext hx))
 have HU2:=Lib.hid hU
 unfold zu at HU
 rw[hu]at HU
 have hul:=zb4 hu
 clear hu h hU
 go_enter Tryz.func40,Tryz.ntmps40
 go_upto_region 2 with (rw[←hW];clear hW;go_at_call 79;refine(HU.out).mono ?_;rintro e w1 ⟨hx1,hc1,v,rfl,xa,xb,xc,xd,rfl,hf⟩;(have hf':=hf);(obtain⟨b1,c1,b2,c2,b3,c3,rfl,rfl,rfl,rfl,-⟩:=hf'.form);clear hf')
 have HP:=Lib.hid (fun w' (hx:Ext w1 w')=>zab hl (hc1.ext hx))
 rw[hpk]at HP
 have hq1:Chg [cb] w w1:=Chg.trans (Chg.of_ext hx) hx1
 have hnc:w.heap.size≠cb:=by omega
 have hn1:=hnW.chg hx1 (by simpa using hnc)
 have hnl:=hnW.lt
 have hnl1:=hx1.size
 go_upto_region 3 with (go_at_call 80;refine(HP.out _ (zb _ _)).mono ?_;rintro e w2 ⟨rfl,hx2⟩;simp only[Tok.vals])
 obtain⟨V,hV⟩:∃V,V=w2.alloc (.cells #[.int .i64 kd,.string tx,.int .i64 ta] 77):=⟨_,rfl⟩
 have hx12:Ext w1 V:=by rw[hV];exact((zb _ _).trans hx2).alloc _
 have hfV:Own V w1.heap.size [.int .i64 f.op,.slice b1 f.vars.length c1,.slice b2 f.terms.length c2,.slice b3 f.args.length c3]:=by rw[hV];exact((own4 w1 _ _ _ _ _).ext hx2).ext (zb _ _)
 have htV:Own V w2.heap.size [.int .i64 kd,.string tx,.int .i64 ta]:=by rw[hV];exact own3 w2 _ _ _ _
 have hqV:=hq1.trans (Chg.of_ext hx12)
 have hcV:=hc1.ext hx12
 have hnV:=hn1.ext hx12
 have hfm:IsFm (fun g=>w.heap.size<g) V _ _ _ _ f:=(Dat.Fs.mono hf fun g hg _=>(show w.heap.size<g by have:W.heap.size≤g:=hg;omega)).ext hx12
 have hfn:w.heap.size<w1.heap.size:=by omega
 have htn:w1.heap.size<w2.heap.size:=by have:=((zb w1 (.cells #[.int .i64 f.op,.slice b1 f.vars.length c1,.slice b2 f.terms.length c2,.slice b3 f.args.length c3] 29)).trans hx2).size;have:=(own4 w1 (.int .i64 f.op) (.slice b1 f.vars.length c1) (.slice b2 f.terms.length c2) (.slice b3 f.args.length c3) 29).lt;have:=hx2.size;omega
 rw[←hV]
 clear hV hx hx1 hx2 hx12 hnW HU HP hq1 hn1 hnl hnl1 hc1 hf
 generalize w1.heap.size=fb at *
 generalize w2.heap.size=tb at *
 have hfc:fb≠cb:=by omega
 have htc:tb≠cb:=by omega
 have hfne:fb≠w.heap.size:=by omega
 clear w1 w2
 obtain⟨⟨m0,-⟩,⟨m1,-⟩,⟨m2,-⟩,⟨m3,-⟩⟩:=hfV.cells4
 obtain⟨t0,-⟩:=htV 0 _ rfl
 obtain⟨t1,-⟩:=htV 1 _ rfl
 obtain⟨⟨n0,g0⟩,⟨n1,g1⟩,⟨n2,g2⟩,⟨n3,g3⟩⟩:=hnV.cells4
 have hnl:=hnV.lt
 go_wp2
 refine za4 hqV hlt hcV hnV (fun W2 r0 r1 r2 r3=>by simp[results,Tryz.results40,go_sem,r0,r1,r2,r3]) rfl fun W2 k1 k2 k3=>⟨k2,?_⟩
 rw[HE.out]
 exact⟨k1,_,rfl,_,_,_,_,rfl,Dat.Fs.mono (Dat.Fs.chg hfm k3 (fun g hg=>by simp;omega)) fun g hg _=>(show w.heap.size≤g by omega)⟩
end Go.Proofs.YtnclgkdpafhogaaGreat
