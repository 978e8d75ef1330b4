/- tptp.entry: an entry behind its first token. Condition: at most 8001 tokens, at most 100000 entries ahead.
Plain: an include, way by way; which files are open. No condition.
slices.DeleteFunc on a row of entries of the call's own: those with names of a list stay. Condition: at most 2^20 entries. -/
import Derived.Test.YtnclgkdpafhogaaGreatQe31
import Derived.Test.YtnclgkdpafhogaaGreatQe20
import Derived.Deep.CutRange
import Derived.Deep.CutBlock
import Derived.Deep.DeepMust
import Derived.Test.YtnclgkdpafhogaaGreatQe28
set_option maxHeartbeats 16000000
set_option maxRecDepth 100000
namespace Go.Proofs.YtnclgkdpafhogaaGreat
open Go.ChangeShapes Go.WideShapes Go.ChangeAt Go.RowKit
def LeftBy (rb:Nat) (l:List Tok) (file:Int) (t:Flt) (e:Ending) (w':World):Prop :=
 (∃r ks v,t=ze0 l file r∧e=.panicked [zch (zck l r)]∧PRd rb l w' ks file v)∨zk6 t e
theorem LeftBy.wrong {rb:Nat}{l ks r:List Tok}{file:Int}{v:Value}{w':World}{t:Flt}(ht:t=ze0 l file r) (h:PRd rb l w' ks file v):LeftBy rb l file t (.panicked [zch (zck l r)]) w':=.inl ⟨r,ks,v,ht,rfl,h⟩
def EntRow (B:Nat) (w:World) (v:Value) (l:List Ent):Prop:=GRow (z6 7) 53 B w v (l.map Ent.dat)
def EntPost (rb B:Nat) (l:List Tok) (file:Int) (v:Value) (out:List Ent) (w:World) (res:Out (Ent×List Tok)) (e:Ending) (w':World):Prop :=
 Chg (rb::v.ownBlock.toList) w w'∧match res with
 |.ok xr=>e=.returned (.tuple #[])∧(∀u,w.cell? ⟨rb,0,none⟩=some u→w'.cell? ⟨rb,0,none⟩=some u)∧∃v',PRd rb l w' xr.2 file v'∧EntRow B w' v' (out++[xr.1])∧(v'.ownBlock=v.ownBlock∨∀g,v'.ownBlock=some g→w.heap.size≤g)
 |.flt t=>LeftBy rb l file t e w'
theorem EntPost.wrong {rb B:Nat}{l ks r:List Tok}{file:Int}{v v1:Value}{out:List Ent}{w w':World}{res:Out (Ent×List Tok)}(hr:res=.flt (ze0 l file r)) (hc:Chg [rb] w w') (h:PRd rb l w' ks file v1):EntPost rb B l file v out w res (.panicked [zch (zck l r)]) w':=by
 subst hr
 exact⟨hc.mono (by simp),LeftBy.wrong rfl h⟩
theorem EntPost.fault {rb B:Nat}{l:List Tok}{file:Int}{v:Value}{out:List Ent}{w w':World}{res:Out (Ent×List Tok)}{t t':Flt}{e:Ending}(hr:res=.flt t') (hc:Chg [rb] w w') (h:zk6 t e) (ht:t=t'):EntPost rb B l file v out w res e w':=by
 subst hr;subst ht
 exact⟨hc.mono (by simp),.inr h⟩
theorem PRd.at1 {rb:Nat}{l ks:List Tok}{w:World}{file:Int}{v:Value}(h:PRd rb l w ks file v):w.cell? ⟨rb,1,none⟩=some (.int .i64 (l.length-ks.length:Nat))∧w.frozen? ⟨rb,1,none⟩=false∧rb<w.heap.size:=by
 obtain⟨⟨hs,a,c,hown,-⟩,-⟩:=h
 obtain⟨c1,f1⟩:=hown 1 _ rfl
 exact⟨c1,f1,hown.lt⟩
theorem PRd.at0 {rb:Nat}{l ks:List Tok}{w:World}{file:Int}{v:Value}(h:PRd rb l w ks file v):∃a c,w.cell? ⟨rb,0,none⟩=some (.slice a l.length c)∧l.length≤c∧IsToks rb w a l:=by
 obtain⟨⟨hs,a,c,hown,hc,ht⟩,-⟩:=h
 exact⟨a,c,(hown 0 _ rfl).1,hc,ht⟩
theorem PRd.move {rb:Nat}{l ks r:List Tok}{w:World}{file:Int}{v:Value}(h:PRd rb l w ks file v) (hr:r <:+ l){z:Int}(hz:z=(l.length-r.length:Nat)):PRd rb l (w.setCell ⟨rb,1,none⟩ (.int .i64 z)) r file v :=
 h.kept ((Kept.refl rb w).set _) (h.1.move hr hz)
theorem zlw {l r:List Tok}(h:r <:+ l) (_hr:0<r.length):zgb l (l.length-r.length)=zt r:=z1a h (by have:=h.length_le;omega)
theorem zxa {l:List Tok}{nx:Int}(h:0≤nx) (h2:nx<l.length):zt9 l nx=zgb l nx.toNat:=by
 rw[zyz h h2,zn3 (by omega)]
theorem znk {ks:List Tok}(ht:∀t∈ks,t.ok){x:ByteArray}{r:List Tok}(h:zes ks=.ok x r):x.size≤1073741824:=by
 cases ks with
 |nil=>cases h
 |cons t ks =>
  rw[zc2]at h
  split at h
  ·injection h with h1 _;subst h1;exact(ht t (by simp)).2.1
  ·cases h
theorem znl {l r:List Tok}(hr:r <:+ l){f:Fm}{nx:Int}(h:zbo l (l.length-r.length:Nat)=(f,nx,0)):f.size≤2 * l.length:=by
 have hd:l.drop (l.length-r.length)=r:=(List.suffix_iff_eq_drop.1 hr).symm
 unfold zbo at h
 split at h
 ·injection h with _ h;injection h with _ h;cases h
 ·rw[Int.toNat_natCast,hd]at h
  cases hf:zex r with
  |bad k=>rw[hf]at h;injection h with _ h;injection h with _ h;cases h
  |ok g k =>
   have:=znh _ _ _ hf
   have:=hr.length_le
   rw[hf]at h
   simp only at h
   split at h
   ·rename_i hc;injection h with _ h;injection h with _ h;exact absurd h hc
   ·injection h with h1 _;subst h1;omega
theorem PRd.put {rb:Nat}{l ks:List Tok}{w:World}{file:Int}{v:Value}(h:PRd rb l w ks file v) (v':Value):PRd rb l (w.setCell ⟨rb,3,none⟩ v') ks file v':=by
 obtain⟨⟨h1,a,c,h2,h3,h4⟩,⟨q2,f2⟩,q3,f3⟩:=h
 have hch:Chg [rb] w (w.setCell ⟨rb,3,none⟩ v'):=(Chg.refl [rb] w).setCell _ (.inl (by simp))
 refine⟨⟨h1,a,c,fun i u hu=>?_,h3,h4.chg hch⟩,⟨?_,by rw[World.frozen?_setCell];exact f2⟩,World.cell?_setCell_same _ _ _ q3,by rw[World.frozen?_setCell];exact f3⟩
 ·obtain⟨k1,k2⟩:=h2 i u hu
  have hi:i≠3:=fun e=>by subst e;simp at hu
  exact⟨by rw[World.cell?_setCell_other _ _ _ _ (by simp[])];exact k1,by rw[World.frozen?_setCell];exact k2⟩
 ·rw[World.cell?_setCell_other _ _ _ _ (by simp)];exact q2
theorem PRd.grown {α:Type}{E:Elt α}{e rb B:Nat}{l ks:List Tok}{w w1 w2:World}{file:Int}{v u:Value}{m:List α}(h:PRd rb l w1 ks file v) (hr:GRow E e B w u m) (hB:rb<B) (hg:w1.grownBy w2 u.ownBlock):PRd rb l w2 ks file v:=by
 refine h.chg (S:=u.ownBlock.toList) (Chg.of_grown hg (fun g h=>.inl (by simp[h]))) fun b hb=>?_
 have:=(hr.own_ge (show u.ownBlock=some b by simpa using hb)).1
 omega
theorem zzv {rb B:Nat}{l r:List Tok}{file:Int}{v v':Value}{out:List Ent}{w w12 wA w13:World}{res:Out (Ent×List Tok)}{x:Ent}(hrB:rb<B) (hres:res=.ok (x,r)) (h0:∀u,w.cell? ⟨rb,0,none⟩=some u→w12.cell? ⟨rb,0,none⟩=some u) (hc:Chg [rb] w w12) (hp:PRd rb l w12 r file v) (hrow:GRow (z6 7) 53 B w12 v (out.map Ent.dat)) (hxA:Ext w12 wA)
  (hrow13:GRow (z6 7) 53 B w13 v' (out.map Ent.dat++[x.dat])) (hgrow:wA.grownBy w13 v.ownBlock) (hat:v'.ownBlock=v.ownBlock∨v'.ownBlock=some wA.heap.size):EntPost rb B l file v out w res (.returned (.tuple #[])) (w13.setCell ⟨rb,3,none⟩ v'):=by
 subst hres
 have hset:Chg [rb] w13 (w13.setCell ⟨rb,3,none⟩ v'):=(Chg.refl [rb] w13).setCell _ (.inl (by simp))
 refine⟨((hc.mono (by simp)).trans ((Chg.of_ext (S:=rb::v.ownBlock.toList) hxA).trans (Chg.of_grown hgrow (fun g h=>.inl (by simp[h]))))).trans (hset.mono (by simp)),rfl,fun u hu=>?_,v',((hp.ext hxA).grown hrow hrB hgrow).put v',?_,?_⟩
 ·have h1:=hxA.cell (h0 u hu)
  have h2:=(hgrow.cell_far ⟨rb,0,none⟩ (zf h1) (fun e=>by have:=(hrow.own_ge e.symm).1;simp only at this;omega)).trans h1
  rw[World.cell?_setCell_other _ _ _ _ (by simp)];exact h2
 ·unfold EntRow
  rw[List.map_append]
  exact GRow.chg hrow13 hset (by simp;omega)
 ·rcases hat with h|h
  ·exact .inl h
  ·refine .inr fun g hg=>?_
   rw[h]at hg
   injection hg with hg
   have:=hc.size
   have:=hxA.size
   omega
theorem zxb:(Tryz.prog.info? 53).map (fun i=>(i.zero,i.size,i.bytes))=some (some (.agg #[.bool false,.string ⟨#[]⟩,.string ⟨#[]⟩,.int .i64 0,.slice none 0 0,.slice none 0 0,.slice none 0 0]),7,120):=by kernel_rfl
theorem zqo {l:List Tok}(hl:l.length≤8001) (hE:Ends l){rb B:Nat}{t:Tok}{ks:List Tok}{w:World}{file:Int}{v:Value}{out:List Ent}(hsuf:t::ks <:+ l) (hEk:Ends ks) (h:PRd rb l w ks file v) (hrow:EntRow B w v out) (hrB:rb<B) (hBw:B≤w.heap.size) (cnf:Bool) (ahead:Nat) (hah:ahead≤100000) (hout:out.length≤100000) :
  Calls Tryz.prog 111 #[.pointer (some ⟨rb,0,none⟩),.bool cnf,.int .i64 ahead] w (EntPost rb B l file v out w (entR l file cnf t.at' (ahead+out.length) ks)):=by
 have hne:=hE.pos
 have hl2:l.length≤1073741824:=by omega
 have HM:=Lib.hid (fun s w' ks' (h:Cur rb l w' ks')=>zq5 hl2 hne h s)
 have HNM:=Lib.hid (fun w' ks' (h:Cur rb l w' ks')=>zp5 hl2 hne h)
 have HK:=Lib.hid (fun w' ks' (h:Cur rb l w' ks')=>zq6 hl2 hne h (k:=1) (by decide))
 have HR:=Lib.hid (fun s w=>zm4 s w)
 have HST:=Lib.hid (fun w' ks' v' n er (hn:n<l.length) (h:PRd rb l w' ks' file v')=>ztd hl2 h hn er)
 obtain⟨p,hp,hpt,hp1,hp2,hp3⟩:=zdn hsuf
 have hks:ks <:+ l:=(List.suffix_cons t ks).trans hsuf
 have HPT:=Lib.hid (show(zgb l p).at'=t.at' by rw[zn3 hp,hpt])
 obtain⟨z1,zf1,hrw⟩:=h.at1
 rw[hp3]at z1
 have hm1:IntKind.i64.wrap (((p+1:Nat):Int)-1)=p:=by rw[IntWalk.i64_in _ (by omega)];omega
 have HS:=Lib.hid hsuf
 have HOUT:=Lib.hid hrow
 clear hpt hsuf hrow
 go_enter Tryz.func111,Tryz.ntmps111
 go_upto_region 1 with fail
 clear z1 zf1 hm1
 go_upto_region 2 with (go_at_call 130;refine(HM.out zbp _ _ h.1).mono ?_;rintro e w1 ⟨hk1,hm⟩;(rcases zcu (zw zbp ks)with ⟨r1,hq1⟩|⟨u1,r1,hq1⟩);(focus (rw[hq1]at hm;(obtain⟨rfl,hc1⟩:=hm);exact⟨rfl,EntPost.wrong (zfg (zwa hq1)) hk1.chg (h.kept hk1 hc1)⟩));rw[hq1]at hm;(obtain⟨rfl,hc1⟩:=hm))
 have g1:=h.kept hk1 hc1
 go_upto_region 3 with (go_at_call 145;refine(HNM.out _ _ hc1).mono ?_;rintro e w2 ⟨hk2,hm⟩;(rcases zcu (zes r1)with ⟨r2,hq2⟩|⟨nm,r2,hq2⟩);(focus (rw[hq2]at hm;(obtain⟨rfl,hc2⟩:=hm);exact⟨rfl,EntPost.wrong (zfg (zwb hq1 hq2)) (hk1.trans hk2).chg (g1.kept hk2 hc2)⟩));rw[hq2]at hm;(obtain⟨rfl,hc2⟩:=hm))
 obtain⟨V2,hV2⟩:∃V2,V2=w2.alloc (.cells #[.bool cnf,.string nm,.string ⟨#[]⟩,.int .i64 0,.slice none 0 0,.slice none 0 0,.slice none 0 0] 53):=⟨_,rfl⟩
 have b2:Own V2 w2.heap.size [.bool cnf,.string nm,.string ⟨#[]⟩,.int .i64 0,.slice none 0 0,.slice none 0 0,.slice none 0 0]:=by rw[hV2];exact zcr w2 _ _
 have e2:Ext w2 V2:=by rw[hV2];exact zb _ _
 have g2:=(g1.kept hk2 hc2).ext e2
 have hnms:=znk g1.1.toks hq2
 have K2:Kept rb w V2:=(hk1.trans hk2).ext e2
 have hrb2:=hc2.lt
 have hw2:=(hk1.trans hk2).chg.size
 rw[←hV2]
 clear hV2 e2 hc1 hc2
 obtain⟨eb,hebe⟩:∃eb,eb=w2.heap.size:=⟨_,rfl⟩
 rw[←hebe]at b2 hrb2 hw2 ⊢
 clear hebe
 have hne1:eb∉[rb]:=by simp;omega
 go_upto_region 4 with (go_at_call 130;refine(HM.out zj _ _ g2.1).mono ?_;rintro e w3 ⟨hk3,hm⟩;(rcases zcu (zw zj r2)with ⟨r3,hq3⟩|⟨u3,r3,hq3⟩);(focus (rw[hq3]at hm;(obtain⟨rfl,hc3⟩:=hm);exact⟨rfl,EntPost.wrong (zfg (zwc hq1 hq2 hq3)) (K2.trans hk3).chg (g2.kept hk3 hc3)⟩));rw[hq3]at hm;(obtain⟨rfl,hc3⟩:=hm))
 have g3:=g2.kept hk3 hc3
 have K3:=K2.trans hk3
 have b3:=b2.chg hk3.chg hne1
 obtain⟨z3,-,l3⟩:=g3.at1
 go_upto_region 5 with fail
 clear z3 b2 g2 g1
 go_upto_region 6 with (go_at_call 146;refine(HK.out _ _ g3.1).mono ?_;rintro e w4 ⟨hk4,hm⟩;(rcases zcu (za5 1 r3)with ⟨r4,hq4⟩|⟨role,r4,hq4⟩);(focus (rw[hq4]at hm;(obtain⟨rfl,hc4⟩:=hm);exact⟨rfl,EntPost.wrong (zfg (zwd hq1 hq2 hq3 hq4)) (K3.trans hk4).chg (g3.kept hk4 hc4)⟩));rw[hq4]at hm;(obtain⟨rfl,hc4⟩:=hm);have b4:=b3.chg hk4.chg hne1;have l4:=b4.lt;(obtain⟨y2,yf2⟩:=b4 2 _ rfl))
 have hros:=zf7 g3.1.toks hq4
 obtain⟨V4,hV4⟩:∃V4,V4=w4.setCell ⟨eb,2,none⟩ (.string role):=⟨_,rfl⟩
 have c4:Chg [eb] w4 V4:=by rw[hV4];exact(Chg.refl [eb] w4).setCell _ (.inl (by simp))
 have b5:Own V4 eb [.bool cnf,.string nm,.string role,.int .i64 0,.slice none 0 0,.slice none 0 0,.slice none 0 0]:=by rw[hV4];exact b4.set (i:=2) (by simp) _
 have C4:Chg [rb] w V4:=Chg.drop (Below.refl _ _) (((K3.trans hk4).chg.mono (T:=[rb,eb]) (by simp)).trans (c4.mono (by simp))) (by simp;omega)
 have K4:Kept rb w V4:=(K3.trans hk4).chgs c4 (by simp;omega) C4
 have g4:PRd rb l V4 r4 file v:=(g3.kept hk4 hc4).chg c4 (by simp;omega)
 rw[←hV4]
 clear hV4 c4 y2 yf2 b4 b3 g3 hc4 hc3
 go_upto_region 7 with (go_at_call 130;refine(HM.out zj _ _ g4.1).mono ?_;rintro e w5 ⟨hk5,hm⟩;(rcases zcu (zw zj r4)with ⟨r5,hq5⟩|⟨u5,r5,hq5⟩);(focus (rw[hq5]at hm;(obtain⟨rfl,hc5⟩:=hm);exact⟨rfl,EntPost.wrong (zfg (zwe hq1 hq2 hq3 hq4 hq5)) (C4.trans hk5.chg) (g4.kept hk5 hc5)⟩));rw[hq5]at hm;(obtain⟨rfl,hc5⟩:=hm))
 have g5:=g4.kept hk5 hc5
 have C5:=C4.trans hk5.chg
 have K5:=K4.trans hk5
 have b6:=b5.chg hk5.chg hne1
 have hH:=Lib.hid (zm5 hq1 hq2 hq3 hq4 hq5)
 have hr3:r3 <:+ l:=g4.1.1.elim fun p hp=>(zeh (z7 _ _) hq3).trans ((zeh (zhj _) hq2).trans ((zeh (z7 _ _) hq1).trans hks))
 have hr3l:0<r3.length:=by obtain⟨tt,rfl,-⟩:=zfw hq4;simp
 have hr5:r5 <:+ l:=g5.1.1
 have he5:Ends r5:=zjk _ _ _ hEk hH.out
 have HAT:=Lib.hid (show(zgb l (l.length-r3.length)).at'=(zt r3).at' by rw[zlw hr3 hr3l])
 clear hq1 hq2 hq3 hq4 hq5 b5 g4 hc5 K3 K2 K4 C4
 obtain⟨⟨-,-,y2⟩,-,l5⟩:=zbd b6
 go_cut [56]from 45 to 56 (fun x wx=>x=.bool (!(zbx cnf role))∧wx=w5)
 case first =>
  have HRO:=Lib.hid (fun w=>HR.out role w)
  clear b6 hk1 hk2 hk3 hk4 hk5
  rcases zgy cnf role with ⟨e0,e1⟩|⟨e0,e1,rfl,e3⟩|⟨e0,e1,rfl⟩|⟨e0,e1,rfl,e3⟩
  all_goals
   rw[e1]at HRO
   try have q2:(role.toList==[99,111,110,106,101,99,116,117,114,101])=_:=eqL (r:=zer) (by rw[Go.ByteArray.toList_eq];rfl) e3
   have HE0:=Lib.hid e0
   clear e0 e1
   try clear e3
   go_wp2_with (go_at_call 70;refine(HRO.out _).mono ?_;rintro e w7 ⟨rfl,hw7⟩;subst hw7)
   go_meet
   exact⟨by rw[HE0.out];rfl,rfl⟩
 case rest =>
  obtain⟨rfl,hwc⟩:=hcut
  rw[hwc]
  clear hwc
  cases hro:zbx cnf role with
  |false =>
   have HRO:=Lib.hid hro
   clear hro
   go_wp2_with (go_at_call 147;refine(HST.out _ _ _ (l.length-r3.length) 241 (by have:=hr3.length_le;omega) g5).mono ?_;rintro e w8 ⟨⟨older,rfl,ho⟩,hx8⟩)
   exact⟨rfl,EntPost.fault (zwf hH.out HRO.out) (C5.trans (Chg.of_ext hx8)) ⟨older,rfl,ho⟩ (by rw[HAT.out])⟩
  |true =>
   obtain⟨f,nx,er,hd⟩:∃f nx er,zbo l (l.length-r5.length:Nat)=(f,nx,er):=⟨_,_,_,rfl⟩
   have HD:=Lib.hid hd
   have hat:=zs4 hE hr5 he5
   rw[hd]at hat
   simp only at hat
   obtain⟨a0,c0,z0,hc0,htk⟩:=g5.at0
   obtain⟨z1,-,l6⟩:=g5.at1
   have HRD:=Lib.hid (fun w' (hx:Ext w5 w')=>zzu l (by omega) (P:=fun b=>b<rb) (w:=w') (a:=a0) (c:=c0) (Dat.Rows.ext htk hx) hc0 (l.length-r5.length:Nat) (by omega) (by omega))
   rw[hd]at HRD
   unfold ReadSays at HRD
   dsimp only at HRD
   have HRO:=Lib.hid hro
   have HC0:=Lib.hid hc0
   clear hro hd htk y2 hc0
   go_upto_region 9 with fail
   go_cut [9,10,11]from 60 to 74 (fun x y z wx=>∃(fb:Nat) (x0 x1 x2 x3:Value),x=.pointer (some ⟨fb,0,none⟩)∧y=.int .i64 nx∧z=.int .i64 er∧Own wx fb [x0,x1,x2,x3]∧w5.heap.size≤fb∧IsFm (fun g=>w5.heap.size≤g∧g≠fb) wx x0 x1 x2 x3 f∧Ext w5 wx)
   case first =>
    clear b6 hk1 hk2 hk3 hk4 hk5 HM HNM HK HR HST
    go_region_law ((go_simp;go_at_call 12;refine(HRD.out _ (by first|exact Ext.drew (Below.refl _ _)|exact(Ext.drew (Below.refl _ _)).alloc _|exact Ext.drew (zb _ _))).mono ?_;rintro e w8 ⟨⟨v8,rfl,x0,x1,x2,x3,rfl,hfm⟩,hx8⟩;(obtain⟨d1,e1',d2,e2',d3,e3',rfl,rfl,rfl,rfl⟩:=zdq hfm);first
     |((have hx9:Ext ((w5.alloc (.cells #[.int .i64 0,.slice none 0 0,.slice none 0 0,.slice none 0 0] 29)).drew) w8:=(by with_reducible exact hx8));(have hE:Ext w5 w8:=Ext.trans (Ext.drew (zb _ _)) hx9);(have hb:=((own4 w5 (.int .i64 0) (.slice none 0 0) (.slice none 0 0) (.slice none 0 0) 29).ext (Ext.trans (Ext.drew (Below.refl _ _)) hx9)));have hbl:=hb.lt;(obtain⟨⟨n0,m0⟩,⟨n1,m1⟩,⟨n2,m2⟩,⟨n3,m3⟩⟩:=hb.cells4))
     |((have hx0:Ext w5.drew w8:=(by with_reducible exact hx8));(have hE:Ext w5 w8:=Ext.trans (Ext.drew (Below.refl _ _)) hx0);(have hb:=(own4 w8 (.int .i64 0) (.slice none 0 0) (.slice none 0 0) (.slice none 0 0) 29));have hbl:=hb.lt;(obtain⟨⟨n0,m0⟩,⟨n1,m1⟩,⟨n2,m2⟩,⟨n3,m3⟩⟩:=hb.cells4))))
    all_goals
     go_wp2_with fail
     go_meet
     first
      |(have hw:=hx9
        have hch:=zbr w8 w5.heap.size (.int .i64 f.op) (.slice d1 f.vars.length e1') (.slice d2 f.terms.length e2') (.slice d3 f.args.length e3')
        exact⟨w5.heap.size,_,_,_,_,rfl,rfl,rfl,zbq hb _ _ _ _,Nat.le_refl _,Dat.Fs.mono (Dat.Fs.chg hfm hch (fun g hg=>by have h1:_≤g:=hg;simp at h1 ⊢;omega)) (fun g hg _=>by have h1:_≤g:=hg;simp at h1;omega),Chg.ext hE hch (by simp)⟩)
      |(have hw:=hx0
        exact⟨w8.heap.size,_,_,_,_,rfl,rfl,rfl,own4 w8 _ _ _ _ _,hE.size,Dat.Fs.ext (Dat.Fs.mono hfm fun g hg hlt=>⟨by have h1:_≤g:=hg;simpa using h1,by omega⟩) (zb _ _),hE.alloc _⟩)
   case rest =>
    obtain⟨fb,x0,x1,x2,x3,rfl,rfl,rfl,hfb,hfbw,hfm,hxW⟩:=hcut
    have g6:=g5.ext hxW
    have b7:=b6.ext hxW
    have C6:=C5.trans (Chg.of_ext hxW)
    have K6:=K5.ext hxW
    have hsW:=hxW.size
    obtain⟨k,hk⟩:∃k:Nat,nx=k:=⟨nx.toNat,by omega⟩
    subst hk
    have hkl:k<l.length:=by omega
    clear g5 b6 hfbw C5 K5 z0 z1
    by_cases her:er=0
    case neg =>
     have q:(er != 0)=true:=by rw[bne_iff_ne];exact her
     have HER:=Lib.hid her
     clear her hat b7 hfb hfm
     go_wp2_with (go_at_call 147;refine(HST.out _ _ _ k er hkl g6).mono ?_;rintro e w10 ⟨⟨older,rfl,ho⟩,hx10⟩)
     exact⟨rfl,EntPost.fault (zwg hH.out HRO.out HD.out HER.out) (C6.trans (Chg.of_ext hx10)) ⟨older,rfl,ho⟩ (by rw[zxa (by omega) (by omega)];rfl)⟩
    case pos =>
     subst her
     have hfsz:f.size≤4194304:=by have:=znl hr5 HD.out;omega
     obtain⟨a1,a2,a3⟩:=hat.2.2 rfl
     simp only[Int.toNat_natCast]at a1 a2 a3
     obtain⟨d1,e1,d2,e2,d3,e3,rfl,rfl,rfl,rfl⟩:=zdq hfm
     obtain⟨⟨n0,-⟩,⟨n1,-⟩,⟨n2,-⟩,⟨n3,-⟩⟩:=hfb.cells4
     obtain⟨y3,yf3⟩:=b7 3 _ rfl
     obtain⟨y4,yf4⟩:=b7 4 _ rfl
     obtain⟨y5,yf5⟩:=b7 5 _ rfl
     obtain⟨y6,yf6⟩:=b7 6 _ rfl
     obtain⟨z1,zf1,l7⟩:=g6.at1
     have l8:=b7.lt
     have l9:=hfb.lt
     have hne2:rb≠eb:=by omega
     have hne3:eb≠rb:=by omega
     clear hat
     go_upto_region 13 with fail
     clear n0 n1 n2 n3 y3 y4 y5 y6 yf3 yf4 yf5 yf6 z1 zf1
     obtain⟨V8,hV8⟩:∃V8,V8=(((wc.setCell ⟨eb,3,none⟩ (.int .i64 f.op)).setCell ⟨eb,4,none⟩ (.slice d1 f.vars.length e1)).setCell ⟨eb,5,none⟩ (.slice d2 f.terms.length e2)).setCell ⟨eb,6,none⟩ (.slice d3 f.args.length e3):=⟨_,rfl⟩
     have c8:Chg [eb] wc V8:=by rw[hV8];exact((((Chg.refl [eb] wc).setCell _ (.inl (by simp))).setCell _ (.inl (by simp))).setCell _ (.inl (by simp))).setCell _ (.inl (by simp))
     have b8:Own V8 eb [.bool cnf,.string nm,.string role,.int .i64 f.op,.slice d1 f.vars.length e1,.slice d2 f.terms.length e2,.slice d3 f.args.length e3]:=by
      rw[hV8]
      exact(((b7.set (i:=3) (by simp) _).set (i:=4) (by simp) _).set (i:=5) (by simp) _).set (i:=6) (by simp) _
     have g7:=(g6.chg c8 (by simp;omega)).move (a1.trans hr5) (show(k:Int)=((l.length-(l.drop k).length:Nat):Int) by rw[List.length_drop];omega)
     have c9:Chg [rb] V8 (V8.setCell ⟨rb,1,none⟩ (.int .i64 k)):=(Chg.refl [rb] V8).setCell _ (.inl (by simp))
     have b9:=b8.chg c9 (by simp;omega)
     have hfm9:IsFm (fun g=>w5.heap.size≤g) (V8.setCell ⟨rb,1,none⟩ (.int .i64 k)) (.int .i64 f.op) (.slice d1 f.vars.length e1) (.slice d2 f.terms.length e2) (.slice d3 f.args.length e3) f:=Dat.Fs.mono (Dat.Fs.chg (Dat.Fs.chg hfm c8 (fun g hg=>by have h1:=hg.1;simp;omega)) c9 (fun g hg=>by have h1:=hg.1;simp;omega)) fun g hg _=>hg.1
     have C7:Chg [rb] w (V8.setCell ⟨rb,1,none⟩ (.int .i64 k)):=Chg.drop (Below.refl _ _) ((C6.mono (T:=[rb,eb]) (by simp)).trans ((c8.mono (by simp)).trans (c9.mono (by simp)))) (by simp;omega)
     have K7:Kept rb w (V8.setCell ⟨rb,1,none⟩ (.int .i64 k)):=(K6.chgs c8 (by simp;omega) (Chg.drop (Below.refl _ _) ((C6.mono (T:=[rb,eb]) (by simp)).trans (c8.mono (by simp))) (by simp;omega))).set _
     have hs9:=C7.size
     have hs9':wc.heap.size≤(V8.setCell ⟨rb,1,none⟩ (.int .i64 k)).heap.size:=by have:=c8.size;have:=c9.size;omega
     rw[←hV8]
     clear hV8 c8 c9 b8 b7 g6 C6 K6 hfm hfb
     generalize V8.setCell ⟨rb,1,none⟩ (.int .i64 k)=V9 at *
     go_upto_region 14 with (go_at_call 130;refine(HM.out zcx _ _ g7.1).mono ?_;rintro e w10 ⟨hk10,hm⟩;(rcases zcu (zw zcx (l.drop k))with ⟨r6,hq6⟩|⟨u6,r6,hq6⟩);(focus (rw[hq6]at hm;(obtain⟨rfl,hc10⟩:=hm);exact⟨rfl,EntPost.wrong (ztc hH.out HRO.out HD.out (by rw[Int.toNat_natCast];exact zy2 hq6)) (C7.trans hk10.chg) (g7.kept hk10 hc10)⟩));rw[hq6]at hm;(obtain⟨rfl,hc10⟩:=hm))
     have g8:=g7.kept hk10 hc10
     have C8:=C7.trans hk10.chg
     have K8:=K7.trans hk10
     have b10:=b9.chg hk10.chg hne1
     have hfm10:=Dat.Fs.chg hfm9 hk10.chg (fun g hg=>by simp;omega)
     clear b9 g7 hfm9 C7 hc10
     go_upto_region 15 with (go_at_call 130;refine(HM.out sDot _ _ g8.1).mono ?_;rintro e w11 ⟨hk11,hm⟩;(rcases zcu (zw sDot r6)with ⟨r7,hq7⟩|⟨u7,r7,hq7⟩);(focus (rw[hq7]at hm;(obtain⟨rfl,hc11⟩:=hm);exact⟨rfl,EntPost.wrong (ztc hH.out HRO.out HD.out (by rw[Int.toNat_natCast];exact zy3 hq6 hq7)) (C8.trans hk11.chg) (g8.kept hk11 hc11)⟩));rw[hq7]at hm;(obtain⟨rfl,hc11⟩:=hm))
     have g9:=g8.kept hk11 hc11
     have C9:=C8.trans hk11.chg
     have K9:=K8.trans hk11
     have b11:=b10.chg hk11.chg hne1
     have hfm11:=Dat.Fs.chg hfm10 hk11.chg (fun g hg=>by simp;omega)
     have HL:=Lib.hid (zp2 (file:=file) (fr:=t.at') (n:=ahead+out.length) (cnf:=cnf) hH.out HRO.out HD.out (by rw[Int.toNat_natCast];exact zp3 hq6 hq7))
     clear b10 g8 hfm10 C8 hc11 hq6 hq7 a1 a2 a3
     obtain⟨⟨y0,y1,y2⟩,⟨y3,y4,y5,y6⟩,l11⟩:=zbd b11
     have HSH:=Lib.hid (znj ⟨cnf,nm,role,f⟩ _ _ _ _ _ _ ⟨hnms,hros,hfm11⟩ hfsz)
     unfold entV at HSH
     go_upto_region 16 with (go_at_call 71;refine(HSH.out).mono ?_;rintro e w12 ⟨rfl,hx12⟩)
     have g10:=g9.ext hx12
     have C10:=C9.trans (Chg.of_ext hx12)
     have HK0:=Lib.hid (fun u (hu:w.cell? ⟨rb,0,none⟩=some u)=>(K9.ext hx12).cell 0 (by decide) u hu)
     have b12:=b11.ext hx12
     have hfm12:=Dat.Fs.ext hfm11 hx12
     clear HSH y0 y1 y2 y3 y4 y5 y6 b11 hfm11 g9 C9 K9 K8 K7 l11
     by_cases hse:zax cnf f=0
     case neg =>
      have q:(zax cnf f != 0)=true:=by rw[bne_iff_ne];exact hse
      replace HL:=Lib.hid (HL.out.trans (if_pos hse))
      clear hse
      go_wp2_with (go_at_call 147;refine(HST.out _ _ _ p (zax cnf f) hp g10).mono ?_;rintro e w13 ⟨⟨older,rfl,ho⟩,hx13⟩)
      exact⟨rfl,EntPost.fault HL.out (C10.trans (Chg.of_ext hx13)) ⟨older,rfl,ho⟩ (by rw[HPT.out])⟩
     case pos =>
      have q:(zax cnf f != 0)=false:=by rw[bne_eq_false_iff_eq];exact hse
      replace HL:=Lib.hid (HL.out.trans (if_neg (fun h=>h hse)))
      clear hse
      have hrow:=HOUT.out
      unfold EntRow at hrow
      obtain⟨va,vc,hv,hvc⟩:=hrow.form
      rw[List.length_map]at hv hvc
      subst hv
      have g11:=g10
      obtain⟨-,-,q3,qf3⟩:=g11
      have l10:=zf q3
      simp only at l10
      by_cases hlong:200≤ahead+out.length
      case pos =>
       have hlong':(200:Int)≤(ahead:Int)+out.length:=by omega
       replace HL:=Lib.hid (HL.out.trans (if_pos hlong))
       clear hlong
       go_wp2_with (go_at_call 147;refine(HST.out _ _ _ p 3 hp g10).mono ?_;rintro e w13 ⟨⟨older,rfl,ho⟩,hx13⟩)
       exact⟨rfl,EntPost.fault HL.out (C10.trans (Chg.of_ext hx13)) ⟨older,rfl,ho⟩ (by rw[HPT.out])⟩
      case neg =>
       have hlong':¬(200:Int)≤(ahead:Int)+out.length:=by omega
       replace HL:=Lib.hid (HL.out.trans (if_neg hlong))
       clear hlong
       obtain⟨i0,hi0,hz0,hz1',hz2'⟩:=info_parts zxb
       have hrow12:=hrow.chg C10 (by simp;omega)
       have Hml:=Lib.hid (show(out.map Ent.dat).length=out.length by rw[List.length_map])
       have HOW:=Lib.hid (fun g (hg:(Value.slice va out.length vc).ownBlock=some g)=>hrow.own_ge hg)
       have HFM:=Lib.hid hfm12
       have HW12:=Lib.hid (show w.heap.size≤w5.heap.size∧w5.heap.size≤w12.heap.size from ⟨by omega,by have:=hk10.chg.size;have:=hk11.chg.size;have:=hx12.size;omega⟩)
       have HSZ:=Lib.hid (And.intro hnms hros)
       obtain⟨⟨y0,y1,y2⟩,⟨y3,y4,y5,y6⟩,l12⟩:=zbd b12
       have G10:=Lib.hid g10
       have C10':=Lib.hid C10
       go_upto_region 20 with fail
       clear hfm12 hrow b12 g10 C10 hk1 hk2 hk3 hk4 hk5 hk10 hk11 hx12 HM HNM HK HR HST
       go_region_law (refine zbz rfl (.tmp 119) (.tmp 121) _ rfl 53 i0 _ 120 Tryz.underlying45 hi0 hz0 hz1' hz2' rfl (by decide) B (.slice va out.length vc) (out.map Ent.dat) (by rfl) w12 hrow12 ((Ext.drew (Below.refl _ _)).trans (zb _ _)) w12.heap.size (by rfl) _ _ (heap_alloc_new _ _) (Ent.dat ⟨cnf,nm,role,f⟩) ⟨rfl,Dat.Fs.mono (IsEnt.fs (x:=⟨cnf,nm,role,f⟩) ⟨HSZ.out.1,HSZ.out.2,Dat.Fs.ext HFM.out ((Ext.drew (Below.refl _ _)).trans (zb _ _))⟩) fun g hg _=>⟨by have h1:=HW12.out;omega,fun e=>by have h1:=(HOW.out g e).2;have h2:=HW12.out;omega⟩⟩ (by rw[Hml.out];simp only[maxLen];omega) (by rw[Hml.out];omega) (by have:=HW12.out;simp;omega) ?_;intro g cap w13 hrow13 hgrow13 hat13 hlt13;(have hfar:(some (⟨rb,3,none⟩:Addr).block)≠(Value.slice va out.length vc).ownBlock:=fun e=>by have:=(HOW.out _ e.symm).1;simp only at this;omega);(have hq:=(zb w12.drew (.cells #[.bool cnf,.string nm,.string role,.int .i64 f.op,.slice d1 f.vars.length e1,.slice d2 f.terms.length e2,.slice d3 f.args.length e3] 53)).cell ((Ext.drew (Below.refl _ w12)).cell q3));(have hqf:=(zb w12.drew (.cells #[.bool cnf,.string nm,.string role,.int .i64 f.op,.slice d1 f.vars.length e1,.slice d2 f.terms.length e2,.slice d3 f.args.length e3] 53)).frozen ((Ext.drew (Below.refl _ w12)).cell q3) ((Ext.drew (Below.refl _ w12)).frozen q3 qf3));(have e5:=(hgrow13.cell_far ⟨rb,3,none⟩ (zf hq) hfar).trans hq);(have e6:=(hgrow13.frozen_far ⟨rb,3,none⟩ (zf hq) hfar).trans hqf))
       all_goals
        go_returns
        have hrow14:=hrow13
        rw[Hml.out]at hrow14
        have hfin:=zzv hrB HL.out HK0.out C10'.out G10.out hrow12 ((Ext.drew (Below.refl _ _)).trans (zb _ _)) hrow14 hgrow13 (hat13.imp (fun h=>h.symm) fun h=>congrArg some h)
        exact hfin
open Go.ChangeShapes Go.WideShapes Go.ChangeAt Go.RowKit Go.Maps
section
variable {ks r1 r2 r3 r4 r5 r:List Tok}{u1 u4 u5:Unit}{fn:ByteArray}{ns:Option (List (ByteArray×Int))}
theorem zxc (h1:zw zbp ks=.bad r):zau ks=.bad r:=by simp[zau,h1]
theorem zxd (h1:zw zbp ks=.ok u1 r1) (h2:za5 4 r1=.bad r):zau ks=.bad r:=by simp[zau,h1,h2]
theorem zlx (h1:zw zbp ks=.ok u1 r1) (h2:za5 4 r1=.ok fn r2) (h3:zai r2=.bad r):zau ks=.bad r:=by simp[zau,h1,h2,h3]
theorem zxe (h1:zw zbp ks=.ok u1 r1) (h2:za5 4 r1=.ok fn r2) (h3:zai r2=.ok ns r3) (h4:zw zcx r3=.bad r):zau ks=.bad r:=by simp[zau,h1,h2,h3,h4]
theorem zxf (h1:zw zbp ks=.ok u1 r1) (h2:za5 4 r1=.ok fn r2) (h3:zai r2=.ok ns r3) (h4:zw zcx r3=.ok u4 r4) (h5:zw sDot r4=.bad r):zau ks=.bad r:=by simp[zau,h1,h2,h3,h4,h5]
theorem zuy (h1:zw zbp ks=.ok u1 r1) (h2:za5 4 r1=.ok fn r2) (h3:zai r2=.ok ns r3) (h4:zw zcx r3=.ok u4 r4) (h5:zw sDot r4=.ok u5 r5):zau ks=.ok (fn,(zt r1).at',ns) r5:=by simp[zau,h1,h2,h3,h4,h5]
end
section
variable {ks r1 r2 r3 r4 r:List Tok}{u2 u4:Unit}{l:List (ByteArray×Int)}
theorem zot (h:zx zj ks=none):zai ks=.ok none ks:=by simp[zai,h]
theorem zuz (h:zx zj ks=some r1) (h2:zw ziu r1=.bad r):zai ks=.bad r:=by simp[zai,h,h2]
theorem zu0 (h:zx zj ks=some r1) (h2:zw ziu r1=.ok u2 r2) (h3:rowR zbc zj r2=.bad r):zai ks=.bad r:=by simp[zai,h,h2,h3]
theorem zu1 (h:zx zj ks=some r1) (h2:zw ziu r1=.ok u2 r2) (h3:rowR zbc zj r2=.ok l r3) (h4:zw zln r3=.bad r):zai ks=.bad r:=by simp[zai,h,h2,h3,h4]
theorem zsk (h:zx zj ks=some r1) (h2:zw ziu r1=.ok u2 r2) (h3:rowR zbc zj r2=.ok l r3) (h4:zw zln r3=.ok u4 r4):zai ks=.ok (some l) r4:=by simp[zai,h,h2,h3,h4]
theorem zzw (h:zbc ks=.bad r):rowR zbc zj ks=.bad r:=by simp[rowR,h]
theorem zxg {x:ByteArray×Int}(h:zbc ks=.ok x r1) (h2:zx zj r1=none):rowR zbc zj ks=.ok [x] r1:=by
 unfold rowR
 rw[h,Rd.bind_ok,zdj (zed _),h2]
 rfl
theorem zxh {x:ByteArray×Int}(h:zbc ks=.ok x r1) (h2:zx zj r1=some r2):rowR zbc zj ks=(rowR zbc zj r2).map (x::·):=by
 conv=>lhs;unfold rowR
 rw[h,Rd.bind_ok,zdj (zed _),h2]
 rfl
end
section
variable {rd:Nat→Nat→Nat→Out (List Ent×Nat)}{files:List (ByteArray×ByteArray)}{opn:Nat→Bool}{l ks r:List Tok}{file qat:Int}{n cnt i:Nat}{fn:ByteArray}{ns:Option (List (ByteArray×Int))}
theorem zcs (h:zau ks=.bad r):incR rd files opn l file n cnt ks=.flt (ze0 l file r):=by unfold incR;rw[h];rfl
theorem zxi (h:zau ks=.ok (fn,qat,ns) r) (hl:200<cnt+1):incR rd files opn l file n cnt ks=.flt ⟨file,qat,3⟩:=by unfold incR;rw[h,Rd.out_ok,if_pos hl]
theorem zqp (h:zau ks=.ok (fn,qat,ns) r) (hl:¬ 200<cnt+1) (hf:zn5 files fn=none):incR rd files opn l file n cnt ks=.flt ⟨file,qat,244⟩:=by unfold incR;rw[h,Rd.out_ok,if_neg hl];simp only[hf]
theorem zu2 (h:zau ks=.ok (fn,qat,ns) r) (hl:¬ 200<cnt+1) (hf:zn5 files fn=some i) (ho:opn i=true):incR rd files opn l file n cnt ks=.flt ⟨file,qat,245⟩:=by
 unfold incR;rw[h,Rd.out_ok,if_neg hl];simp only[hf];rw[if_pos ho]
theorem zqq (h:zau ks=.ok (fn,qat,ns) r) (hl:¬ 200<cnt+1) (hf:zn5 files fn=some i) (ho:opn i=false):incR rd files opn l file n cnt ks=(rd i n (cnt+1)).bind fun x=>(zhi file ns x.1).bind fun l'=>.ok ((l',x.2),r):=by
 unfold incR;rw[h,Rd.out_ok,if_neg hl];simp only[hf];rw[if_neg (by rw[ho];decide)]
end
theorem zsl (files:List (ByteArray×ByteArray)) (nm:ByteArray):(zn5 files nm=none∧zdm (fun x=>decide (x.1=nm)) files=-1)∨∃i,zn5 files nm=some i∧i<files.length∧zdm (fun x=>decide (x.1=nm)) files=i:=by
 unfold zn5 zdm
 cases h:files.findIdx? fun x=>decide (x.1=nm) with
 |none=>exact .inl ⟨rfl,rfl⟩
 |some i =>
  rw[List.findIdx?_eq_some_iff_getElem]at h
  exact .inr ⟨i,rfl,h.1,rfl⟩
theorem zou:Keyed Tryz.prog 3:=Maps.int_keyed Tryz.underlying3
def OMap (w:World) (mb n:Nat) (opn:Nat→Bool):Prop :=
 ∃D:DataW Unit,IsMap D∧w.ownsMap Tryz.prog 3 (plainElem Tryz.prog 4) mb n D∧∀k:Nat,k≤1073741824→D.atKey (.int .i64 k) (.lit (.bool false))=.lit (.bool (opn k))
theorem zxj {k:Nat}(hk:k≤1073741824):keyOf Tryz.prog 3 (.int .i64 k)=some (.int .i64 k):=Maps.keyOf_int_mk Tryz.underlying3 (WalkArith.wf_i64 ⟨by omega,by omega⟩)
theorem zxk {w:World}{mb n:Nat}{opn:Nat→Bool}(h:OMap w mb n opn){k:Nat}(hk:k≤1073741824) :
  (Instr.lookup 104 (.map (some mb)) (.int .i64 k) false).run Tryz.prog w=.ok (.bool (opn k)) w:=by
 obtain⟨D,hD,hown,hat⟩:=h
 obtain⟨v,ps,hrun,hv⟩:=hown.lookup zou Tryz.underlying104 (z:=.bool false) (by kernel_rfl) (plainElem_bool Tryz.underlying4 false) (zxj hk)
 obtain⟨b,rfl,hz⟩:=zd8 hv
 rw[hat k hk]at hz
 injection hz with h1 h2
 injection h1 with h1
 injection h1 with h1
 rw[hrun,←h1]
theorem OMap.lt {w:World}{mb n:Nat}{opn:Nat→Bool}(h:OMap w mb n opn):mb<w.heap.size:=by
 obtain⟨D,hD,hown,hat⟩:=h
 exact hown.lt
theorem OMap.keep {w w':World}{mb n:Nat}{opn:Nat→Bool}(h:OMap w mb n opn) (hx:w'.heap[mb]?=w.heap[mb]?):OMap w' mb n opn:=by
 obtain⟨D,hD,hown,hat⟩:=h
 obtain⟨es,clock,hb,F,hs,hDD⟩:=hown
 exact⟨D,hD,⟨es,clock,hx.trans hb,F,hs,hDD⟩,hat⟩
theorem OMap.chg {S:List Nat}{w w':World}{mb n:Nat}{opn:Nat→Bool}(h:OMap w mb n opn) (hx:Chg S w w') (hS:mb∉S):OMap w' mb n opn:=h.keep (hx.block mb h.lt hS)
theorem ztn {w':World}{mb n:Nat}{opn:Nat→Bool}{D:DataW Unit}(hD:IsMap D) (hat:∀k:Nat,k≤1073741824→D.atKey (.int .i64 k) (.lit (.bool false))=.lit (.bool (opn k))){i:Nat}{b:Bool}
  (hown:w'.ownsMap Tryz.prog 3 (plainElem Tryz.prog 4) mb (n+1) (D.put (.int .i64 i) (.lit (.bool b)))):OMap w' mb (n+1) (fun k=>if k=i then b else opn k):=by
 refine⟨_,hD.put _ _,hown,fun k hk=>?_⟩
 by_cases he:k=i
 ·subst he
  rw[atKey_put_same hD (by exact trivial)];simp
 ·rw[atKey_put_other (fun h=>he (by injection h with _ h;omega)),hat k hk];simp[he]
theorem zzx (w:World):OMap (w.alloc (.map #[] 0)) w.heap.size 0 (fun _=>false):=⟨.map [],⟨[],rfl⟩,World.ownsMap_made _ _ _ _,fun _ _=>rfl⟩
def LdSt (xb mb:Nat) (w:World) (files:List (ByteArray×ByteArray)) (cnt dep:Nat) (opn:Nat→Bool):Prop :=
 ∃fa fc n,Own w xb [.slice fa files.length fc,.map (some mb),.int .i64 cnt]∧files.length≤fc∧IsFiles (fun b=>b<mb) w fa files∧OMap w mb n opn∧n+dep≤2 * cnt∧cnt≤200∧mb<xb∧0<mb∧∃m,w.cell? ⟨0,0,none⟩=some (.int .i64 m)
theorem LdSt.chg {S:List Nat}{xb mb:Nat}{w w':World}{files:List (ByteArray×ByteArray)}{cnt dep:Nat}{opn:Nat→Bool}(h:LdSt xb mb w files cnt dep opn) (hx:Chg S w w') (hS:∀b∈S,xb<b):LdSt xb mb w' files cnt dep opn:=by
 obtain⟨fa,fc,n,h1,h2,h3,h4,h5,h6,h7,h8,m,h9⟩:=h
 exact⟨fa,fc,n,h1.chg hx (fun hm=>by have:=hS xb hm;omega),h2,Dat.Rows.chg h3 hx (fun b hb hm=>by have:=hS b hm;omega),h4.chg hx (fun hm=>by have:=hS mb hm;omega),h5,h6,h7,h8,m,hx.cell h9 (fun hm=>by have:=hS _ hm;simp only at this;omega)⟩
theorem LdSt.ext {xb mb:Nat}{w w':World}{files:List (ByteArray×ByteArray)}{cnt dep:Nat}{opn:Nat→Bool}(h:LdSt xb mb w files cnt dep opn) (hx:Ext w w'):LdSt xb mb w' files cnt dep opn:=h.chg (Chg.of_ext (S:=[]) hx) (by simp)
theorem LdSt.lt {xb mb:Nat}{w:World}{files:List (ByteArray×ByteArray)}{cnt dep:Nat}{opn:Nat→Bool}(h:LdSt xb mb w files cnt dep opn):xb<w.heap.size:=by obtain⟨fa,fc,n,h1,-⟩:=h;exact h1.lt
def zfr (xb mb:Nat) (files:List (ByteArray×ByteArray)) (dep:Nat) (opn:Nat→Bool) (w:World) (res:Out (List Ent×Nat)) (e:Ending) (w':World):Prop :=
 Chg [xb,mb] w w'∧match res with
 |.ok x=>∃v,e=.returned v∧EntRow w.heap.size w' v x.1∧LdSt xb mb w' files x.2 dep opn
 |.flt t=>zk6 t e
def Kp0 (rb:Nat) (w w':World):Prop:=∀u,w.cell? ⟨rb,0,none⟩=some u→w'.cell? ⟨rb,0,none⟩=some u
theorem Kp0.refl (rb:Nat) (w:World):Kp0 rb w w:=fun _ h=>h
theorem Kp0.trans {rb:Nat}{a b c:World}(h:Kp0 rb a b) (k:Kp0 rb b c):Kp0 rb a c:=fun u hu=>k u (h u hu)
theorem Kp0.kept {rb:Nat}{a b:World}(h:Kept rb a b):Kp0 rb a b:=fun u hu=>h.cell 0 (by decide) u hu
theorem Kp0.chg {S:List Nat}{rb:Nat}{a b:World}(h:Chg S a b) (hS:rb∉S):Kp0 rb a b:=fun _u hu=>h.cell hu hS
theorem Kp0.ext {rb:Nat}{a b:World}(h:Ext a b):Kp0 rb a b:=fun _u hu=>h.cell hu
def TkAb (xb rb:Nat) (l:List Tok) (w:World):Prop:=∃a c,w.cell? ⟨rb,0,none⟩=some (.slice a l.length c)∧Dat.Rows (fun b=>xb<b∧b<rb) w a (l.map Tok.dat)
theorem TkAb.chg {S:List Nat}{xb rb:Nat}{l:List Tok}{w w':World}(h:TkAb xb rb l w) (hx:Chg S w w') (h0:Kp0 rb w w') (hS:∀b∈S,b≤xb∨rb≤b):TkAb xb rb l w':=by
 obtain⟨a,c,h1,h2⟩:=h
 exact⟨a,c,h0 _ h1,Dat.Rows.chg h2 hx fun b hb hm=>by have:=hS b hm;omega⟩
theorem PRd.low {S:List Nat}{xb rb:Nat}{l ks:List Tok}{w w':World}{file:Int}{v:Value}(h:PRd rb l w ks file v) (ht:TkAb xb rb l w) (hx:Chg S w w') (hS:∀b∈S,b≤xb) (hxr:xb<rb):PRd rb l w' ks file v:=by
 obtain⟨⟨k1,a,c,k2,k3,k4⟩,⟨q2,f2⟩,q3,f3⟩:=h
 obtain⟨a',c',t1,t2⟩:=ht
 have hn:rb∉S:=fun hm=>by have:=hS rb hm;omega
 have he:=(k2 0 _ rfl).1
 rw[t1]at he
 injection he with he
 injection he with e1 _ _
 subst e1
 exact⟨⟨k1,a',c,k2.chg hx hn,k3,Dat.Rows.mono (Dat.Rows.chg t2 hx fun b hb hm=>by have:=hS b hm;omega) fun b hb _=>hb.2⟩,⟨hx.cell q2 hn,hx.frozen q2 hn f2⟩,hx.cell q3 hn,hx.frozen q3 hn f3⟩
def IncPost (rb B xb mb:Nat) (l:List Tok) (file:Int) (v:Value) (out:List Ent) (files:List (ByteArray×ByteArray)) (dep:Nat) (opn:Nat→Bool) (w:World) (res:Out ((List Ent×Nat)×List Tok)) (e:Ending) (w':World):Prop :=
 Chg (rb::xb::mb::v.ownBlock.toList) w w'∧match res with
 |.ok x=>e=.returned (.tuple #[])∧Kp0 rb w w'∧∃v',PRd rb l w' x.2 file v'∧EntRow B w' v' (out++x.1.1)∧(v'.ownBlock=v.ownBlock∨∀g,v'.ownBlock=some g→w.heap.size≤g)∧LdSt xb mb w' files x.1.2 dep opn
 |.flt t=>LeftBy rb l file t e w'
theorem IncPost.wrong {rb B xb mb:Nat}{l ks r:List Tok}{file:Int}{v v1:Value}{out:List Ent}{files:List (ByteArray×ByteArray)}{dep:Nat}{opn:Nat→Bool}{w w':World}{res:Out ((List Ent×Nat)×List Tok)}{S:List Nat}(hr:res=.flt (ze0 l file r)) (hc:Chg S w w') (hS:∀b∈S,b=rb∨b=xb∨b=mb∨w.heap.size≤b) (h:PRd rb l w' ks file v1):IncPost rb B xb mb l file v out files dep opn w res (.panicked [zch (zck l r)]) w':=by
 subst hr
 refine⟨⟨hc.os,hc.tape,hc.output,hc.size,fun b hb hn=>hc.block b hb fun hm=>?_⟩,LeftBy.wrong rfl h⟩
 rcases hS b hm with h1|h1|h1|h1
 ·exact hn (by simp[h1])
 ·exact hn (by simp[h1])
 ·exact hn (by simp[h1])
 ·omega
theorem IncPost.fault {rb B xb mb:Nat}{l:List Tok}{file:Int}{v:Value}{out:List Ent}{files:List (ByteArray×ByteArray)}{dep:Nat}{opn:Nat→Bool}{w w':World}{res:Out ((List Ent×Nat)×List Tok)}{S:List Nat}{t t':Flt}{e:Ending}(hr:res=.flt t') (hc:Chg S w w') (hS:∀b∈S,b=rb∨b=xb∨b=mb∨w.heap.size≤b) (h:zk6 t e) (ht:t=t'):IncPost rb B xb mb l file v out files dep opn w res e w':=by
 subst hr;subst ht
 refine⟨⟨hc.os,hc.tape,hc.output,hc.size,fun b hb hn=>hc.block b hb fun hm=>?_⟩,.inr h⟩
 rcases hS b hm with h1|h1|h1|h1
 ·exact hn (by simp[h1])
 ·exact hn (by simp[h1])
 ·exact hn (by simp[h1])
 ·omega
def NmSt (base:Nat) (l:List Tok) (w:World) (nb:Nat) (va:Value) (NS:List (ByteArray×Int)):Prop :=
 ∃(vn:Value) (ix:List Nat),Own w nb [vn]∧StrRow base w vn (NS.map Prod.fst)∧GRow (z6 1) 3 base w va (ix.map fun k:Nat=>[Dat.int (k:Int)])∧ix.length=NS.length∧∀j (h:j<ix.length) (h':j<NS.length),ix[j]<l.length∧(zgb l ix[j]).at'=NS[j].2
theorem EntRow.ents {B:Nat}{w:World}{v:Value}{l:List Ent}(h:EntRow B w v l):∃a c,v=.slice a l.length c∧l.length≤c∧IsEnts (fun b=>B≤b) w a l:=by
 obtain⟨a,c,h1,h2,h3⟩:=GRow.dat (by decide) h
 rw[List.length_map]at h1 h2
 exact⟨a,c,h1,h2,h3⟩
theorem GRow.cellAt {m e B g n cap:Nat}{w:World}{l:List (List Dat)}(h:GRow (z6 m) e B w (.slice (some ⟨g,0,none⟩) n cap) l):(∀j,j<n * m→(w.cell? ⟨g,j,none⟩).isSome=true)∧∀j,w.frozen? ⟨g,j,none⟩=false:=by
 obtain⟨a0,c0,hv0,-⟩:=h.form
 obtain⟨cs,h1,h2,h3⟩:=h
 injection hv0 with _ hn _
 subst hn
 refine⟨fun j hj=>?_,fun j=>h2.frozenAt j⟩
 rw[h2.cellAt j hj,List.getElem?_eq_getElem (by rw[h2.1];exact hj)]
 rfl
structure DelSt (B g cap n:Nat) (w wr:World) (p:Ent→Bool) (l:List Ent) (i j:Nat) (K M:List Ent):Prop where
 row:EntRow B wr (.slice (some ⟨g,0,none⟩) n cap) (K++(M++l.drop j))
 kept:K=(l.take j).filter p
 len:K.length=i
 mid:i+M.length=j
 lt:i<j
 le:j≤n
 chg:Chg [g] w wr
section
variable {B g cap n:Nat}{w wr:World}{p:Ent→Bool}{l:List Ent}{i j:Nat}{K M:List Ent}
theorem DelSt.at (h:DelSt B g cap n w wr p l i j K M) (hn:n=l.length) (hj:j<n):(K++(M++l.drop j))[j]'(by have:=h.len;have:=h.mid;simp;omega)=l[j]:=by
 have h1:=h.len
 have h2:=h.mid
 rw[List.getElem_append_right (by omega),List.getElem_append_right (by omega),List.getElem_drop]
 congr 1
 omega
theorem DelSt.skip (h:DelSt B g cap n w wr p l i j K M) (hn:n=l.length) (hj:j<n) (hp:p l[j]=false){w2:World}(hx:Chg [g] wr w2) (hrow:EntRow B w2 (.slice (some ⟨g,0,none⟩) n cap) (K++(M++l.drop j))):DelSt B g cap n w w2 p l i (j+1) K (M++[l[j]]):=by
 have h2:=h.mid
 have h3:=h.lt
 refine⟨?_,?_,h.len,by simp;omega,by omega,hj,h.chg.trans hx⟩
 ·rw[List.append_assoc,List.singleton_append,←List.drop_eq_getElem_cons (by omega)]
  exact hrow
 ·rw[List.take_succ_eq_append_getElem (by omega),List.filter_append,←h.kept]
  simp[hp]
theorem DelSt.keep (h:DelSt B g cap n w wr p l i j K M) (hn:n=l.length) (hj:j<n) (hp:p l[j]=true){w2:World}(hx:Chg [g] wr w2) (hrow:GRow (z6 7) 53 B w2 (.slice (some ⟨g,0,none⟩) n cap) (((K++(M++l.drop j)).map Ent.dat).set i l[j].dat)):∃K' M',DelSt B g cap n w w2 p l (i+1) (j+1) K' M':=by
 have h1:=h.len
 have h2:=h.mid
 have h3:=h.lt
 cases M with
 |nil=>simp at h2;omega
 |cons m0 M =>
  refine⟨K++[l[j]],M++[l[j]],?_,?_,by simp[h1],by simp at h2 ⊢;omega,by omega,hj,h.chg.trans hx⟩
  ·unfold EntRow
   rw[←List.map_set]at hrow
   rw[List.set_append_right _ _ (by omega),h1,Nat.sub_self,List.cons_append,List.set_cons_zero]at hrow
   rw[List.append_assoc,List.append_assoc,List.singleton_append,List.singleton_append,←List.drop_eq_getElem_cons (by omega)]
   exact hrow
  ·rw[List.take_succ_eq_append_getElem (by omega),List.filter_append,←h.kept]
   simp[hp]
theorem DelSt.start (hrow:EntRow B w (.slice (some ⟨g,0,none⟩) n cap) l) (hn:n=l.length){k:Nat}(hk:k<l.length) (h:(l.take k).any (fun x=>!(p x))=false) (hp:p l[k]=false):DelSt B g cap n w w p l k (k+1) (l.take k) [l[k]]:=by
 refine⟨?_,?_,by rw[List.length_take];omega,by simp,by omega,by omega,Chg.refl _ _⟩
 ·rw[List.singleton_append,←List.drop_eq_getElem_cons hk,List.take_append_drop]
  exact hrow
 ·rw[List.take_succ_eq_append_getElem hk,List.filter_append]
  have:(l.take k).filter p=l.take k:=by
   rw[List.filter_eq_self]
   intro x hx
   have:=List.any_eq_false.1 h x hx
   simpa using this
  rw[this]
  simp[hp]
end
theorem EntRow.at {B g n cap:Nat}{w:World}{l:List Ent}(h:EntRow B w (.slice (some ⟨g,0,none⟩) n cap) l){j:Nat}(hj:j<l.length):∃x0 x1 x2 x3,(w.cell? ⟨g,j * 7,none⟩=some (.bool l[j].cnf)∧w.cell? ⟨g,j * 7+1,none⟩=some (.string l[j].name)∧w.cell? ⟨g,j * 7+2,none⟩=some (.string l[j].role)) ∧
  (w.cell? ⟨g,j * 7+3,none⟩=some x0∧w.cell? ⟨g,j * 7+4,none⟩=some x1∧w.cell? ⟨g,j * 7+5,none⟩=some x2∧w.cell? ⟨g,j * 7+6,none⟩=some x3)∧IsEnt (fun b=>B≤b∧b≠g) w x0 x1 x2 x3 l[j]:=by
 obtain⟨g',cap',cs,hv,-,-,-,h1,h2,h3⟩:=GRow.at h (j:=j) (by rw[List.length_map];exact hj)
 injection hv with e1 _ _
 injection e1 with e1;injection e1 with e1 _ _
 subst e1
 rw[List.getElem_map]at h1
 obtain⟨x0,x1,x2,x3,rfl,h4⟩:=IsEnt.of_fs h1.2
 exact⟨x0,x1,x2,x3,⟨h3 0 _ rfl,h3 1 _ rfl,h3 2 _ rfl⟩,⟨h3 3 _ rfl,h3 4 _ rfl,h3 5 _ rfl,h3 6 _ rfl⟩,h4.1,h4.2.1,Dat.Fs.mono h4.2.2 fun b hb _=>⟨hb.1,fun e=>hb.2 (by rw[e];rfl)⟩⟩
theorem zqr {α:Type}(p:α→Bool) (l:List α):(zdm p l=-1∧l.any p=false)∨∃k,∃hk:k<l.length,zdm p l=k∧(l.take k).any p=false∧p l[k]=true:=by
 cases h:l.findIdx? p with
 |none =>
  rw[List.findIdx?_eq_none_iff]at h
  refine .inl ⟨?_,?_⟩
  ·apply zd0;rw[List.any_eq_false];intro x hx;simpa using h x hx
  ·rw[List.any_eq_false];intro x hx;simpa using h x hx
 |some k =>
  rw[List.findIdx?_eq_some_iff_getElem]at h
  obtain⟨hk,hp,ha⟩:=h
  have hany:(l.take k).any p=false:=by
   rw[List.any_eq_false]
   intro x hx
   obtain⟨i,hi,rfl⟩:=List.getElem_of_mem hx
   rw[List.length_take]at hi
   rw[List.getElem_take]
   simpa using ha i (by omega)
  exact .inr ⟨k,hk,zh9 hk hany hp,hany,hp⟩
theorem zu3 {l:List Ent}(hl:l.length≤1048576){B:Nat}{w:World}{v:Value}(hrow:EntRow B w v l){Q:Nat→Prop}{nb nc:Nat}{na:Option Addr}{ns:List ByteArray}(hf:w.cell? ⟨nb,0,none⟩=some (.slice na ns.length nc)) (hns:IsStrs Q w na ns) (hnl:ns.length≤1073741824) (hnb:nb<B) (hQ:∀b,Q b→v.ownBlock≠some b) :
  Calls Tryz.prog 152 #[v,.func (.func 153) #[] #[.pointer (some ⟨nb,0,none⟩)]] w fun e w'=>(∃v',e=.returned v'∧EntRow B w' v' (l.filter fun x=>inB ns x.name)∧v'.ownBlock=v.ownBlock)∧Chg v.ownBlock.toList w w':=by
 obtain⟨a,c,rfl,hc,hents⟩:=hrow.ents
 have HI:=Lib.hid (zsj (by omega) (c:=c) hents hf hns hnl)
 have HROW:=Lib.hid hrow
 rcases zqr (fun x:Ent=>!(inB ns x.name)) l with ⟨hk,hany⟩|⟨k,hkl,hk,hany,hpk⟩
 ·rw[hk]at HI
  have hfil:l.filter (fun x=>inB ns x.name)=l:=by
   rw[List.filter_eq_self]
   intro x hx
   have:=List.any_eq_false.1 hany x hx
   simpa using this
  have HFIL:=Lib.hid hfil
  clear hk hany hrow hfil hents
  go_enter Tryz.func152,Tryz.ntmps152
  go_wp2_with (go_at_call 181;refine(HI.out).mono ?_;rintro e w1 ⟨rfl,hx1⟩)
  go_ret
  exact⟨⟨_,rfl,by rw[HFIL.out];exact GRow.ext HROW.out hx1,rfl⟩,Chg.of_ext hx1⟩
 ·rw[hk]at HI
  obtain⟨g,cap,hv,hg1,hg2⟩:∃g cap,(Value.slice a l.length c)=.slice (some ⟨g,0,none⟩) l.length cap∧B≤g∧g<w.heap.size:=by
   obtain⟨g,cap,cs,h1,h2,h3,-⟩:=GRow.at hrow (j:=k) (by rw[List.length_map];exact hkl)
   rw[List.length_map]at h1
   exact⟨g,cap,h1,h2,h3⟩
  injection hv with hv1 _ hv3
  subst hv1;subst hv3
  have hQg:∀b,Q b→b≠g:=fun b hb e=>hQ b hb (by rw[e];rfl)
  have hng:nb≠g:=by omega
  have HST:=Lib.hid (fun w1 (hx1:Ext w w1)=>(DelSt.start (p:=fun x=>inB ns x.name) (GRow.ext HROW.out hx1) rfl hkl hany (by simpa using hpk)))
  have hkc:((k:Int)==-1)=false:=by rw[beq_eq_false_iff_ne];omega
  have HW:=Lib.hid hf
  clear hk hany hpk hrow hents hf
  go_enter Tryz.func152,Tryz.ntmps152
  go_wp2_with (go_at_call 181;refine(HI.out).mono ?_;rintro e w1 ⟨rfl,hx1⟩)
  go_loopw [5,6] (fun x y wr=>∃(i j:Nat) (K M:List Ent),x=.int .i64 i∧y=.int .i64 j∧DelSt B g c l.length w1 wr (fun x=>inB ns x.name) l i j K M) (fun _ y _=>l.length-(intOf y).toNat)
  case atStart=>exact⟨k,k+1,_,_,rfl,by go_num,HST.out w1 hx1⟩
  case round =>
   obtain⟨i,j,K,M,rfl,rfl,hst⟩:=hrel
   have HS:=Lib.hid hst
   obtain⟨hlen,hmid,hlt,hle⟩:K.length=i∧i+M.length=j∧i<j∧j≤l.length:=⟨hst.len,hst.mid,hst.lt,hst.le⟩
   have hcx:Chg [g] w wr:=(Chg.of_ext hx1).trans hst.chg
   by_cases hjl:j<l.length
   ·have hj1:(j:Int)<l.length:=by omega
    have HLEN:=Lib.hid (show(K++(M++l.drop j)).length=l.length by simp;omega)
    obtain⟨x0,x1,x2,x3,⟨g1,g2,g3⟩,⟨g4,g5,g6,g7⟩,hi⟩:=hst.row.at (j:=j) (by rw[HLEN.out];exact hjl)
    have hat:=hst.at rfl hjl
    rw[hat]at g1 g2 g3 hi
    obtain⟨d1,e1,d2,e2,d3,e3,rfl,rfl,rfl,rfl,-⟩:=hi.2.2.form
    have HE:=Lib.hid (fun o=>ztm (w:=wr.alloc o) (hi.ext (zb wr o)) ((zb wr o).cell (hcx.cell HW.out (by simpa using hng))) (Dat.Rows.ext (Dat.Rows.chg hns hcx (fun b hb=>by simpa using hQg b hb)) (zb wr o)) hnl)
    unfold entV at HE
    have HI2:=Lib.hid hi
    clear hi hat hst
    have hj0:0<l.length:=by omega
    cases hp:inB ns l[j].name with
    |false =>
     rw[hp]at HE
     have HP:=Lib.hid hp
     clear hp
     go_wp2_with (go_at_call 153;refine(HE.out _).mono ?_;rintro e w2 ⟨rfl,hx2⟩;have hb2:=(zcr wr #[.bool l[j].cnf,.string l[j].name,.string l[j].role,.int .i64 l[j].form.op,.slice d1 l[j].form.vars.length e1,.slice d2 l[j].form.terms.length e2,.slice d3 l[j].form.args.length e3] 53).ext hx2;simp only[]at hb2;(obtain⟨⟨n0,n1,n2⟩,⟨n3,n4,n5,n6⟩,nl⟩:=zbd hb2))
     go_roundw
     case rel=>exact⟨i,j+1,_,_,rfl,by go_num,HS.out.skip rfl hjl HP.out (Chg.of_ext ((zb _ _).trans hx2)) (GRow.ext HS.out.row ((zb _ _).trans hx2))⟩
     case measure=>simp[intOf];omega
    |true =>
     rw[hp]at HE
     have HP:=Lib.hid hp
     have hi1:(i:Int)<l.length:=by omega
     clear hp
     go_wp2_with (go_at_call 153;refine(HE.out _).mono ?_;rintro e w2 ⟨rfl,hx2⟩;have hb2:=(zcr wr #[.bool l[j].cnf,.string l[j].name,.string l[j].role,.int .i64 l[j].form.op,.slice d1 l[j].form.vars.length e1,.slice d2 l[j].form.terms.length e2,.slice d3 l[j].form.args.length e3] 53).ext hx2;simp only[]at hb2;(obtain⟨⟨n0,n1,n2⟩,⟨n3,n4,n5,n6⟩,nl⟩:=zbd hb2);have hrow2:=GRow.ext HS.out.row ((zb _ _).trans hx2);(obtain⟨hs1,hs2⟩:=hrow2.cellAt);(obtain⟨v0,m0⟩:=Option.isSome_iff_exists.1 (hs1 (i * 7) (by omega)));(obtain⟨v1,m1⟩:=Option.isSome_iff_exists.1 (hs1 (i * 7+1) (by omega)));(obtain⟨v2,m2⟩:=Option.isSome_iff_exists.1 (hs1 (i * 7+2) (by omega)));(obtain⟨v3,m3⟩:=Option.isSome_iff_exists.1 (hs1 (i * 7+3) (by omega)));(obtain⟨v4,m4⟩:=Option.isSome_iff_exists.1 (hs1 (i * 7+4) (by omega)));(obtain⟨v5,m5⟩:=Option.isSome_iff_exists.1 (hs1 (i * 7+5) (by omega)));(obtain⟨v6,m6⟩:=Option.isSome_iff_exists.1 (hs1 (i * 7+6) (by omega)));have f0:=hs2 (i * 7);have f1:=hs2 (i * 7+1);have f2:=hs2 (i * 7+2);have f3:=hs2 (i * 7+3);have f4:=hs2 (i * 7+4);have f5:=hs2 (i * 7+5);have f6:=hs2 (i * 7+6);have ml:=zf m0;have HR2:=Lib.hid hrow2;clear hs1 hs2 hrow2)
     go_roundw
     case rel =>
      have hil:i<((K++(M++l.drop j)).map Ent.dat).length:=by rw[List.length_map,HLEN.out];omega
      obtain⟨q1,q2⟩:=GRow.put HR2.out hil (x:=l[j].dat) (c:=[.bool l[j].cnf,.string l[j].name,.string l[j].role,.int .i64 l[j].form.op,.slice d1 l[j].form.vars.length e1,.slice d2 l[j].form.terms.length e2,.slice d3 l[j].form.args.length e3]) ⟨rfl,IsEnt.fs (HI2.out.ext ((zb _ _).trans hx2))⟩
      obtain⟨K',M',hd⟩:=HS.out.keep rfl hjl HP.out ((Chg.of_ext ((zb _ _).trans hx2)).trans q2) q1
      exact⟨i+1,j+1,K',M',by go_num,by go_num,hd⟩
     case measure=>simp[intOf];omega
   ·have hj1:¬(j:Int)<l.length:=by omega
    have hje:j=l.length:=by omega
    have HF:=Lib.hid (show K=l.filter (fun x=>inB ns x.name) by rw[hst.kept,hje,List.take_length])
    obtain⟨hs1,hs2⟩:=hst.row.cellAt
    obtain⟨us,hcl⟩:=zk7 (w:=wr) (t:=45) (m:=7) (b:=g) (o:=i * 7) (n:=l.length-i) (c:=c-i) Tryz.underlying45 Tryz.zeroValue53 rfl (by decide) (by decide) (fun t ht=>hs1 _ (by omega)) (fun t _=>hs2 _)
    clear hs1 hs2 hst hje
    have hi1:(i:Int)≤l.length:=by omega
    go_wp2_with fail
    go_ret
    have hrow2:GRow (z6 7) 53 B wr (.slice (some ⟨g,0,none⟩) i c) (K.map Ent.dat):=by
     have h1:=GRow.take HS.out.row (k:=i) (by rw[List.length_map];simp;omega)
     rw[←List.map_take,List.take_append_of_le_length (by omega),List.take_of_length_le (by omega)]at h1
     exact h1
    obtain⟨q1,q2⟩:=GRow.beyond (us:=us) (o:=i * 7) hrow2 (by rw[List.length_map,hlen];exact Nat.le_refl _)
    exact⟨⟨_,rfl,by rw[←HF.out];exact q1,rfl⟩,hcx.trans q2⟩
end Go.Proofs.YtnclgkdpafhogaaGreat
