/- (*loader).include: an include behind its first token. Condition: at most 8001 tokens, at most 2^20 files.
What a reading of a text does where it is left: read$1, Read$1. Condition: a row of at most 2^30 tokens.
Plain: how many entries a text has; which files are not open. No condition.
The reference's Text of entries. Condition: at most 1048576 entries, each with a formula of at most 1048576 parts.
formula.Text. Conditions: a formula of at most 4194304 parts. -/
import Derived.Test.YtnclgkdpafhogaaGreatQe32
import Derived.Defers
import Derived.Recover
import Derived.Test.YtnclgkdpafhogaaGreatQe22
import Derived.Test.YtnclgkdpafhogaaGreatQe31
import Derived.Test.YtnclgkdpafhogaaGreatQe13
import Derived.Test.YtnclgkdpafhogaaGreatQe30
set_option maxHeartbeats 16000000
set_option maxRecDepth 100000
namespace Go.Proofs.YtnclgkdpafhogaaGreat
open Go.ChangeShapes Go.WideShapes Go.ChangeAt Go.RowKit Go.Maps
theorem NmSt.nil {base nb:Nat}{l:List Tok}{w:World}(h:Own w nb [.slice none 0 0]):NmSt base l w nb (.slice none 0 0) [] :=
 ⟨_,[],h,StrRow.nil,GRow.nil,rfl,fun j h=>by simp at h⟩
theorem NmSt.chg {S:List Nat}{base nb:Nat}{l:List Tok}{w w':World}{va:Value}{NS:List (ByteArray×Int)}(h:NmSt base l w nb va NS) (hx:Chg S w w') (hS:∀b∈S,b<base∧b≠nb):NmSt base l w' nb va NS:=by
 obtain⟨vn,ix,h1,h2,h3,h4,h5⟩:=h
 exact⟨vn,ix,h1.chg hx (fun hm=>(hS nb hm).2 rfl),GRow.chg h2 hx (fun b hb=>(hS b hb).1),GRow.chg h3 hx (fun b hb=>(hS b hb).1),h4,h5⟩
theorem NmSt.ext {base nb:Nat}{l:List Tok}{w w':World}{va:Value}{NS:List (ByteArray×Int)}(h:NmSt base l w nb va NS) (hx:Ext w w'):NmSt base l w' nb va NS:=h.chg (Chg.of_ext (S:=[]) hx) (by simp)
theorem StrRow.but {S:List Nat}{B:Nat}{w w':World}{v:Value}{l:List ByteArray}(h:StrRow B w v l) (hx:Chg S w w') (hS:∀g,v.ownBlock=some g→g∉S):StrRow B w' v l:=by
 obtain⟨ho,hs⟩:=h.own
 exact StrRow.of (zdr ho fun g hg hl=>hx.block g hl (hS g hg)) hs
def IxRow (B:Nat) (w:World) (v:Value) (ix:List Nat):Prop:=GRow (z6 1) 3 B w v (ix.map fun k:Nat=>[Dat.int (k:Int)])
theorem z16 {P Q:Nat→Prop}{w w':World}{k:Int}:∀ {vs:List Value},Dat.Fs P w vs [Dat.int k]→Dat.Fs Q w' vs [Dat.int k]
 |[],h=>h.elim
 |[_],h=>h
 |_::_::_,h=>h.2.elim
theorem IxRow.but {S:List Nat}{B:Nat}{w w':World}{v:Value}{ix:List Nat}(h:IxRow B w v ix) (hx:Chg S w w') (hS:∀g,v.ownBlock=some g→g∉S):IxRow B w' v ix:=by
 obtain⟨cs,h1,h2,h3⟩:=h
 refine⟨cs,h1,zdr h2 fun g hg hl=>hx.block g hl (hS g hg),fun j hj hj'=>?_⟩
 have:=h3 j hj hj'
 rw[List.getElem_map]at this ⊢
 exact⟨this.1,z16 this.2⟩
theorem znm {α β:Type}{E:Elt α}{F:Elt β}{e e' B B':Nat}{w:World}{v v':Value}{l:List α}{m:List β}(h:GRow E e B w v l) (k:GRow F e' B' w v' m) (he:e≠e'){g:Nat}(hg:v.ownBlock=some g):v'.ownBlock≠some g:=by
 intro hg'
 obtain⟨cs,-,⟨-,h2⟩,-⟩:=h
 obtain⟨ds,-,⟨-,k2⟩,-⟩:=k
 rcases h2 with ⟨rfl,-⟩|⟨g1,c1,cur1,rfl,-,hb1,-⟩
 ·cases hg
 ·rcases k2 with ⟨rfl,-⟩|⟨g2,c2,cur2,rfl,-,hb2,-⟩
  ·cases hg'
  ·injection hg with hg
   injection hg' with hg'
   simp only at hg hg'
   subst hg
   subst hg'
   rw[hb1]at hb2
   injection hb2 with hb2
   injection hb2 with _ hb2 _
   exact he hb2
theorem z17 {rb nb:Nat}{l r rr:List Tok}{file:Int}{v va vn vn':Value}{w3 w6 w7 w8:World}{pre:List (ByteArray×Int)}{ix:List Nat}{x:ByteArray}{o:Obj}(hrn:rb<nb) (hrb:rb<w3.heap.size) (hnb:nb<w3.heap.size) (hB:Own w6 nb [vn]) (hk7:Kept rb w6 w7) (hq:StrRow w3.heap.size w6 vn (pre.map Prod.fst)) (hix:IxRow w3.heap.size w6 va (ix++[l.length-r.length]))
  (hlen:ix.length=pre.length) (hat:∀j (h:j<ix.length) (h':j<pre.length),ix[j]<l.length∧(zgb l ix[j]).at'=pre[j].2) (hr:r <:+ l) (hr0:0<r.length) (hrow8:GRow (z6 1) 9 w3.heap.size w8 vn' (((pre.map Prod.fst).map fun s=>[Dat.str s])++[[Dat.str x]])) (hg:(w7.alloc o).grownBy w8 vn.ownBlock)
  (hc7:Cur rb l w7 rr) (hp:PRd rb l w6 r file v) (C6:Chg [rb,nb] w3 w6):NmSt w3.heap.size l (w8.setCell ⟨nb,0,none⟩ vn') nb va (pre++[(x,(zt r).at')])∧PRd rb l (w8.setCell ⟨nb,0,none⟩ vn') rr file v∧Chg [rb,nb] w3 (w8.setCell ⟨nb,0,none⟩ vn')∧Kp0 rb w6 (w8.setCell ⟨nb,0,none⟩ vn'):=by
 have hge:=fun g hg=>StrRow.own_ge hq (g:=g) hg
 have hrl:=hr.length_le
 have c8:Chg (rb::vn.ownBlock.toList) w6 w8:=((hk7.chg.mono (by simp)).trans (Chg.of_ext (S:=rb::vn.ownBlock.toList) (zb w7 o))).trans (Chg.of_grown hg (fun g h=>.inl (by simp[h])))
 have hset:Chg [nb] w8 (w8.setCell ⟨nb,0,none⟩ vn'):=(Chg.refl [nb] w8).setCell _ (.inl (by simp))
 have hn8:nb∉rb::vn.ownBlock.toList:=by
  simp only[List.mem_cons,not_or]
  exact⟨by omega,fun hm=>by have:=(hge nb (by simpa using hm)).1;omega⟩
 have hkp:Kp0 rb w6 (w8.setCell ⟨nb,0,none⟩ vn'):=((Kp0.kept hk7).trans (Kp0.ext (zb w7 o))).trans ((Kp0.chg (S:=vn.ownBlock.toList) (Chg.of_grown hg (fun g h=>.inl (by simp[h]))) (fun hm=>by have:=(hge rb (by simpa using hm)).1;omega)).trans (Kp0.chg hset (by simp;omega)))
 refine⟨⟨vn',ix++[l.length-r.length],?_,?_,?_,by simp[hlen],?_⟩,?_,?_,hkp⟩
 ·exact(hB.chg c8 hn8).set (i:=0) (by simp) vn'
 ·have:StrRow w3.heap.size w8 vn' ((pre++[(x,(zt r).at')]).map Prod.fst):=by unfold StrRow;rw[List.map_append,List.map_append];exact hrow8
  exact GRow.chg this hset (by simp;omega)
 ·refine GRow.chg (hix.but c8 fun g hg hm=>?_) hset (by simp;omega)
  rcases List.mem_cons.1 hm with h|h
  ·subst h;have:=(GRow.own_ge hix hg).1;omega
  ·exact znm hix hq (by decide) hg (by simpa using h)
 ·intro j h h'
  by_cases hj:j<ix.length
  ·rw[List.getElem_append_left hj,List.getElem_append_left (by omega)]
   exact hat j hj (by omega)
  ·have hje:j=ix.length:=by simp at h;omega
   subst hje
   rw[List.getElem_append_right (by omega),List.getElem_append_right (by omega)]
   simp only[hlen,Nat.sub_self,List.getElem_cons_zero]
   exact⟨by omega,by rw[zlw hr hr0]⟩
 ·have h7:=hp.kept hk7 hc7
  have h8:PRd rb l w8 rr file v:=((h7.ext (zb w7 o)).grown (GRow.chg hq hk7.chg (by simp;omega)) hrb hg)
  exact h8.chg hset (by simp;omega)
 ·refine(Chg.drop (Below.refl _ _) ((C6.mono (T:=rb::nb::vn.ownBlock.toList) (by simp)).trans (c8.mono (fun k hk=>by simp at hk ⊢;rcases hk with h|h;exact .inl h;exact .inr (.inr h)))) (T:=[rb,nb]) ?_).trans (hset.mono (by simp))
  intro i hi
  simp at hi ⊢
  rcases hi with h|h|h
  ·exact .inl (.inl h)
  ·exact .inl (.inr h)
  ·exact .inr (hge i h).1
theorem zto {rb B xb mb cnt2 dep:Nat}{l r:List Tok}{file:Int}{v v':Value}{out l':List Ent}{files:List (ByteArray×ByteArray)}{opn:Nat→Bool}{w w12 w13:World}{res:Out ((List Ent×Nat)×List Tok)}{S:List Nat}(hrB:rb<B) (hxr:xb<rb) (_hmx:mb<xb) (hres:res=.ok ((l',cnt2),r)) (P12:Kp0 rb w w12) (C12:Chg S w w12) (hS:∀b∈S,b=rb∨b=xb∨b=mb∨w.heap.size≤b)
  (hp:PRd rb l w12 r file v) (hrow:EntRow B w12 v out) (hrow13:PRow 7 53 B (fun b=>B≤b) w13 v' (out.map Ent.dat++l'.map Ent.dat)) (hfr:RFr w12 v w13 v') (hld:LdSt xb mb w12 files cnt2 dep opn):IncPost rb B xb mb l file v out files dep opn w res (.returned (.tuple #[])) (w13.setCell ⟨rb,3,none⟩ v'):=by
 subst hres
 have hset:Chg [rb] w13 (w13.setCell ⟨rb,3,none⟩ v'):=(Chg.refl [rb] w13).setCell _ (.inl (by simp))
 have hge:=fun g hg=>(GRow.own_ge hrow (g:=g) hg).1
 have hnr:rb∉v.ownBlock.toList:=fun hm=>by have:=hge rb (by simpa using hm);omega
 have hp13:PRd rb l w13 r file v:=hp.chg hfr.chg fun b hb=>by have:=hge b (by simpa using hb);omega
 have hl13:LdSt xb mb w13 files cnt2 dep opn:=hld.chg hfr.chg fun b hb=>by have:=hge b (by simpa using hb);omega
 have hD:Chg [rb,xb,mb] w w12:=Chg.drop (Below.refl _ _) C12 fun i hi=>by
  rcases hS i hi with h|h|h|h
  ·exact .inl (by simp[h])
  ·exact .inl (by simp[h])
  ·exact .inl (by simp[h])
  ·exact .inr h
 refine⟨(hD.mono (by simp)).trans ((hfr.chg.mono (fun k hk=>by simp at hk ⊢;exact .inr (.inr (.inr hk)))).trans (hset.mono (by simp))),rfl,(P12.trans (Kp0.chg hfr.chg hnr)).trans (fun u hu=>by rw[World.cell?_setCell_other _ _ _ _ (by simp)];exact hu),v',hp13.put v',?_,?_,hl13.chg hset (by simp;omega)⟩
 ·unfold EntRow
  rw[List.map_append]
  exact GRow.chg (hrow13.grow fun _ h=>h) hset (by simp;omega)
 ·rcases hfr.own with h|h
  ·exact .inl h
  ·exact .inr fun g hg=>Nat.le_trans hD.size (h g hg)
theorem zsm {file:Int}{L:List (ByteArray×Int)}{l:List Ent}{k:Nat}(hk:k<L.length) (h:(L.take k).all (fun p=>l.any fun x=>decide (x.name=p.1))=true) (hn:(l.any fun x=>decide (x.name=L[k].1))=false):zhi file (some L) l=.flt ⟨file,L[k].2,244⟩:=by
 have hf:L.find? (fun p=>!(l.any fun x=>decide (x.name=p.1)))=some L[k]:=by
  rw[List.find?_eq_some_iff_getElem]
  refine⟨by simp[hn],k,hk,rfl,fun j hj=>?_⟩
  have:=List.all_eq_true.1 h L[j] (by rw[List.mem_iff_getElem];exact⟨j,by rw[List.length_take];omega,by rw[List.getElem_take]⟩)
  simpa using this
 unfold zhi
 simp only[hf]
theorem zu4 {file:Int}{L:List (ByteArray×Int)}{l:List Ent}(h:L.all (fun p=>l.any fun x=>decide (x.name=p.1))=true):zhi file (some L) l=.ok (l.filter fun x=>inB (L.map Prod.fst) x.name):=by
 have hf:L.find? (fun p=>!(l.any fun x=>decide (x.name=p.1)))=none:=by
  rw[List.find?_eq_none]
  intro p hp
  have:=List.all_eq_true.1 h p hp
  simpa using this
 have he:(fun x:Ent=>L.any fun p=>decide (p.1=x.name))=fun x=>inB (L.map Prod.fst) x.name:=by
  funext x
  unfold inB
  rw[List.any_map]
  rfl
 unfold zhi
 simp only[hf,he]
theorem zly {α:Type}{one:List Tok→Rd α}{sep:ByteArray}(h1:∀ks x r,one ks=.ok x r→r.length<ks.length):∀(f:Nat){ks r:List Tok}{L:List α},ze4 one sep f ks=.ok L r→L.length+r.length≤ks.length
 |0,_,_,_,h=>by cases h
 |f+1,ks,r,L,h=>by
  unfold ze4 at h
  cases ht:zx sep ks with
  |none=>rw[ht]at h;injection h with h2 h3;subst h2;subst h3;simp
  |some r1 =>
   rw[ht]at h
   simp only at h
   obtain⟨x,r2,h2,h3⟩:=Go.Proofs.YtnclgkdpafhogaaGreat.bind_ok h
   obtain⟨M,h4,h5⟩:=Go.Proofs.YtnclgkdpafhogaaGreat.map_ok h3
   have:=zly h1 f h4
   have:=h1 _ _ _ h2
   have:=zv ht
   subst h5
   simp only[List.length_cons]
   omega
theorem zmo {ks r:List Tok}{L:List (ByteArray×Int)}(h:zai ks=.ok (some L) r):L.length≤ks.length:=by
 unfold zai at h
 split at h
 ·cases h
 ·rename_i r1 ht
  obtain⟨_,r2,h1,h⟩:=Go.Proofs.YtnclgkdpafhogaaGreat.bind_ok h
  obtain⟨M,r3,h2,h⟩:=Go.Proofs.YtnclgkdpafhogaaGreat.bind_ok h
  obtain⟨_,h3,h4⟩:=Go.Proofs.YtnclgkdpafhogaaGreat.map_ok h
  injection h4 with h4
  subst h4
  unfold rowR at h2
  obtain⟨x,r4,h5,h6⟩:=Go.Proofs.YtnclgkdpafhogaaGreat.bind_ok h2
  obtain⟨z,h7,h8⟩:=Go.Proofs.YtnclgkdpafhogaaGreat.map_ok h6
  subst h8
  have h1':∀ks x r,zbc ks=.ok x r→r.length<ks.length:=fun ks x r h=>zed ks.length ks x r (Nat.le_refl _) h
  have:=zly h1' _ h7
  have:=h1' _ _ _ h5
  have:=zff h1
  have:=zv ht
  simp only[List.length_cons]
  omega
theorem zov {ks r:List Tok}{L:List (ByteArray×Int)}(h:zai ks=.ok (some L) r):0<L.length:=by
 unfold zai at h
 split at h
 ·cases h
 ·obtain⟨_,r2,h1,h⟩:=Go.Proofs.YtnclgkdpafhogaaGreat.bind_ok h
  obtain⟨M,r3,h2,h⟩:=Go.Proofs.YtnclgkdpafhogaaGreat.bind_ok h
  obtain⟨_,h3,h4⟩:=Go.Proofs.YtnclgkdpafhogaaGreat.map_ok h
  injection h4 with h4
  subst h4
  unfold rowR at h2
  obtain⟨x,r4,h5,h6⟩:=Go.Proofs.YtnclgkdpafhogaaGreat.bind_ok h2
  obtain⟨z,h7,h8⟩:=Go.Proofs.YtnclgkdpafhogaaGreat.map_ok h6
  subst h8
  simp
theorem zzy {s:ByteArray}{ks:List Tok}{cb:Nat}{l:List Tok}{w':World}{e:Ending}(h:match zx s ks with
  |some r=>e=.returned (.bool true)∧Cur cb l w' r
  |none=>e=.returned (.bool false)∧Cur cb l w' ks):e=.returned (.bool (zx s ks).isSome)∧Cur cb l w' ((zx s ks).getD ks):=by
 cases ht:zx s ks with
 |some r=>rw[ht]at h;exact h
 |none=>rw[ht]at h;exact h
theorem zsn {l:List Tok}(hl:l.length≤8001) (hE:Ends l){rb B xb mb:Nat}{t:Tok}{ks:List Tok}{w:World}{file:Int}{v:Value}{out:List Ent}(hsuf:t::ks <:+ l) (hEk:Ends ks) (h:PRd rb l w ks file v) (hrow:EntRow B w v out) (hrB:rb<B) (hBw:B≤w.heap.size)
  {files:List (ByteArray×ByteArray)}{cnt dep:Nat}{opn:Nat→Bool}(hld:LdSt xb mb w files cnt dep opn) (hxr:xb<rb) (hfl:files.length≤1048576) (htk:TkAb xb rb l w) (ahead:Nat) (hah:ahead+out.length≤200){rd:Nat→Nat→Nat→Out (List Ent×Nat)}
  (hlen:∀(i n c:Nat) (x:List Ent×Nat),n≤200→rd i n c=.ok x→n+x.1.length≤200)
  (HREAD:∀(i:Nat) (_hi:i<files.length) (w':World) (n:Nat),n≤200→opn i=false→LdSt xb mb w' files (cnt+1) (dep+1) (fun k=>if k=i then true else opn k)→Calls Tryz.prog 62 #[.pointer (some ⟨xb,0,none⟩),.int .i64 i,.string (ze1 files i),.int .i64 n] w' (zfr xb mb files (dep+1) (fun k=>if k=i then true else opn k) w' (rd i n (cnt+1)))) :
  Calls Tryz.prog 112 #[.pointer (some ⟨xb,0,none⟩),.pointer (some ⟨rb,0,none⟩),.int .i64 ahead] w (IncPost rb B xb mb l file v out files dep opn w (incR rd files opn l file (ahead+out.length) cnt ks)):=by
 have hne:=hE.pos
 have hl2:l.length≤1073741824:=by omega
 have HM:=Lib.hid (fun s w' ks' (h:Cur rb l w' ks')=>zq5 hl2 hne h s)
 have HTK:=Lib.hid (fun s w' ks' (h:Cur rb l w' ks')=>zyd hl2 h s)
 have HNM:=Lib.hid (fun w' ks' (h:Cur rb l w' ks')=>zp5 hl2 hne h)
 have HK:=Lib.hid (fun w' ks' (h:Cur rb l w' ks')=>zq6 hl2 hne h (k:=4) (by decide))
 have HST:=Lib.hid (fun w' ks' v' n er (hn:n<l.length) (h:PRd rb l w' ks' file v')=>ztd hl2 h hn er)
 have HRD:=Lib.hid HREAD
 have HLEN:=Lib.hid hlen
 have HTA:=Lib.hid htk
 have hks:ks <:+ l:=(List.suffix_cons t ks).trans hsuf
 have hrw:=h.1.lt
 have HLD:=Lib.hid hld
 have HOUT:=Lib.hid hrow
 have HEK:=Lib.hid hEk
 clear hsuf hrow hld HREAD hlen hEk htk
 go_enter Tryz.func112,Tryz.ntmps112
 go_upto_region 1 with (go_at_call 130;refine(HM.out zbp _ _ h.1).mono ?_;rintro e w1 ⟨hk1,hm⟩;(rcases zcu (zw zbp ks)with ⟨r1,hq1⟩|⟨u1,r1,hq1⟩);(focus (rw[hq1]at hm;(obtain⟨rfl,hc1⟩:=hm);exact⟨rfl,IncPost.wrong (zcs (zxc hq1)) hk1.chg (by simp) (h.kept hk1 hc1)⟩));rw[hq1]at hm;(obtain⟨rfl,hc1⟩:=hm))
 have g1:=h.kept hk1 hc1
 obtain⟨z1,-,l1⟩:=g1.at1
 go_upto_region 2 with fail
 clear z1
 go_upto_region 3 with (go_at_call 146;refine(HK.out _ _ g1.1).mono ?_;rintro e w2 ⟨hk2,hm⟩;(rcases zcu (za5 4 r1)with ⟨r2,hq2⟩|⟨fn,r2,hq2⟩);(focus (rw[hq2]at hm;(obtain⟨rfl,hc2⟩:=hm);exact⟨rfl,IncPost.wrong (zcs (zxd hq1 hq2)) (hk1.trans hk2).chg (by simp) (g1.kept hk2 hc2)⟩));rw[hq2]at hm;(obtain⟨rfl,hc2⟩:=hm))
 have g2:=g1.kept hk2 hc2
 have hfns:=zf7 g1.1.toks hq2
 have hr2l:r2.length≤8001:=by have:=hc2.1.length_le;omega
 have hr1l:0<r1.length:=by obtain⟨tt,rfl,-⟩:=zfw hq2;simp
 have hr1:r1 <:+ l:=g1.1.1
 have HAT:=Lib.hid (show(zgb l (l.length-r1.length)).at'=(zt r1).at' by rw[zlw hr1 hr1l])
 obtain⟨V2,hV2⟩:∃V2,V2=(w2.alloc (.cells #[.string fn] 9)).alloc (.cells #[.slice none 0 0] 25):=⟨_,rfl⟩
 have hs2:=(hk1.trans hk2).chg.size
 have hbf:Own V2 w2.heap.size [.string fn]:=by rw[hV2];exact(own1 w2 _ _).ext (zb _ _)
 have hbn:Own V2 (w2.heap.size+1) [.slice none 0 0]:=by
  rw[hV2];have:=own1 (w2.alloc (.cells #[.string fn] 9)) (.slice none 0 0) 25
  rw[World.size_alloc]at this;exact this
 have e2:Ext w2 V2:=by rw[hV2];exact(zb _ _).alloc _
 have hsV:V2.heap.size=w2.heap.size+2:=by rw[hV2];simp
 have g3:=g2.ext e2
 have K3:Kept rb w V2:=(hk1.trans hk2).ext e2
 have hrb2:=hc2.lt
 go_upto_region 5 with fail
 rw[←hV2]
 clear hV2 e2 g1 g2 hc1 hc2
 obtain⟨fb,hfbe⟩:∃fb,fb=w2.heap.size:=⟨_,rfl⟩
 obtain⟨nb,hnbe⟩:∃nb,nb=w2.heap.size+1:=⟨_,rfl⟩
 rw[←hnbe]at hbn
 rw[←hfbe]at hbf
 rw[←hnbe,←hfbe]
 have hf1:w.heap.size≤fb∧rb<fb∧fb<nb∧nb<V2.heap.size∧w.heap.size≤nb:=⟨by omega,by omega,by omega,by omega,by omega⟩
 clear hnbe hfbe hsV hs2 hrb2
 obtain⟨hf2,hf3,hf4,hf5,hf6⟩:=hf1
 go_upto_if 30 with (go_at_call 81;refine(HTK.out zj _ _ g3.1).mono ?_;rintro e w3 ⟨hk3,hm⟩;(obtain⟨rfl,hc3⟩:=zzy hm);clear hm)
 have g4:=g3.kept hk3 hc3
 have bf4:=hbf.chg hk3.chg (by simp;omega)
 have bn4:=hbn.chg hk3.chg (by simp;omega)
 have K4:=K3.trans hk3
 have hs4:=hk3.chg.size
 clear hc3 g3 hbf hbn K3
 go_cut [9]from 30 to 56 (fun y9 wx=>∃(ns:Option (List (ByteArray×Int))) (r3:List Tok),zai r2=.ok ns r3∧NmSt w3.heap.size l wx nb y9 (ns.getD [])∧PRd rb l wx r3 file v∧Chg [rb,nb] w3 wx∧Kp0 rb w3 wx)
 case first =>
  cases ht:zx zj r2 with
  |none =>
   rw[ht]at g4
   have HT:=Lib.hid ht
   clear ht bf4
   go_wp2_with fail
   go_meet
   exact⟨none,r2,zot HT.out,NmSt.nil bn4,g4,Chg.refl _ _,Kp0.refl _ _⟩
  |some r3 =>
   rw[ht]at g4
   simp only[Option.getD_some]at g4
   have HT:=Lib.hid ht
   clear ht bf4
   go_wp2_with (go_at_call 130;refine(HM.out ziu _ _ g4.1).mono ?_;rintro e w5 ⟨hk5,hm⟩;(rcases zcu (zw ziu r3)with ⟨r4,hq4⟩|⟨u4,r4,hq4⟩);(focus (rw[hq4]at hm;(obtain⟨rfl,hc5⟩:=hm);exact⟨rfl,IncPost.wrong (zcs (zlx hq1 hq2 (zuz HT.out hq4))) (K4.trans hk5).chg (by simp) (g4.kept hk5 hc5)⟩));rw[hq4]at hm;(obtain⟨rfl,hc5⟩:=hm))
   have g5:=g4.kept hk5 hc5
   have hq5:=Lib.hid hq4
   clear hc5 hq4 g4
   obtain⟨i0,hi0,hz0,hz1',hz2'⟩:=info_parts z1i
   obtain⟨j0,hj0,jz0,jz1',jz2'⟩:=info_parts zs9
   go_loopg [9] r4.length (fun g y wr=>∃(r:List Tok) (pre:List (ByteArray×Int)),g=r.length∧NmSt w3.heap.size l wr nb y pre∧PRd rb l wr r file v∧Chg [rb,nb] w3 wr∧Kp0 rb w3 wr∧pre.length+r.length≤r4.length∧rowR zbc zj r4=(rowR zbc zj r).map (pre++·))
   case atStart=>exact⟨r4,[],rfl,(NmSt.nil bn4).chg hk5.chg (by simp;omega),g5,hk5.chg.mono (by simp),Kp0.kept hk5,by simp,by cases rowR zbc zj r4<;>simp⟩
   case round =>
    obtain⟨r,pre,hg,hnm,hpr,hch,hkp,hlen,heq⟩:=hrel
    have HEQ:=Lib.hid heq
    have HG:=Lib.hid hg
    have hrl:=hpr.1.1.length_le
    have hr4l:=g5.1.1.length_le
    obtain⟨vn,ix,q1,q2,q3,q4,q5⟩:=hnm
    obtain⟨xa,xc,hv,hxc⟩:=q3.form
    rw[List.length_map]at hv hxc
    subst hv
    have HML:=Lib.hid (show(ix.map fun k:Nat=>[Dat.int (k:Int)]).length=ix.length by rw[List.length_map])
    have hpl:ix.length≤8001:=by omega
    have HQ3:=Lib.hid q3
    have HQ5:=Lib.hid q5
    have HQ4:=Lib.hid q4
    have HLP:=Lib.hid hlen
    have hsr:w3.heap.size≤wr.heap.size:=hch.size
    obtain⟨z1,-,l5⟩:=hpr.at1
    clear heq hg q3 q4 q5 hlen
    go_upto_region 8 with (at_builtin;refine zav rfl _ _ _ rfl 3 i0 _ 8 Tryz.underlying109 hi0 hz0 hz1' hz2' rfl (by decide) w3.heap.size (.slice xa ix.length xc) (ix.map fun k:Nat=>[Dat.int (k:Int)]) rfl wr HQ3.out (zb _ _) wr.heap.size rfl _ _ (heap_alloc_new _ _) [Dat.int (l.length-r.length:Nat)] ⟨rfl,⟨rfl,by omega,by omega⟩,trivial⟩ (by rw[HML.out];simp only[maxLen];omega) (by rw[HML.out];omega) (by simp;omega) ?_;intro g6 cap6 w6 hrow6 hgrow6 hat6 hlt6;rw[HML.out]at hrow6 ⊢)
    have HX6:=Lib.hid (zb wr (.cells #[.int .i64 (l.length-r.length:Nat)] 3))
    have hgp:=(hpr.ext HX6.out).grown HQ3.out (by omega) hgrow6
    have hnb6:(Value.slice xa ix.length xc).ownBlock≠some nb:=fun e=>by have:=(HQ3.out.own_ge e).1;omega
    have bn6:=zeg (q1.ext HX6.out) hgrow6 hnb6
    have q6:StrRow w3.heap.size w6 vn (pre.map Prod.fst):=(StrRow.ext q2 HX6.out).but (Chg.of_grown hgrow6 (S:=(Value.slice xa ix.length xc).ownBlock.toList) (fun g h=>.inl (by simp[h]))) (fun g hg hm=>znm q2 HQ3.out (by decide) hg (by simpa using hm))
    have P6:Kp0 rb w3 w6:=(hkp.trans (Kp0.ext HX6.out)).trans (Kp0.chg (S:=(Value.slice xa ix.length xc).ownBlock.toList) (Chg.of_grown hgrow6 (fun g h=>.inl (by simp[h]))) (fun hm=>by have:=(HQ3.out.own_ge (show(Value.slice xa ix.length xc).ownBlock=some rb by simpa using hm)).1;omega))
    have C6:Chg [rb,nb] w3 w6:=zci hch HQ3.out (Nat.le_refl _) HX6.out hgrow6
    have HROW6:=Lib.hid (show IxRow w3.heap.size w6 (.slice (some ⟨g6,0,none⟩) (ix.length+1) cap6) (ix++[l.length-r.length]) by unfold IxRow;rw[List.map_append];exact hrow6)
    clear hrow6 hgrow6 hat6 hpr q1 q2 hnb6 z1 l5 hch
    have hs6:=C6.size
    obtain⟨y0,yf0⟩:=bn6 0 _ rfl
    obtain⟨na,nc,hvn,hnc,-⟩:=q6.strs
    rw[List.length_map]at hvn hnc
    subst hvn
    have Hml:=Lib.hid (show((pre.map Prod.fst).map fun s=>[Dat.str s]).length=pre.length by rw[List.length_map,List.length_map])
    have HQ6:=Lib.hid q6
    have HBN:=Lib.hid bn6
    have HGP:=Lib.hid hgp
    have hpl2:pre.length≤8001:=by have:=HQ4.out;omega
    rcases zcu (zes r)with ⟨rr,hn⟩|⟨x,rr,hn⟩
    ·have HNB:=Lib.hid (fun w' (h:Cur rb l w' r)=>(by have:=HNM.out w' r h;rw[hn]at this;exact this:Calls Tryz.prog 145 #[.pointer (some ⟨rb,0,none⟩)] w' fun e w''=>Kept rb w' w''∧e=.panicked [zch (zck l rr)]∧Cur rb l w'' r))
     have HBAD:=Lib.hid (show rowR zbc zj r4=.bad rr by rw[HEQ.out,zzw (show zbc r=.bad rr by unfold zbc;rw[hn];rfl)];rfl)
     have HD:=Lib.hid (fun (w7:World) (hk:Kept rb w6.drew w7)=>(IncPost.wrong (rb:=rb) (l:=l) (file:=file) (B:=B) (xb:=xb) (mb:=mb) (v:=v) (out:=out) (files:=files) (dep:=dep) (opn:=opn) (res:=incR rd files opn l file (ahead+out.length) cnt ks) (v1:=v) (ks:=r) (zcs (zlx hq1 hq2 (zu0 HT.out hq5.out HBAD.out))) ((K4.chg.mono (T:=[rb,nb]) (by simp)).trans (C6.trans (((Kept.of_ext (Ext.drew (Below.refl _ w6))).trans hk).chg.mono (by simp)))) (by simp;omega) (w':=w7)))
     have hgl:=hgp.1.lt
     clear hn q6 bn6
     refine wp_region_any (by kernel_rfl) ?_
     change wpAny _ _ _ _ _ _ _ (World.drew _)
     refine wpAny_take (i:=1) (v:=.pointer (some ⟨rb,0,none⟩)) rfl (by kernel_rfl) (by kernel_rfl) (by kernel_rfl) (fun _ _ _ h=>h) (Or.inl ⟨by rfl,fun w0=>?_⟩) ?_
     ·go_simp
     refine wpAny_ready (rs:=[0,2]) (by kernel_rfl) (by simp) ?_
     refine AllReady.cons rfl (fun K hK=>?_) (AllReady.cons rfl (fun K hK=>?_) AllReady.nil)
     ·go_simp
      refine hK _ _ ?_
      clear hK K
      refine wpAny_ready (rs:=[2]) (by kernel_rfl) (by simp) ?_
      refine AllReady.cons rfl (fun K hK=>?_) AllReady.nil
      go_simp
      refine(HNB.out _ (HGP.out.1.ext (Ext.drew (Below.refl _ _)))).mono ?_
      rintro e w7 ⟨hk7,rfl,hc7⟩
      exact⟨rfl,HD.out w7 hk7 ((HGP.out.ext (Ext.drew (Below.refl _ _))).kept hk7 hc7)⟩
     ·go_simp
      refine(HNB.out _ (HGP.out.1.ext (Ext.drew (Below.refl _ _)))).mono ?_
      rintro e w7 ⟨hk7,rfl,hc7⟩
      exact⟨rfl,HD.out w7 hk7 ((HGP.out.ext (Ext.drew (Below.refl _ _))).kept hk7 hc7)⟩
    ·have hxs:=znk hgp.1.toks hn
     have hr0:0<r.length:=by have:=zn6 hn;omega
     have hrsuf:r <:+ l:=hgp.1.1
     have HN:=Lib.hid (fun w' (h:Cur rb l w' r)=>(by have:=HNM.out w' r h;rw[hn]at this;exact this:Calls Tryz.prog 145 #[.pointer (some ⟨rb,0,none⟩)] w' fun e w''=>Kept rb w' w''∧e=.returned (.string x)∧Cur rb l w'' rr))
     have hgl:=hgp.1.lt
     clear q6 bn6 hgp
     go_cut []from 35 to 52 (fun wx=>NmSt w3.heap.size l wx nb (.slice (some ⟨g6,0,none⟩) (ix.length+1) cap6) (pre++[(x,(zt r).at')])∧PRd rb l wx rr file v∧Chg [rb,nb] w3 wx∧Kp0 rb w6 wx)
     case first =>
      go_region_law ((first
       |(go_simp;go_at_call 145;refine(HN.out _ (HGP.out.1.ext (Ext.drew (Below.refl _ _)))).mono ?_;rintro e w7 ⟨hk7,rfl,hc7⟩;(have hk7':Kept rb w6 w7:=(Kept.of_ext (Ext.drew (Below.refl _ w6))).trans hk7);(have d5:=hk7'.chg.cell y0 (by simp;omega));(have d6:=hk7'.chg.frozen y0 (by simp;omega) yf0);(have d7:=(zb w7 (.cells #[.string x] 9)).cell d5);(have d8:=zf d5);(have hs7:=hk7'.chg.size))
       |(refine zbz rfl (.tmp 43) (.tmp 46) _ rfl 9 j0 _ 16 Tryz.underlying25 hj0 jz0 jz1' jz2' rfl (by decide) w3.heap.size (.slice na pre.length nc) ((pre.map Prod.fst).map fun s=>[Dat.str s]) (by rfl) w7 (GRow.chg HQ6.out hk7'.chg (by simp;omega)) (zb _ _) w7.heap.size (by rfl) _ _ (heap_alloc_new _ _) [Dat.str x] ⟨rfl,⟨rfl,hxs⟩,trivial⟩ (by rw[Hml.out];simp only[maxLen];omega) (by rw[Hml.out];omega) (by simp;omega) ?_;intro g cap w8 hrow8 hgrow8 hat8 hlt8;(have hfar:(some (⟨nb,0,none⟩:Addr).block)≠(Value.slice na pre.length nc).ownBlock:=fun e=>by have:=(StrRow.own_ge HQ6.out e.symm).1;simp only at this;omega);(have e5:=(hgrow8.cell_far ⟨nb,0,none⟩ (zf d7) hfar).trans d7);(have e6:=(hgrow8.frozen_far ⟨nb,0,none⟩ (zf d7) hfar).trans ((zb w7 (.cells #[.string x] 9)).frozen d5 d6)))))
      all_goals
       go_wp2_with fail
       go_meet
       have hrow9:=hrow8
       rw[Hml.out]at hrow9
       exact z17 (by omega) (by omega) (by omega) HBN.out hk7' HQ6.out HROW6.out HQ4.out HQ5.out hrsuf hr0 hrow9 hgrow8 hc7 HGP.out C6
     case rest =>
      obtain⟨hnm2,hpr2,hch2,hkp2⟩:=hcut
      have hna:=Lib.hid (show zbc r=.ok (x,(zt r).at') rr by unfold zbc;rw[hn];rfl)
      have hrrl:=zn6 hn
      have HNM2:=Lib.hid hnm2
      have HPR2:=Lib.hid hpr2
      clear hnm2 HN hn hpr2
      cases ht2:zx zj rr with
      |none =>
       have HT2:=Lib.hid ht2
       have HOK:=Lib.hid (show rowR zbc zj r4=.ok (pre++[(x,(zt r).at')]) rr by rw[HEQ.out,zxg hna.out ht2];rfl)
       clear ht2
       go_wp2_with (first
        |(go_at_call 81;refine(HTK.out zj _ _ HPR2.out.1).mono ?_;rintro e w9 ⟨hk9,hm⟩;rw[HT2.out]at hm;(obtain⟨rfl,hc9⟩:=hm))
        |(go_at_call 130;refine(HM.out zln _ _ hc9).mono ?_;rintro e w10 ⟨hk10,hm⟩;(rcases zcu (zw zln rr)with ⟨r7,hq7⟩|⟨u7,r7,hq7⟩);(focus (rw[hq7]at hm;(obtain⟨rfl,hc10⟩:=hm);exact⟨rfl,IncPost.wrong (zcs (zlx hq1 hq2 (zu1 HT.out hq5.out HOK.out hq7))) ((K4.chg.mono (T:=[rb,nb]) (by simp)).trans (hch2.trans ((hk9.trans hk10).chg.mono (by simp)))) (by simp;omega) ((HPR2.out.kept hk9 hc9).kept hk10 hc10)⟩));rw[hq7]at hm;(obtain⟨rfl,hc10⟩:=hm)))
       go_meet
       exact⟨some (pre++[(x,(zt r).at')]),r7,zsk HT.out hq5.out HOK.out hq7,HNM2.out.chg (hk9.trans hk10).chg (by simp;omega),(HPR2.out.kept hk9 hc9).kept hk10 hc10,hch2.trans ((hk9.trans hk10).chg.mono (by simp)),(P6.trans hkp2).trans (Kp0.kept (hk9.trans hk10))⟩
      |some r6 =>
       have HT2:=Lib.hid ht2
       have hr6:=zv ht2
       have HEQ2:=Lib.hid (show rowR zbc zj r4=(rowR zbc zj r6).map ((pre++[(x,(zt r).at')])++·) by rw[HEQ.out,zxh hna.out ht2];cases rowR zbc zj r6<;>simp)
       clear ht2
       go_wp2_with (go_at_call 81;refine(HTK.out zj _ _ HPR2.out.1).mono ?_;rintro e w9 ⟨hk9,hm⟩;rw[HT2.out]at hm;(obtain⟨rfl,hc9⟩:=hm))
       go_roundg r6.length
       case measure=>have:=HG.out;go_light;omega
       case rel=>exact⟨r6,pre++[(x,(zt r).at')],rfl,HNM2.out.chg hk9.chg (by simp;omega),HPR2.out.kept hk9 hc9,hch2.trans (hk9.chg.mono (by simp)),(P6.trans hkp2).trans (Kp0.kept hk9),by have:=HLP.out;simp;omega,HEQ2.out⟩
 case rest =>
  obtain⟨ns,r3,hq3,hnm,g5,hch,hkp⟩:=hcut
  have hl5:=(HLD.out.chg K4.chg (by simp;omega)).chg hch (by simp;omega)
  have bf5:=bf4.chg hch (by simp;omega)
  have C5:Chg [rb,nb] w wc:=(K4.chg.mono (by simp)).trans hch
  have P5:Kp0 rb w wc:=(Kp0.kept K4).trans hkp
  have hS5:∀b∈[rb,nb],b=rb∨b=xb∨b=mb∨w.heap.size≤b:=by simp;omega
  clear g4 bf4 bn4 K4 hch
  have hs5:=C5.size
  obtain⟨base,hbase⟩:∃base,base=w3.heap.size:=⟨_,rfl⟩
  rw[←hbase]at hnm
  have hb1:nb<base∧rb<base∧w.heap.size≤base:=⟨by omega,by omega,by omega⟩
  obtain⟨hb1,hb2,hb3⟩:=hb1
  go_upto_region 12 with (go_at_call 130;refine(HM.out zcx _ _ g5.1).mono ?_;rintro e w6 ⟨hk6,hm⟩;(rcases zcu (zw zcx r3)with ⟨r4,hq4⟩|⟨u4,r4,hq4⟩);(focus (rw[hq4]at hm;(obtain⟨rfl,hc6⟩:=hm);exact⟨rfl,IncPost.wrong (zcs (zxe hq1 hq2 hq3 hq4)) (C5.trans (hk6.chg.mono (by simp))) hS5 (g5.kept hk6 hc6)⟩));rw[hq4]at hm;(obtain⟨rfl,hc6⟩:=hm))
  have g6:=g5.kept hk6 hc6
  go_upto_region 13 with (go_at_call 130;refine(HM.out sDot _ _ g6.1).mono ?_;rintro e w7 ⟨hk7,hm⟩;(rcases zcu (zw sDot r4)with ⟨r5,hq5⟩|⟨u5,r5,hq5⟩);(focus (rw[hq5]at hm;(obtain⟨rfl,hc7⟩:=hm);exact⟨rfl,IncPost.wrong (zcs (zxf hq1 hq2 hq3 hq4 hq5)) (C5.trans ((hk6.trans hk7).chg.mono (by simp))) hS5 (g6.kept hk7 hc7)⟩));rw[hq5]at hm;(obtain⟨rfl,hc7⟩:=hm))
  have g7:=g6.kept hk7 hc7
  have hH:=Lib.hid (zuy hq1 hq2 hq3 hq4 hq5)
  have HIN:=Lib.hid hq3
  have C7:Chg [rb,nb] w w7:=C5.trans ((hk6.trans hk7).chg.mono (by simp))
  have nm7:=hnm.chg (hk6.trans hk7).chg (by simp;omega)
  have bf7:=bf5.chg (hk6.trans hk7).chg (by simp;omega)
  have hl7:=hl5.chg (hk6.trans hk7).chg (by simp;omega)
  have PK:=Kp0.kept (hk6.trans hk7)
  clear hq1 hq2 hq3 hq4 hq5 g5 g6 hc6 hc7 hnm bf5 hl5 C5 hk6 hk7 hk1 hk2 hk3
  have HL7:=Lib.hid hl7
  obtain⟨fa,fc,n,ho,hfc,hfiles,hom,hnd,hcnt,hmx,hml,m,hmlc⟩:=hl7
  obtain⟨x2,xf2⟩:=ho 2 _ rfl
  have lx:=ho.lt
  go_upto_region 14 with fail
  obtain⟨V7,hV7⟩:∃V7,V7=w7.setCell ⟨xb,2,none⟩ (.int .i64 ((cnt:Int)+1)):=⟨_,rfl⟩
  have c7:Chg [xb] w7 V7:=by rw[hV7];exact(Chg.refl [xb] w7).setCell _ (.inl (by simp))
  have ho8:Own V7 xb [.slice fa files.length fc,.map (some mb),.int .i64 ((cnt+1:Nat):Int)]:=by
   rw[hV7];exact ho.set (i:=2) (by simp) _
  have P7:Kp0 rb w w7:=P5.trans PK
  have tk7:=HTA.out.chg C7 P7 (by simp;omega)
  have g8:PRd rb l V7 r5 file v:=g7.low tk7 c7 (by simp) hxr
  have tk8:=tk7.chg c7 (Kp0.chg c7 (by simp;omega)) (by simp)
  have nm8:=nm7.chg c7 (by simp;omega)
  have bf8:=bf7.chg c7 (by simp;omega)
  have hf8:IsFiles (fun b=>b<mb) V7 fa files:=Dat.Rows.chg hfiles c7 fun b hb=>by simp;omega
  have hom8:=hom.chg c7 (by simp;omega)
  have hml8:=c7.cell hmlc (by simp;omega)
  have C8:Chg [rb,nb,xb] w V7:=(C7.mono (by simp)).trans (c7.mono (by simp))
  have hS8:∀b∈[rb,nb,xb],b=rb∨b=xb∨b=mb∨w.heap.size≤b:=by simp;omega
  have P8:Kp0 rb w V7:=P7.trans (Kp0.chg c7 (by simp;omega))
  have hs8:=C8.size
  rw[←hV7]
  clear hV7 c7 x2 xf2 ho lx hfiles hom hmlc g7 tk7 nm7 bf7 HL7 P7 C7 PK
  have HIX:=Lib.hid (zsh (by omega) (c:=fc) hf8 (bf8 0 _ rfl).1)
  obtain⟨x0,-⟩:=ho8 0 _ rfl
  have lx8:=ho8.lt
  by_cases hlong:200<cnt+1
  case pos =>
   have hlong':(200:Int)<(cnt:Int)+1:=by omega
   have HLG:=Lib.hid hlong
   generalize zdm (fun x=>decide (x.1=fn)) files=fi at HIX
   clear hlong
   go_wp2_with (first|(go_at_call 148;refine(HIX.out).mono ?_;rintro e w9 ⟨rfl,hx9⟩;have ho9:=ho8.ext hx9;(obtain⟨x0,-⟩:=ho9 0 _ rfl);(obtain⟨x1,-⟩:=ho9 1 _ rfl);(obtain⟨x2,-⟩:=ho9 2 _ rfl);have lx9:=ho9.lt)|(go_at_call 147;refine(HST.out _ _ _ (l.length-r1.length) 3 (by have:=hr1.length_le;omega) (g8.ext hx9)).mono ?_;rintro e w10 ⟨⟨older,rfl,hol⟩,hx10⟩))
   exact⟨rfl,IncPost.fault (zxi hH.out HLG.out) (C8.trans (Chg.of_ext (hx9.trans hx10))) hS8 ⟨older,rfl,hol⟩ (by rw[HAT.out])⟩
  case neg =>
   have hlong':¬(200:Int)<(cnt:Int)+1:=by omega
   have HLG:=Lib.hid hlong
   rcases zsl files fn with ⟨hf,hfi⟩|⟨i,hf,hil,hfi⟩
   ·have HF:=Lib.hid hf
    rw[hfi]at HIX
    clear hf hfi hlong
    go_wp2_with (first|(go_at_call 148;refine(HIX.out).mono ?_;rintro e w9 ⟨rfl,hx9⟩;have ho9:=ho8.ext hx9;(obtain⟨x0,-⟩:=ho9 0 _ rfl);(obtain⟨x1,-⟩:=ho9 1 _ rfl);(obtain⟨x2,-⟩:=ho9 2 _ rfl);have lx9:=ho9.lt)|(go_at_call 147;refine(HST.out _ _ _ (l.length-r1.length) 244 (by have:=hr1.length_le;omega) (g8.ext hx9)).mono ?_;rintro e w10 ⟨⟨older,rfl,hol⟩,hx10⟩))
    exact⟨rfl,IncPost.fault (zqp hH.out HLG.out HF.out) (C8.trans (Chg.of_ext (hx9.trans hx10))) hS8 ⟨older,rfl,hol⟩ (by rw[HAT.out])⟩
   ·have HF:=Lib.hid hf
    rw[hfi]at HIX
    have hi0:¬(i:Int)<0:=by omega
    have HLK:=Lib.hid (fun w9 (hx9:Ext V7 w9)=>zxk (hom8.chg (Chg.of_ext (S:=[]) hx9) (by simp)) (k:=i) (by omega))
    cases hopi:opn i with
    |true =>
     have HO:=Lib.hid hopi
     rw[hopi]at HLK
     clear hf hfi hlong hopi
     go_wp2_with (first|(go_at_call 148;refine(HIX.out).mono ?_;rintro e w9 ⟨rfl,hx9⟩;have ho9:=ho8.ext hx9;(obtain⟨x0,-⟩:=ho9 0 _ rfl);(obtain⟨x1,-⟩:=ho9 1 _ rfl);(obtain⟨x2,-⟩:=ho9 2 _ rfl);have lx9:=ho9.lt;have hlk:=HLK.out w9 hx9)|(go_at_call 147;refine(HST.out _ _ _ (l.length-r1.length) 245 (by have:=hr1.length_le;omega) (g8.ext hx9)).mono ?_;rintro e w10 ⟨⟨older,rfl,hol⟩,hx10⟩))
     exact⟨rfl,IncPost.fault (zu2 hH.out HLG.out HF.out HO.out) (C8.trans (Chg.of_ext (hx9.trans hx10))) hS8 ⟨older,rfl,hol⟩ (by rw[HAT.out])⟩
    |false =>
     have HO:=Lib.hid hopi
     rw[hopi]at HLK
     clear hf hfi hlong hopi
     go_upto_region 21 with (go_at_call 148;refine(HIX.out).mono ?_;rintro e w9 ⟨rfl,hx9⟩;have ho9:=ho8.ext hx9;(obtain⟨x0,-⟩:=ho9 0 _ rfl);(obtain⟨x1,-⟩:=ho9 1 _ rfl);(obtain⟨x2,-⟩:=ho9 2 _ rfl);have lx9:=ho9.lt;have hlk:=HLK.out w9 hx9)
     have hom9:=hom8.chg (Chg.of_ext (S:=[]) hx9) (by simp)
     obtain⟨D,hD,hown,hat⟩:=hom9
     have HAT2:=Lib.hid hat
     have HKY:=Lib.hid (zxj (k:=i) (by omega))
     have hi1:(i:Int)<files.length:=by omega
     obtain⟨bf,of,hfa,hbf,p1,p2,-,-⟩:=hf8.look hil
     subst hfa
     have HTX:=Lib.hid (show ze1 files i=files[i].2 by unfold ze1;rw[List.getElem?_eq_getElem hil];rfl)
     have hrow0:=HOUT.out
     unfold EntRow at hrow0
     obtain⟨va,vc,hv,hvc⟩:=hrow0.form
     rw[List.length_map]at hv hvc
     subst hv
     have HROW0:=Lib.hid hrow0
     clear hat hlk hrow0
     go_upto_region 22 with (at_mapUpdate;refine wpList_mapUpdate_own _ rfl _ _ _ 104 rfl 3 4 zou Tryz.underlying104 (plainElem Tryz.prog 4) mb n D rfl hown (by unfold maxLen;omega) _ _ (.int .i64 i) rfl rfl HKY.out (.lit (.bool true)) [] (plainElem_bool Tryz.underlying4 true) ?_;intro w10 hown10 hgrow10)
     have c10:Chg [mb] w9 w10:=Chg.of_grown hgrow10 (fun g hg=>.inl (by injection hg with hg;simp[hg]))
     have om10:=ztn hD HAT2.out hown10
     have g9:=g8.ext hx9
     have tk9:=tk8.chg (Chg.of_ext (S:=[]) hx9) (Kp0.ext hx9) (by simp)
     have g10:=g9.low tk9 c10 (by simp;omega) hxr
     have tk10:=tk9.chg c10 (Kp0.chg c10 (by simp;omega)) (by simp;omega)
     have nm10:=(nm8.ext hx9).chg c10 (by simp;omega)
     obtain⟨vn,ix,o1,o2,o3,o4,o5⟩:=nm10
     have hnb10:=o1.lt
     obtain⟨na,nc,hvn,hnc,hstr⟩:=o2.strs
     rw[List.length_map]at hvn hnc
     subst hvn
     have st10:IsStrs (fun b=>base≤b∧b<w10.heap.size) w10 na ((ns.getD []).map Prod.fst):=Dat.Rows.mono hstr fun b h1 h2=>⟨h1,h2⟩
     obtain⟨ia,ic,hva,hic,hixr⟩:=GRow.dat (by decide) o3
     rw[List.length_map]at hva hic
     subst hva
     have ix10:Dat.Rows (fun b=>base≤b∧b<w10.heap.size) w10 ia (ix.map fun k:Nat=>[Dat.int (k:Int)]):=Dat.Rows.mono hixr fun b h1 h2=>⟨h1,h2⟩
     have HIX4:=Lib.hid o4
     have HIX5:=Lib.hid o5
     have hnsz:=HIX4.out
     clear o2 o3 hstr hixr o4 o5
     have f10:IsFiles (fun b=>b<mb) w10 (some ⟨bf,of,none⟩) files:=Dat.Rows.chg (hf8.ext hx9) c10 fun b hb=>by simp;omega
     have ho10:=ho9.chg c10 (by simp;omega)
     have ml10:=c10.cell (hx9.cell hml8) (by simp;omega)
     have C10:Chg [rb,nb,xb,mb] w w10:=((C8.mono (by simp)).trans (Chg.of_ext (S:=[rb,nb,xb,mb]) hx9)).trans (c10.mono (by simp))
     have P10:Kp0 rb w w10:=(P8.trans (Kp0.ext hx9)).trans (Kp0.chg c10 (by simp;omega))
     have ld10:LdSt xb mb w10 files (cnt+1) (dep+1) (fun k=>if k=i then true else opn k):=⟨_,fc,n+1,ho10,hfc,f10,om10,by omega,by omega,hmx,hml,m,ml10⟩
     have hs10:=C10.size
     replace p2:=c10.cell (hx9.cell p2) (by simp;omega)
     obtain⟨z0,-⟩:=ho10 0 _ rfl
     obtain⟨-,-,q3,-⟩:=id g10
     have l10:=g10.1.lt
     have lx10:=ho10.lt
     have lp10:=zf p2
     have HR1:=HRD.out i hil w10.drew (ahead+out.length) hah HO.out (ld10.ext (Ext.drew (Below.refl _ _)))
     rw[HTX.out,Int.natCast_add]at HR1
     have HR2:=Lib.hid HR1
     have hin:=Lib.hid (zqq (l:=l) (file:=file) (rd:=rd) (n:=ahead+out.length) hH.out HLG.out HF.out HO.out)
     have hS10:∀b∈[rb,nb,xb,mb],b=rb∨b=xb∨b=mb∨w.heap.size≤b:=by simp;omega
     clear hown hown10 hgrow10 c10 om10 g9 tk9 ho9 x0 x1 x2 g8 tk8 nm8 hf8 hml8 C8 P8 HR1 ho8 ho10 f10 ml10 ld10 bf8 hom8 p1
     unfold zfr at HR2
     cases hrd:rd i (ahead+out.length) (cnt+1) with
     |flt tf =>
      rw[hrd]at HR2 hin
      clear hrd
      go_still_tail 17,(by kernel_rfl)
      change wpList _ _ _ _ _ w10.drew
      go_wp2_with (go_at_call 62;refine(HR2.out).mono ?_;rintro e w11 ⟨hx11,older,rfl,hol⟩)
      exact⟨rfl,IncPost.fault (S:=[rb,nb,xb,mb]) hin.out (C10.trans ((Chg.of_ext (Ext.drew (Below.refl _ _))).trans (hx11.mono (by simp)))) hS10 ⟨older,rfl,hol⟩ rfl⟩
     |ok xr =>
      rw[hrd]at HR2 hin
      have hxl:=HLEN.out _ _ _ _ hah hrd
      clear hrd
      go_still_tail 17,(by kernel_rfl)
      change wpList _ _ _ _ _ w10.drew
      go_upto_region 23 with (go_at_call 62;refine(HR2.out).mono ?_;rintro e w11 ⟨hx11,v11,rfl,hrow11,hld11⟩)
      obtain⟨l',cnt2⟩:=xr
      simp only at hrow11 hld11 hxl hin
      have hlex:Ext w10 w10.drew:=Ext.drew (Below.refl _ _)
      have g11:=(g10.ext hlex).low (tk10.chg (Chg.of_ext (S:=[]) hlex) (Kp0.ext hlex) (by simp)) hx11 (by simp;omega) hxr
      have o11:=(o1.ext hlex).chg hx11 (by simp;omega)
      have st11:=Dat.Rows.chg (Dat.Rows.ext st10 hlex) hx11 (fun b hb=>by have h1:=hb.1;simp;omega)
      have ix11:=Dat.Rows.chg (Dat.Rows.ext ix10 hlex) hx11 (fun b hb=>by have h1:=hb.1;simp;omega)
      have tk11:=(tk10.chg (Chg.of_ext (S:=[]) hlex) (Kp0.ext hlex) (by simp)).chg hx11 (Kp0.chg hx11 (by simp;omega)) (by simp;omega)
      have C11:Chg [rb,nb,xb,mb] w w11:=C10.trans ((Chg.of_ext hlex).trans (hx11.mono (by simp)))
      have P11:Kp0 rb w w11:=(P10.trans (Kp0.ext hlex)).trans (Kp0.chg hx11 (by simp;omega))
      obtain⟨fa2,fc2,n2,ho11,hfc2,hf11,hom11,hnd2,hcnt2,-,-,m2,hml11⟩:=hld11
      obtain⟨D2,hD2,hown2,hat2⟩:=hom11
      have HAT3:=Lib.hid hat2
      have hs11:=C11.size
      obtain⟨w1',-⟩:=ho11 1 _ rfl
      have lx11:=ho11.lt
      clear hat2 g10 tk10 o1 st10 ix10 C10 P10 q3 z0 p2 lp10 lx10 l10
      go_upto_region 24 with (at_mapUpdate;refine wpList_mapUpdate_own _ rfl _ _ _ 104 rfl 3 4 zou Tryz.underlying104 (plainElem Tryz.prog 4) mb n2 D2 rfl hown2 (by unfold maxLen;omega) _ _ (.int .i64 i) rfl rfl HKY.out (.lit (.bool false)) [] (plainElem_bool Tryz.underlying4 false) ?_;intro w12 hown12 hgrow12)
      have c12:Chg [mb] w11 w12:=Chg.of_grown hgrow12 (fun g hg=>.inl (by injection hg with hg;simp[hg]))
      have om12:OMap w12 mb (n2+1) opn:=by
       have h1:=ztn hD2 HAT3.out hown12
       have h2:(fun k=>if k=i then false else if k=i then true else opn k)=opn:=by
        funext k
        by_cases hk:k=i
        ·subst hk;rw[if_pos rfl];exact HO.out.symm
        ·rw[if_neg hk,if_neg hk]
       rw[h2]at h1
       exact h1
      have ld12:LdSt xb mb w12 files cnt2 dep opn:=⟨fa2,fc2,n2+1,ho11.chg c12 (by simp;omega),hfc2,Dat.Rows.chg hf11 c12 (fun b hb=>by simp;omega),om12,by omega,hcnt2,hmx,hml,m2,c12.cell hml11 (by simp;omega)⟩
      have g12:=g11.low tk11 c12 (by simp;omega) hxr
      have o12:=o11.chg c12 (by simp;omega)
      have st12:=Dat.Rows.chg st11 c12 (fun b hb=>by have h1:=hb.1;simp;omega)
      have ix12:=Dat.Rows.chg ix11 c12 (fun b hb=>by have h1:=hb.1;simp;omega)
      have C12:Chg [rb,nb,xb,mb] w w12:=C11.trans (c12.mono (by simp))
      have P12:Kp0 rb w w12:=P11.trans (Kp0.chg c12 (by simp;omega))
      have hrow12:EntRow w10.heap.size w12 v11 l':=GRow.chg hrow11 c12 (by simp;omega)
      have hrowv:EntRow B w12 (.slice va out.length vc) out:=GRow.chg HROW0.out (Chg.drop (Below.refl _ _) C12 (T:=[rb,xb,mb]) (fun i hi=>by
       simp at hi ⊢
       rcases hi with h|h|h|h
       ·exact .inl (.inl h)
       ·exact .inr (by omega)
       ·exact .inl (.inr (.inl h))
       ·exact .inl (.inr (.inr h)))) (by simp;omega)
      have hvold:∀g,(Value.slice va out.length vc).ownBlock=some g→g<w.heap.size:=fun g hg=>(HROW0.out.own_ge hg).2
      have hs12:=c12.size
      clear hown2 hown12 hgrow12 c12 om12 ho11 hf11 hml11 g11 tk11 o11 st11 ix11 C11 P11 hrow11 w1' HR2 HRD
      obtain⟨p0,pf0⟩:=o12 0 _ rfl
      obtain⟨k0,hk0,kz0,kz1',kz2'⟩:=info_parts zxb
      have hol:=o12.lt
      cases hns:ns with
      |none =>
       have HNS:=Lib.hid hns
       rw[hns]at hin p0 o12 st12 hnsz hnc
       simp only[Option.getD_none,List.length_nil]at p0 hnsz hnc
       clear hns
       obtain⟨a1,c1,hv1,hc1,he1⟩:=hrow12.ents
       subst hv1
       have HE1:=Lib.hid he1
       have HML:=Lib.hid (show(l'.map Ent.dat).length=l'.length by rw[List.length_map])
       obtain⟨-,-,q3,qf3⟩:=id g12
       have hl12:=g12.1.lt
       go_upto_region 32 with fail
       go_wp2_with (at_builtin;rw[←HML.out];refine zco (m:=7) (P:=fun b=>B≤b) (B:=B) (v:=.slice va out.length vc) (l:=out.map Ent.dat) Tryz.underlying45 hk0 kz0 kz1' kz2' rfl (by decide) (by decide) rfl _ _ rfl rfl (PRow.of_grow hrowv) rfl HE1.out (fun e he=>(by obtain⟨x,-,rfl⟩:=List.mem_map.1 he;exact x.dat_length)) (fun b hb _=>⟨by omega,fun e=>by have:=hvold b e;omega⟩) (by rw[List.length_map,HML.out];omega) (by omega) ?_;intro v13 w13 hrow13 hfr13;(have y3:=hfr13.cell q3 (fun e=>by have:=(GRow.own_ge hrowv e).1;simp only at this;omega));(have yf3:=hfr13.chg.frozen q3 (fun hm=>by have:=(GRow.own_ge hrowv (show(Value.slice va out.length vc).ownBlock=some rb by simpa using hm)).1;omega) qf3);(have yl:=zf y3);(obtain⟨a13,c13,hv13,-⟩:=hrow13.form);subst hv13)
       go_returns
       simp only[List.length_append,List.length_map]at hrow13 hfr13
       exact zto (l':=l') (cnt2:=cnt2) hrB hxr hmx hin.out P12 C12 hS10 g12 hrowv hrow13 hfr13 ld12
      |some L =>
       have HNS:=Lib.hid hns
       have HLP:=Lib.hid (zov (hns ▸ HIN.out))
       have hLb:L.length≤8001:=by have:=zmo (hns ▸ HIN.out);omega
       rw[hns]at hin p0 o12 st12 hnsz hnc HIX4 HIX5
       simp only[Option.getD_some]at p0 o12 st12 hnsz hnc HIX4 HIX5
       have hL0:=HLP.out
       clear hns
       obtain⟨a1,c1,hv1,hc1,he1⟩:=hrow12.ents
       subst hv1
       have HE1:=Lib.hid he1
       have hL1:(0:Int)<L.length:=by omega
       clear pf0
       go_upto_region 25 with fail
       go_wp2_with fail
       go_loopw [136] (fun y wr=>∃k:Nat,k≤L.length∧y=.int .i64 k∧Ext w12 wr∧(L.take k).all (fun p=>l'.any fun x=>decide (x.name=p.1))=true) (fun y _=>L.length-(intOf y).toNat)
       case atStart=>exact⟨0,Nat.zero_le _,rfl,Below.refl _ _,rfl⟩
       case round =>
        obtain⟨k,hk,rfl,hxr2,hall⟩:=hrel
        have HALL:=Lib.hid hall
        clear hall
        by_cases hkl:k<L.length
        ·have hk1:(k:Int)<L.length:=by omega
         obtain⟨sb,so,rfl,-,s0,hssz⟩:=(IsStrs.ext st12 hxr2).look (i:=k) (by rw[List.length_map];exact hkl)
         rw[List.getElem_map]at s0
         have HST2:=Lib.hid (zoa (p:=fun p:ByteArray×Int=>l'.any fun x=>decide (x.name=p.1)) hkl)
         have HCF:=Lib.hid (zux (l:=l') (by omega) (c:=c1) (IsEnts.ext HE1.out (hxr2.trans (zb wr (.cells #[.string L[k].1] 9)))) (sb:=wr.heap.size) (nm:=L[k].1) (own1 wr (.string L[k].1) 9 0 _ rfl).1)
         cases hpk:l'.any fun x=>decide (x.name=L[k].1) with
         |true =>
          rw[hpk]at HCF HST2
          clear hpk
          go_wp2_with (go_at_call 150;refine(HCF.out).mono ?_;rintro e w13 ⟨rfl,hx13⟩)
          go_roundw
          case rel=>exact⟨k+1,by omega,by go_num,(hxr2.trans (zb _ _)).trans hx13,by rw[HST2.out,HALL.out];rfl⟩
          case measure=>simp[intOf];omega
         |false =>
          rw[hpk]at HCF
          have HMISS:=Lib.hid (zsm (file:=file) hkl HALL.out hpk)
          have hki:k<ix.length:=by have:=HIX4.out;omega
          obtain⟨ib,io,hia,-⟩:=Dat.Rows.addr ix12 (by rw[List.length_map];omega)
          subst hia
          obtain⟨vs,r1',r2'⟩:=Dat.Rows.at (m:=1) (Dat.Rows.ext ix12 hxr2) (fun e he=>by obtain⟨x,-,rfl⟩:=List.mem_map.1 he;rfl) (i:=k) (by rw[List.length_map];exact hki)
          rw[List.getElem_map]at r2'
          have hvl:=r2'.length
          obtain⟨vi,rfl⟩:∃vi,vs=[vi]:=by match vs,hvl with|[vi],_=>exact⟨vi,rfl⟩
          obtain⟨⟨rfl,-⟩,-⟩:=r2'
          have i0:=r1' 0 _ rfl
          simp only[Nat.mul_one,Nat.add_zero]at i0
          obtain⟨hixl,hixa⟩:=HIX5.out k hki hkl
          have HIA:=Lib.hid hixa
          have hki2:(k:Int)<ix.length:=by omega
          generalize hik:ix[k]=ik at *
          clear hpk r1' hixa ix12
          go_wp2_with (first
           |(go_at_call 150;refine(HCF.out).mono ?_;rintro e w13 ⟨rfl,hx13⟩;have i1:=((zb _ _).trans hx13).cell i0)
           |(go_at_call 147;refine(HST.out _ _ _ ik 244 hixl (g12.ext ((hxr2.trans (zb _ _)).trans hx13))).mono ?_;rintro e w14 ⟨⟨older,rfl,hol2⟩,hx14⟩))
          exact⟨rfl,IncPost.fault (S:=[rb,nb,xb,mb]) (hin.out.trans (by simp only[Out.bind_ok,HMISS.out,Out.bind_flt];rfl)) (C12.trans (Chg.of_ext (((hxr2.trans (zb _ _)).trans hx13).trans hx14))) hS10 ⟨older,rfl,hol2⟩ (by rw[HIA.out])⟩
        ·have hk1:¬(k:Int)<L.length:=by omega
         have hke:k=L.length:=by omega
         have HCH:=Lib.hid (zu4 (file:=file) (l:=l') (L:=L) (by have:=HALL.out;rw[hke,List.take_length]at this;exact this))
         have hsr2:=hxr2.size
         have hv11:∀g,(Value.slice a1 l'.length c1).ownBlock=some g→w10.heap.size≤g∧g<w12.heap.size:=fun g hg=>GRow.own_ge hrow12 hg
         have HDL:=Lib.hid (zu3 (l:=l') (by omega) (GRow.ext hrow12 hxr2) (nc:=nc) (na:=na) (ns:=L.map Prod.fst) (by rw[List.length_map];exact hxr2.cell p0) (IsStrs.ext st12 hxr2) (by rw[List.length_map];omega) (by omega) (fun b hb e=>by have:=(hv11 b e).1;have h2:b<w10.heap.size:=hb.2;omega))
         have o13:=o12.ext hxr2
         obtain⟨p1,-⟩:=o13 0 _ rfl
         have hrowP:PRow 7 53 B (fun b=>B≤b∧b<w.heap.size) wr (.slice va out.length vc) (out.map Ent.dat):=by
          have h0:PRow 7 53 B (fun b=>B≤b∧b<w.heap.size) w (.slice va out.length vc) (out.map Ent.dat):=(PRow.of_grow HROW0.out).mono fun b h1 h2=>⟨h1,h2⟩
          refine(h0.chg (Chg.drop (Below.refl _ _) C12 (T:=[rb,xb,mb]) (fun i hi=>by
           simp at hi ⊢
           rcases hi with h|h|h|h
           ·exact .inl (.inl h)
           ·exact .inr (by omega)
           ·exact .inl (.inr (.inl h))
           ·exact .inl (.inr (.inr h)))) fun i hi=>?_).ext hxr2
          have hiB:i<B:=by simp at hi;omega
          exact⟨fun e=>by have:=(GRow.own_ge HROW0.out e).1;omega,fun h=>by omega⟩
         have g13:=g12.ext hxr2
         have ld13:=ld12.ext hxr2
         have C13:=C12.trans (Chg.of_ext (S:=[rb,nb,xb,mb]) hxr2)
         have P13:=P12.trans (Kp0.ext hxr2)
         clear hke
         go_upto_region 32 with (go_at_call 152;refine(HDL.out).mono ?_;rintro e w13 ⟨⟨v13,rfl,hrow14,hown14⟩,hx14⟩)
         have hS14:∀i∈(Value.slice a1 l'.length c1).ownBlock.toList,w10.heap.size≤i:=fun i hi=>(hv11 i (by simpa using hi)).1
         have g14:=g13.chg hx14 (fun b hb=>by have:=hS14 b hb;omega)
         have ld14:=ld13.chg hx14 (fun b hb=>by have:=hS14 b hb;omega)
         have P14:=P13.trans (Kp0.chg hx14 (fun hm=>by have:=hS14 rb hm;omega))
         have C14:Chg [rb,nb,xb,mb] w w13:=Chg.drop (Below.refl _ _) ((C13.mono (T:=rb::nb::xb::mb::(Value.slice a1 l'.length c1).ownBlock.toList) (fun k hk=>by simp at hk ⊢;omega)).trans (hx14.mono (fun k hk=>by simp at hk ⊢;exact .inr (.inr (.inr (.inr hk)))))) (fun i hi=>by
          simp at hi ⊢
          rcases hi with h|h|h|h|h
          ·exact .inl (.inl h)
          ·exact .inl (.inr (.inl h))
          ·exact .inl (.inr (.inr (.inl h)))
          ·exact .inl (.inr (.inr (.inr h)))
          ·exact .inr (by have:=(hv11 i h).1;omega))
         have hrowQ:=hrowP.chg hx14 (fun i hi=>by have h1:=hS14 i hi;exact⟨fun e=>by have:=hvold i e;omega,fun h=>by omega⟩)
         obtain⟨a2,c2,hv2,hc2,he2⟩:=hrow14.ents
         subst hv2
         have HE2:=Lib.hid he2
         have hfl2:(l'.filter fun x=>inB (L.map Prod.fst) x.name).length≤l'.length:=List.length_filter_le _ _
         have HIN2:=Lib.hid (hin.out.trans (by simp only[Out.bind_ok,HCH.out]:_=Out.ok (((l'.filter fun x=>inB (L.map Prod.fst) x.name),cnt2),r5)))
         generalize (l'.filter fun x=>inB (L.map Prod.fst) x.name)=l2 at *
         have HML:=Lib.hid (show(l2.map Ent.dat).length=l2.length by rw[List.length_map])
         obtain⟨-,-,q3,qf3⟩:=id g14
         have hl14:=g14.1.lt
         have hsz14:=C14.size
         clear hx14
         go_wp2_with (at_builtin;rw[←HML.out];refine zco (m:=7) (P:=fun b=>B≤b) (B:=B) (v:=.slice va out.length vc) (l:=out.map Ent.dat) Tryz.underlying45 hk0 kz0 kz1' kz2' rfl (by decide) (by decide) rfl _ _ rfl rfl (hrowQ.mono fun b h _=>h.1) rfl HE2.out (fun e he=>(by obtain⟨x,-,rfl⟩:=List.mem_map.1 he;exact x.dat_length)) (fun b hb _=>⟨by omega,fun e=>by have:=hvold b e;omega⟩) (by rw[List.length_map,HML.out];omega) (by omega) ?_;intro v15 w15 hrow15 hfr15;(have y3:=hfr15.cell q3 (fun e=>by have:=(GRow.own_ge hrowv e).1;simp only at this;omega));(have yf3:=hfr15.chg.frozen q3 (fun hm=>by have:=(GRow.own_ge hrowv (show(Value.slice va out.length vc).ownBlock=some rb by simpa using hm)).1;omega) qf3);(have yl:=zf y3);(obtain⟨a15,c15,hv15,-⟩:=hrow15.form);subst hv15)
         go_returns
         simp only[List.length_append,List.length_map]at hrow15 hfr15
         exact zto (l':=l2) (cnt2:=cnt2) hrB hxr hmx HIN2.out P14 C14 hS10 g14 ((hrowQ.mono fun b h _=>h.1).grow fun _ h=>h) hrow15 hfr15 ld14
open Go.ChangeShapes Go.WideShapes Go.ChangeAt Go.RowKit
theorem zzz (pb:Addr) (w:World) :
  CallsD Tryz.prog 109 #[.pointer (some pb)] .returning w fun e u' w'=>e=.returned (.tuple #[])∧u'=.returning∧w'=w:=by
 refine callsD_of_wpS Tryz.func109 rfl fun c₀ cs hu=>?_
 simp only[Tryz.ntmps109,List.size_toArray,List.length_cons,List.length_nil,Nat.reduceAdd,Nat.reduceSub,Array.replicate_succ,Array.replicate_zero,List.push_toArray,List.append_toArray,List.nil_append,List.cons_append]
 apply wpS_seq
 apply wpS_region
 simp[wpOpsS,go_sem,recoverD,hu,Exit.thenS]
 refine wpS_of_wp (wp_mono (Q:=bodyPost Tryz.prog Tryz.f109 fun e w'=>e=.returned (.tuple #[])∧w'=w) ?_ ?_)
 ·clear hu
  go_wp2
  go_returns
  exact⟨rfl,rfl⟩
 ·intro e a' w' h
  cases e with
  |normal=>obtain⟨hd,v,hr,h1,h2⟩:=h;injection h1 with h1;exact⟨hd,.returning,by rw[←hu],v,hr,by rw[h1],rfl,h2⟩
  |ret=>obtain⟨hd,v,hr,h1,h2⟩:=h;injection h1 with h1;exact⟨hd,.returning,by rw[←hu],v,hr,by rw[h1],rfl,h2⟩
  |exit i=>exact h.elim
  |goto t=>exact h.elim
  |panic ch=>obtain⟨_,h1,_⟩:=h;cases h1
  |outgrown=>obtain⟨h1,_⟩:=h;cases h1
theorem zqs (x:Value) (w:World):(Instr.typeAssert (.iface 102 x) 20 122 true).run Tryz.prog w=.ok (.tuple #[.agg #[.int .i64 0],.bool false]) w:=by kernel_rfl
theorem zxl {l ks:List Tok}(hl:l.length≤1073741824){rb:Nat}{w:World}{file:Int}{v:Value}(h:PRd rb l w ks file v) (pb n:Nat) (hn:n<l.length) (older:List PanicEntry) (hp:w.cell? ⟨pb,0,none⟩=some (.pointer (some ⟨rb,0,none⟩))) :
  CallsD Tryz.prog 109 #[.pointer (some ⟨pb,0,none⟩)] (.panicking (zch n::older)) w fun e u' w' =>
   e=.panicked [zei ⟨file,(zgb l n).at',240⟩]∧u'=.panicking ({ zch n with recovered:=true }::older)∧Ext w w':=by
 have hta:=zi8
 have HPL:=Lib.hid (fun w' (hx:Ext w w')=>zp4 hl (h.ext hx) hn)
 unfold zch
 refine callsD_of_wpS Tryz.func109 rfl fun c₀ cs hu=>?_
 simp only[Tryz.ntmps109,List.size_toArray,List.length_cons,List.length_nil,Nat.reduceAdd,Nat.reduceSub,Array.replicate_succ,Array.replicate_zero,List.push_toArray,List.append_toArray,List.nil_append,List.cons_append]
 apply wpS_seq
 apply wpS_region
 simp[wpOpsS,go_sem,recoverD,hu,Exit.thenS]
 refine wpS_of_wp (wp_mono (Q:=bodyPost Tryz.prog Tryz.f109 fun e w'=>e=.panicked [zei ⟨file,(zgb l n).at',240⟩]∧Ext w w') ?_ ?_)
 ·clear hu
  have hp1:=(zb w (.cells #[.int .i64 n] 122)).cell hp
  have hplt:=zf hp1
  go_wp2_with (go_at_call 110;refine(HPL.out _ (zb _ _)).mono ?_;rintro e w1 ⟨rfl,hx1⟩)
  exact⟨rfl,rfl,(zb _ _).trans hx1⟩
 ·intro e a' w' h
  cases e with
  |normal=>obtain⟨_,_,_,h1,_⟩:=h;cases h1
  |ret=>obtain⟨_,_,_,h1,_⟩:=h;cases h1
  |exit i=>exact h.elim
  |goto t=>exact h.elim
  |panic ch=>obtain⟨hd,h1,h2⟩:=h;exact⟨hd,_,rfl,h1,rfl,h2⟩
  |outgrown=>obtain⟨h1,_⟩:=h;cases h1
theorem zxm (t:Flt) (pb:Addr) (older:List PanicEntry) (w:World) :
  CallsD Tryz.prog 109 #[.pointer (some pb)] (.panicking (zei t::older)) w fun e u' w' =>
   e=.panicked [zei t]∧u'=.panicking ({ zei t with recovered:=true }::older)∧Ext w w':=by
 have hta:=zqs
 unfold zei
 refine callsD_of_wpS Tryz.func109 rfl fun c₀ cs hu=>?_
 simp only[Tryz.ntmps109,List.size_toArray,List.length_cons,List.length_nil,Nat.reduceAdd,Nat.reduceSub,Array.replicate_succ,Array.replicate_zero,List.push_toArray,List.append_toArray,List.nil_append,List.cons_append]
 apply wpS_seq
 apply wpS_region
 simp[wpOpsS,go_sem,recoverD,hu,Exit.thenS]
 refine wpS_of_wp (wp_mono (Q:=bodyPost Tryz.prog Tryz.f109 fun e w'=>e=.panicked [zei t]∧Ext w w') ?_ ?_)
 ·clear hu
  go_wp2
  exact⟨rfl,rfl,Below.refl _ _⟩
 ·intro e a' w' h
  cases e with
  |normal=>obtain⟨_,_,_,h1,_⟩:=h;cases h1
  |ret=>obtain⟨_,_,_,h1,_⟩:=h;cases h1
  |exit i=>exact h.elim
  |goto t=>exact h.elim
  |panic ch=>obtain⟨hd,h1,h2⟩:=h;exact⟨hd,_,rfl,h1,rfl,h2⟩
  |outgrown=>obtain⟨h1,_⟩:=h;cases h1
theorem ztp {rd:Nat→Nat→Nat→Out (List Ent×Nat)}{files:List (ByteArray×ByteArray)}{opn:Nat→Bool}{l:List Tok}{file:Int}{ahead cnt:Nat}(hrd:∀(i n c:Nat) (x:List Ent×Nat),n≤200→rd i n c=.ok x→n+x.1.length≤200){out l':List Ent}{c':Nat}{r r':List Tok}(ho:ahead+out.length≤200) (hy:incR rd files opn l file (ahead+out.length) cnt r=.ok ((l',c'),r')):ahead+(out++l').length≤200:=by
 unfold incR at hy
 cases hh:zau r with
 |bad k=>rw[hh]at hy;cases hy
 |ok z k =>
  rw[hh,Rd.out_ok]at hy
  split at hy
  ·cases hy
  ·split at hy
   ·cases hy
   ·split at hy
    ·cases hy
    ·obtain⟨q,hq,hy⟩:=Out.bind_eq_ok hy
     obtain⟨m,hm,hy⟩:=Out.bind_eq_ok hy
     injection hy with hy
     injection hy with hy _
     injection hy with hy _
     subst hy
     have h5:=hrd _ _ _ _ ho hq
     have h6:m.length≤q.1.length:=by
      unfold zhi at hm
      split at hm
      ·injection hm with hm;subst hm;exact Nat.le_refl _
      ·split at hm
       ·cases hm
       ·injection hm with hm;subst hm;exact List.length_filter_le _ _
     simp;omega
theorem ziy {rd:Nat→Nat→Nat→Out (List Ent×Nat)}{files:List (ByteArray×ByteArray)}{opn:Nat→Bool}{l:List Tok}{file:Int}{ahead:Nat}(hE:Ends l) (hrd:∀(i n c:Nat) (x:List Ent×Nat),n≤200→rd i n c=.ok x→n+x.1.length≤200) :
  ∀(f:Nat) (ks:List Tok) (out:List Ent) (cnt:Nat) (x:List Ent×Nat),ks <:+ l→Ends ks→ahead+out.length≤200→zap rd files opn l file ahead f ks out cnt=.ok x→ahead+x.1.length≤200
 |0,_,_,_,_,_,_,_,h=>by cases h
 |f+1,ks,out,cnt,x,hks,hke,ho,h=>by
  unfold zap at h
  split at h
  ·injection h with h;subst h;exact ho
  ·rename_i h7
   have hks2:∃t r,ks=t::r∧Ends r:=by
    cases ks with
    |nil=>exact absurd rfl h7
    |cons t r=>exact⟨t,r,rfl,hke.tail h7⟩
   obtain⟨t,r,rfl,her⟩:=hks2
   have hr:r <:+ l:=(List.suffix_cons t r).trans hks
   split at h
   ·obtain⟨y,hy,h⟩:=Out.bind_eq_ok h
    obtain⟨e,r'⟩:=y
    obtain⟨h1,h2,h3,h4⟩:=zgv hE hr her hy
    exact ziy hE hrd f r' (out++[e]) cnt x (h1.trans hr) h3 (by simp;omega) h
   ·split at h
    ·obtain⟨y,hy,h⟩:=Out.bind_eq_ok h
     obtain⟨⟨l',c'⟩,r'⟩:=y
     obtain⟨h1,h2,h3⟩:=zn8 her hy
     refine ziy hE hrd f r' (out++l') c' x (h1.trans hr) h3 ?_ h
     simp only[List.tail_cons]at hy
     exact ztp hrd ho hy
    ·cases h
theorem zlz {files:List (ByteArray×ByteArray)}:∀(d:Nat) (opn:Nat→Bool) (file:Int) (s:ByteArray) (ahead cnt:Nat) (x:List Ent×Nat),ahead≤200→zb8 files d opn file s ahead cnt=.ok x→ahead+x.1.length≤200
 |0,_,_,_,_,_,_,_,h=>by cases h
 |d+1,opn,file,s,ahead,cnt,x,ha,h=>by
  unfold zb8 at h
  split at h
  ·cases h
  ·rename_i h0
   have hE:=zfe (s:=s) (Decidable.not_not.1 h0)
   exact ziy hE (fun i n c x hn hx=>zlz d _ _ _ n c x hn hx) _ _ [] cnt x (List.suffix_refl _) hE (by simpa using ha) h
def shut (n:Nat) (opn:Nat→Bool):Nat:=(List.range n).countP fun i=>!opn i
theorem zqt {α:Type}{p q:α→Bool}:∀ {l:List α},(∀x∈l,p x=true→q x=true)→(∃x∈l,q x=true∧p x=false)→l.countP p<l.countP q
 |[],_,h=>by obtain⟨x,hx,-⟩:=h;cases hx
 |a::l,hpq,h=>by
  have hmono:l.countP p≤l.countP q:=List.countP_mono_left fun x hx=>hpq x (by simp[hx])
  obtain⟨x,hx,hq,hp⟩:=h
  rw[List.countP_cons,List.countP_cons]
  rcases List.mem_cons.1 hx with rfl|hx
  ·rw[hp,hq];simp;omega
  ·have:=zqt (l:=l) (fun x hx=>hpq x (by simp[hx])) ⟨x,hx,hq,hp⟩
   cases hpa:p a with
   |false=>simp;split<;>omega
   |true=>rw[hpq a (by simp) hpa];simp;omega
theorem z1k {n i:Nat}{opn:Nat→Bool}(hi:i<n) (ho:opn i=false):shut n (fun k=>if k=i then true else opn k)<shut n opn:=by
 unfold shut
 refine zqt (fun x _ h=>?_) ⟨i,by simpa using hi,by simp[ho],by simp⟩
 by_cases hx:x=i
 ·subst hx;simp at h
 ·simpa[hx]using h
theorem z1l (n:Nat) (opn:Nat→Bool):shut n opn≤n:=by
 unfold shut
 have:=List.countP_le_length (p:=fun i=>!opn i) (l:=List.range n)
 simpa using this
theorem z18 (opn:Nat→Bool) (i:Nat):(fun k=>decide (k=i) || opn k)=fun k=>if k=i then true else opn k:=by
 funext k
 by_cases hk:k=i<;>simp[hk]
theorem zqu {l:List Ent}(hl:l.length≤1048576) (hs:∀x∈l,x.form.size≤1048576){P:Nat→Prop}{w:World}{a:Option Addr}{c:Nat}(h:IsEnts P w a l) :
  Calls Tryz.prog 37 #[.slice a l.length c] w fun e w'=>e=.returned (.tuple #[.string (zcd l).1,.int .i64 (zcd l).2])∧Ext w w':=by
 have HI:=Lib.hid h
 clear h
 by_cases hlong:200<l.length
 ·have hlong':(200:Int)<(l.length:Nat):=by omega
  rw[zna hlong]
  go_enter Tryz.func37,Tryz.ntmps37
  go_wp2_with fail
  go_ret2
  exact⟨rfl,Below.refl _ _⟩
 have hlong':¬(200:Int)<(l.length:Nat):=by omega
 have HLO:=Lib.hid hlong
 clear hlong
 go_enter Tryz.func37,Tryz.ntmps37
 go_wp2_with fail
 go_loopw [4,5] (fun s i wr=>∃k:Nat,k≤l.length∧i=.int .i64 k∧s=.string ⟨(zb0 (l.take k)).toArray⟩∧zaq (l.take k)=none∧(zb0 (l.take k)).length≤k * 70000000∧Ext w wr) (fun _ i _=>l.length-(intOf i).toNat)
 case atStart=>exact⟨0,Nat.zero_le _,rfl,rfl,rfl,by simp[zb0],Below.refl _ _⟩
 case round =>
  obtain⟨k,hkk,rfl,hsv,hfb,hln,hxr⟩:=hrel
  generalize u4=sv at hsv ⊢
  have HFB:=Lib.hid hfb
  clear hfb
  by_cases hkl:k<l.length
  ·have hkl':(k:Int)<l.length:=by omega
   obtain⟨b,o,x0,x1,x2,x3,rfl,-,⟨m0,m1,m2⟩,⟨m3,m4,m5,m6⟩,hi⟩:=(HI.out.ext hxr).look hkl
   have hz:=hs _ (List.getElem_mem hkl)
   have HST:=Lib.hid (zm9 hkl)
   have HBS:=Lib.hid (zeu hkl HFB.out)
   have HBA:=Lib.hid (fun h=>zp6 HLO.out hkl HFB.out h)
   have HC:=Lib.hid (fun w' (hx:Ext wr w')=>zlv l[k] _ w' _ _ _ _ (hi.ext hx) (by omega))
   have HT:=Lib.hid (fun w' (hx:Ext wr w')=>zr4 l[k].form (by omega) _ w' _ _ _ _ (hi.2.2.ext hx))
   have HQ:=Lib.hid (zha l[k].name hi.1)
   obtain⟨p1,c1,p2,c2,p3,c3,rfl,rfl,rfl,rfl,-⟩:=hi.2.2.form
   unfold entV at HC
   clear hi
   generalize l[k]=x at *
   by_cases hck:x.check=0
   ·have HJ:=Lib.hid (zzf (zb0 (l.take k)) x (zb1 hck).2.2.1)
    have HCK:=Lib.hid hck
    obtain⟨z1,z2,z3,-⟩:=zb1 hck
    have hzn:=zgw x.name
    have hzm:x.name.size≤40:=by unfold named at z1;rw[Bool.and_eq_true,decide_eq_true_eq]at z1;exact z1.1.2
    have hzr:x.role.size≤18:=zir (by unfold zbx at z2;rw[Bool.and_eq_true]at z2;exact z2.1)
    have hzf:=znb z3
    have hxl:=zwl hck hz
    rw[hck]at HC
    have hT0:(⟨(zb0 (l.take k)).toArray⟩:ByteArray).size≤k * 70000000:=by show(zb0 (l.take k)).toArray.size≤_;simpa using hln
    rw[show(zek x.form).2=0 by unfold zek;rw[if_neg (fun h=>h z3)]]at HT
    obtain⟨qt,hqt⟩:∃qt,qt=zay x.name:=⟨_,rfl⟩
    obtain⟨ft,hft⟩:∃ft,ft=(zek x.form).1:=⟨_,rfl⟩
    obtain⟨sT,hsT⟩:∃sT:ByteArray,sT=⟨(zb0 (l.take k)).toArray⟩:=⟨_,rfl⟩
    rw[←hqt]at HQ HJ hzn
    rw[←hft]at HT HJ hzf
    rw[←hsT]at hsv HJ hT0
    subst hsv
    have hk200:k≤200:=by have:=HLO.out;omega
    have hT1:sT.size≤14000000000:=by omega
    have hf1:ft.size≤70000000:=by omega
    have hq1:qt.1.size≤42:=by omega
    have hckz:(x.check != 0)=false:=by rw[hck];rfl
    clear hck z1 z2 z3 hT0 hzf hzn hzm hz hqt hft hsT
    have hz0:¬ 9223372036854775807<sT.size+3:=by omega
    have hy0:sT.size+3≤9223372036854775807:=by omega
    have hz1:¬ 9223372036854775807<sT.size+3+1:=by omega
    have hy1:sT.size+3+1≤9223372036854775807:=by omega
    have hz2:¬ 9223372036854775807<sT.size+4:=by omega
    have hy2:sT.size+4≤9223372036854775807:=by omega
    have hz3:¬ 9223372036854775807<sT.size+4+qt.1.size:=by omega
    have hy3:sT.size+4+qt.1.size≤9223372036854775807:=by omega
    have hz4:¬ 9223372036854775807<sT.size+3+1+qt.1.size:=by omega
    have hy4:sT.size+3+1+qt.1.size≤9223372036854775807:=by omega
    have hz5:¬ 9223372036854775807<sT.size+4+qt.1.size+2:=by omega
    have hy5:sT.size+4+qt.1.size+2≤9223372036854775807:=by omega
    have hz6:¬ 9223372036854775807<sT.size+3+1+qt.1.size+2:=by omega
    have hy6:sT.size+3+1+qt.1.size+2≤9223372036854775807:=by omega
    have hz7:¬ 9223372036854775807<sT.size+4+qt.1.size+2+x.role.size:=by omega
    have hy7:sT.size+4+qt.1.size+2+x.role.size≤9223372036854775807:=by omega
    have hz8:¬ 9223372036854775807<sT.size+3+1+qt.1.size+2+x.role.size:=by omega
    have hy8:sT.size+3+1+qt.1.size+2+x.role.size≤9223372036854775807:=by omega
    have hz9:¬ 9223372036854775807<sT.size+4+qt.1.size+2+x.role.size+2:=by omega
    have hy9:sT.size+4+qt.1.size+2+x.role.size+2≤9223372036854775807:=by omega
    have hz10:¬ 9223372036854775807<sT.size+3+1+qt.1.size+2+x.role.size+2:=by omega
    have hy10:sT.size+3+1+qt.1.size+2+x.role.size+2≤9223372036854775807:=by omega
    have hz11:¬ 9223372036854775807<sT.size+4+qt.1.size+2+x.role.size+2+ft.size:=by omega
    have hy11:sT.size+4+qt.1.size+2+x.role.size+2+ft.size≤9223372036854775807:=by omega
    have hz12:¬ 9223372036854775807<sT.size+3+1+qt.1.size+2+x.role.size+2+ft.size:=by omega
    have hy12:sT.size+3+1+qt.1.size+2+x.role.size+2+ft.size≤9223372036854775807:=by omega
    have hz13:¬ 9223372036854775807<sT.size+4+qt.1.size+2+x.role.size+2+ft.size+3:=by omega
    have hy13:sT.size+4+qt.1.size+2+x.role.size+2+ft.size+3≤9223372036854775807:=by omega
    have hz14:¬ 9223372036854775807<sT.size+3+1+qt.1.size+2+x.role.size+2+ft.size+3:=by omega
    have hy14:sT.size+3+1+qt.1.size+2+x.role.size+2+ft.size+3≤9223372036854775807:=by omega
    cases hcn:x.cnf with
    |true =>
     rw[hcn]at m0 HC HJ
     clear hcn
     go_wp2_with (first
      |(go_at_call 20;refine(HT.out _ hx3).mono ?_;rintro e w5 ⟨rfl,hx5⟩;replace m2:=hx5.cell m2;have lm2:=zf m2)
      |(go_at_call 78;refine(HQ.out _).mono ?_;rintro e w4 ⟨rfl,hw4⟩;subst hw4)
      |(go_at_call 34;refine(HC.out _ (Below.refl _ _)).mono ?_;rintro e w3 ⟨rfl,hx3⟩;replace m0:=hx3.cell m0;replace m1:=hx3.cell m1;replace m2:=hx3.cell m2;replace m3:=hx3.cell m3;replace m4:=hx3.cell m4;replace m5:=hx3.cell m5;replace m6:=hx3.cell m6;have lm0:=zf m0))
     go_roundw
     case rel=>exact⟨k+1,by omega,by go_num,by rw[HST.out,HJ.out];rfl,HBS.out HCK.out,by rw[HST.out,List.length_append];omega,(hxr.trans hx3).trans hx5⟩
     case measure=>simp[intOf];omega
    |false =>
     rw[hcn]at m0 HC HJ
     clear hcn
     go_wp2_with (first
      |(go_at_call 20;refine(HT.out _ hx3).mono ?_;rintro e w5 ⟨rfl,hx5⟩;replace m2:=hx5.cell m2;have lm2:=zf m2)
      |(go_at_call 78;refine(HQ.out _).mono ?_;rintro e w4 ⟨rfl,hw4⟩;subst hw4)
      |(go_at_call 34;refine(HC.out _ (Below.refl _ _)).mono ?_;rintro e w3 ⟨rfl,hx3⟩;replace m0:=hx3.cell m0;replace m1:=hx3.cell m1;replace m2:=hx3.cell m2;replace m3:=hx3.cell m3;replace m4:=hx3.cell m4;replace m5:=hx3.cell m5;replace m6:=hx3.cell m6;have lm0:=zf m0))
     go_roundw
     case rel=>exact⟨k+1,by omega,by go_num,by rw[HST.out,HJ.out];rfl,HBS.out HCK.out,by rw[HST.out,List.length_append];omega,(hxr.trans hx3).trans hx5⟩
     case measure=>simp[intOf];omega
   ·have hckz:(x.check != 0)=true:=by rw[bne_iff_ne];exact hck
    have HBB:=Lib.hid (HBA.out hck)
    subst hsv
    clear hck HT HQ
    go_wp2_with (go_at_call 34;refine(HC.out _ (Below.refl _ _)).mono ?_;rintro e w3 ⟨rfl,hx3⟩)
    go_ret2
    rw[HBB.out]
    exact⟨rfl,hxr.trans hx3⟩
  ·have hkl':¬(k:Int)<l.length:=by omega
   have hke:k=l.length:=by omega
   have hfb:=HFB.out
   rw[hke,List.take_length]at hfb hsv
   have HEN:=Lib.hid (zlb HLO.out hfb)
   clear hke hln
   obtain⟨T,hT⟩:∃T,T=zb0 l:=⟨_,rfl⟩
   rw[←hT]at hsv HEN
   clear hT hfb
   have hsz:(⟨T.toArray⟩:ByteArray).size=T.length:=by show T.toArray.size=_;simp
   by_cases h8:8000<T.length
   ·have h8':(8000:Int)<(T.length:Nat):=by omega
    have HE2:=Lib.hid (HEN.out.trans (if_pos h8))
    have hq:(8000:Int)<((⟨T.toArray⟩:ByteArray).size:Nat):=by rw[hsz];exact h8'
    subst hsv
    clear h8
    go_wp2_with fail
    go_ret2
    rw[HE2.out]
    exact⟨rfl,hxr⟩
   ·have h8':¬(8000:Int)<(T.length:Nat):=by omega
    have HE2:=Lib.hid (HEN.out.trans (if_neg h8))
    have hq:¬(8000:Int)<((⟨T.toArray⟩:ByteArray).size:Nat):=by rw[hsz];exact h8'
    subst hsv
    clear h8
    go_wp2_with fail
    go_ret2
    rw[HE2.out]
    exact⟨rfl,hxr⟩
theorem zxn (f:Fm):zml f:=by
 induction f using Fm.ind with
 |h o v t l ih =>
  intro hm hs P w0 w b acc x y z u ht hx0 hb0 hbw hbld hlen
  simp only[Fm.may,Bool.and_eq_true]at hm
  obtain⟨hm,hms⟩:=hm
  rw[Fm.mays_all,List.all_eq_true]at hms
  simp only[Fm.size]at hs
  obtain⟨hv,htm,ht3,hc⟩:=za6 hm
  rcases hc with ⟨ho,rfl,rfl,hn⟩|⟨rfl,rfl,h1,hn⟩|⟨rfl,rfl,h1,hn⟩|⟨rfl,rfl,rfl,hn⟩|⟨ho,rfl,rfl,hn⟩|⟨ho,rfl,rfl,hn⟩|⟨ho,h1,rfl,hn⟩
  ·rcases ho with rfl|rfl
   ·exact zw1 ht hx0 hb0 hbw hbld hlen
   ·exact zw2 ht hx0 hb0 hbw hbld hlen
  ·exact zw3 ht hx0 hb0 hbw hbld hlen h1 htm (by omega)
  ·exact zw4 ht hx0 hb0 hbw hbld hlen h1 htm (by omega)
  ·by_cases h4:l.head?.map Fm.op=some 4
   ·match l,hn with
    |[g],_ =>
    have hgm:=hms g (by simp)
    obtain⟨og,vg,tg,lg⟩:=g
    simp only[List.head?_cons,Option.map_some,Option.some.injEq,Fm.op]at h4
    subst h4
    simp only[Fm.may,Bool.and_eq_true]at hgm
    obtain⟨-,ht',-,hc'⟩:=za6 hgm.1
    exact zsg ht hx0 hb0 hbw hbld hlen rfl (by omega) ht' (by simp only[Fm.sizes,Fm.size]at hs;omega)
   ·exact zw5 ht hx0 hb0 hbw hbld hlen hn ih hms (by omega) h4
  ·rcases ho with rfl|rfl
   ·exact zw6 ht hx0 hb0 hbw hbld hlen ih hms (by omega)
   ·exact zw7 ht hx0 hb0 hbw hbld hlen ih hms (by omega)
  ·rcases ho with rfl|rfl|rfl
   ·exact zw8 ht hx0 hb0 hbw hbld hlen ih hms (by omega)
   ·exact zw9 ht hx0 hb0 hbw hbld hlen ih hms (by omega)
   ·exact zus ht hx0 hb0 hbw hbld hlen ih hms (by omega)
  ·rcases ho with rfl|rfl
   ·exact zut ht hx0 hb0 hbw hbld hlen hn (by omega) (by omega) ih hms (by omega)
   ·exact zuu ht hx0 hb0 hbw hbld hlen hn (by omega) (by omega) ih hms (by omega)
theorem ztq (T:TypeId) (w:World) (b:Nat) (h:w.heap[b]?=some (.cells #[.pointer none,.slice none 0 0] T (0,0))):BldT T b [] w :=
 .inl ⟨Nat.le_refl _,_,h,⟨rfl,.inl ⟨rfl,rfl⟩⟩,by simp[Value.ownBlock]⟩
theorem Ex.text_ne {x:Ex}(h:x.may=true):x.text≠[]:=by
 obtain⟨v,n,l⟩:=x
 have key:(if v then n.data.toList else (zay n).1.data.toList)≠[]:=by
  cases v with
  |true =>
   simp only[Ex.may,if_true,Bool.and_eq_true]at h
   have h2:=h.2;unfold zcg at h2;rw[Bool.and_eq_true]at h2
   have:=(zee h2.1).1
   simp only[if_true]
   intro he
   have e:n.data.toList.length=n.size:=by simp
   rw[he]at e;simp at e;omega
  |false =>
   simp only[Ex.may,Bool.false_eq_true,if_false,Bool.and_eq_true]at h
   have:=(zee h.1).1
   simp only[Bool.false_eq_true,if_false]
   unfold zay
   rw[if_pos h.1]
   split
   ·intro he
    have e:n.data.toList.length=n.size:=by simp
    simp only at he
    rw[he]at e;simp at e;omega
   ·intro he
    have:=congrArg List.length he
    simp at this
 simp only[Ex.text]
 intro he
 exact key (List.append_eq_nil_iff.1 he).1
theorem Fm.text_ne (f:Fm):f.may=true→f.text≠[]:=by
 induction f using Fm.ind with
 |h o v t l ih =>
  intro h
  simp only[Fm.may,Bool.and_eq_true]at h
  obtain⟨hm,hms⟩:=h
  rw[Fm.mays_all,List.all_eq_true]at hms
  obtain⟨hv,htm,ht3,hc⟩:=za6 hm
  have hsg:o=11∨o=12→ze3 o≠[]:=by rintro(rfl|rfl)<;>decide
  have hrow:∀sep,l≠[]→Fm.units true sep l≠[]:=by
   intro sep hl
   match l,hl with
   |e::l',_ =>
    intro he
    simp only[Fm.units,if_true,List.nil_append,List.append_eq_nil_iff]at he
    have h1:=he.1
    unfold zbe at h1
    split at h1
    ·cases h1
    ·exact ih e (by simp) (hms e (by simp)) h1
  rcases hc with ⟨ho,rfl,rfl,hn⟩|⟨rfl,rfl,h1,hn⟩|⟨rfl,rfl,h1,hn⟩|⟨rfl,rfl,rfl,hn⟩|⟨ho,rfl,rfl,hn⟩|⟨ho,rfl,rfl,hn⟩|⟨ho,h1,rfl,hn⟩
  ·rcases ho with rfl|rfl
   ·rw[Fm.text1.1];decide
   ·rw[Fm.text2.1];decide
  ·rw[Fm.text3.1]
   match t,h1 with
   |[e],_=>exact Ex.text_ne (htm e (by simp))
  ·rw[Fm.text4.1]
   match t,h1 with
   |[e,e'],_=>simp[ze2,bEq]
  ·rw[Fm.text5.1]
   split
   ·rename_i h4
    match l,hn with
    |[g],_ =>
    obtain⟨og,vg,tg,lg⟩:=g
    simp only[List.head?_cons,Option.map_some,Option.some.injEq,Fm.op]at h4
    subst h4
    have hgm:=hms (.mk 4 vg tg lg) (by simp)
    simp only[Fm.may,Bool.and_eq_true]at hgm
    obtain⟨-,ht',-,hc'⟩:=za6 hgm.1
    have h2:tg.length=2:=by omega
    match tg,h2 with
    |[e,e'],_=>simp[ze2,bNe,Fm.terms]
   ·simp[bNot]
  ·rw[(Fm.text6 (by omega) (by omega)).1]
   exact hrow _ (fun h=>by rw[h]at hn;simp at hn)
  ·rw[(Fm.text6 (by omega) (by omega)).1]
   exact hrow _ (fun h=>by rw[h]at hn;simp at hn)
  ·rw[(Fm.text11 (by omega)).1]
   intro he
   exact hsg ho (List.append_eq_nil_iff.1 he).1
theorem zu5 (f:Fm) (hs:f.size≤1048576) (P:Nat→Prop) (w:World) (x y z u:Value) (ht:IsFm P w x y z u f) :
  Calls Tryz.prog 18 #[.agg #[x,y,z,u]] w fun e w'=>e=.returned (.tuple #[.string (zek f).1,.int .i64 (zek f).2])∧Ext w w':=by
 have HC:=Lib.hid (fun w' (hx:Ext w w')=>zlu f P w' x y z u (ht.ext hx) hs)
 have HX:=Lib.hid (fun (hm:f.may=true) w0 (hx:Ext w w0) w' (hx0:Ext w0 w') (hb:w0.heap.size<w'.heap.size) (hbl:BldT 84 w0.heap.size [] w')=>zxn f hm (by omega) P w0 w' w0.heap.size [] x y z u (ht.ext hx) hx0 (Nat.le_refl _) hb hbl (by have:=f.text_len hm;simp only[List.length_nil];omega))
 have hmy:=fun h=>zel (f:=f) h
 have hne:=fun (h:f.may=true)=>Fm.text_ne f h
 obtain⟨b1,c1,b2,c2,b3,c3,rfl,rfl,rfl,rfl⟩:=ht.cells
 clear ht
 obtain⟨W,hW⟩:∃W,W=w.alloc (.cells #[.int .i64 f.op,.slice b1 f.vars.length c1,.slice b2 f.terms.length c2,.slice b3 f.args.length c3] 29):=⟨_,rfl⟩
 have hx:Ext w W:=by rw[hW];exact zb _ _
 have hb:Own W w.heap.size [.int .i64 f.op,.slice b1 f.vars.length c1,.slice b2 f.terms.length c2,.slice b3 f.args.length c3]:=by rw[hW];exact own4 w _ _ _ _ _
 obtain⟨⟨k0,-⟩,⟨k1,-⟩,⟨k2,-⟩,⟨k3,-⟩⟩:=hb.cells4
 have hbl:=hb.lt
 have HE:=Lib.hid (show zek f=if f.check≠0 then (⟨#[]⟩,f.check)else (⟨f.text.toArray⟩,0)from rfl)
 generalize f.check=ck at *
 by_cases h0:ck=0
 ·subst h0
  replace HE:=Lib.hid (HE.out.trans (if_neg (fun h=>h rfl)))
  have HX2:=Lib.hid (HX.out (hmy rfl))
  have hne2:=Lib.hid (hne (hmy rfl))
  clear HX hmy hne
  go_enter Tryz.func18,Tryz.ntmps18
  go_wp2_with (first
   |(rw[←hW];clear hW;go_at_call 21;refine(HC.out _ hx).mono ?_;rintro e w1 ⟨rfl,hx1⟩
     (have hxA:=zb w1 (.cells #[.pointer none,.slice none 0 0] 84));(have hobA:=zal w1 (.cells #[.pointer none,.slice none 0 0] 84))
     replace k0:=(hx1.trans hxA).cell k0;replace k1:=(hx1.trans hxA).cell k1;replace k2:=(hx1.trans hxA).cell k2;replace k3:=(hx1.trans hxA).cell k3)
   |(go_at_call 46;refine(HX2.out w1 (hx.trans hx1) _ hxA (zbg hobA) (ztq _ _ _ hobA)).mono ?_;rintro e w2 ⟨rfl,hb2,hf2⟩;rw[List.nil_append]at hb2)
   |(go_at_call 47;refine(zr3 _ _ _ hb2 hne2.out).mono ?_;rintro e w3 ⟨rfl,hb3,hf3⟩))
  go_ret2
  rw[HE.out]
  exact⟨rfl,(hx.trans hx1).trans ((hf2.trans hf3).ext' hxA (Nat.le_refl _))⟩
 ·replace HE:=Lib.hid (HE.out.trans (if_pos h0))
  have hq1:(ck != 0)=true:=by rw[bne_iff_ne];exact h0
  clear h0 HX hmy hne
  go_enter Tryz.func18,Tryz.ntmps18
  go_wp2_with (rw[←hW];clear hW;go_at_call 21;refine(HC.out _ hx).mono ?_;rintro e w1 ⟨rfl,hx1⟩)
  go_ret2
  rw[HE.out]
  exact⟨rfl,hx.trans hx1⟩
end Go.Proofs.YtnclgkdpafhogaaGreat
