/- formula.Check. Condition: at most 1048576 parts.
Entries as values; which of them may be: shaped and Check, of the program and of the reference. Condition: a formula of at most 1048576 parts.
The closures of include; searches over files and entries. Condition: at most 2^30 of them.
formula.Read: a formula from tokens on. Condition: a row of at most 524288 tokens. -/
import Derived.Test.YtnclgkdpafhogaaGreatQe26
import Derived.Test.YtnclgkdpafhogaaGreatQe28
import Derived.Test.YtnclgkdpafhogaaGreatQe15
import Derived.Test.YtnclgkdpafhogaaGreatQe19
import Derived.Test.YtnclgkdpafhogaaGreatQe29
import Derived.Test.YtnclgkdpafhogaaGreatQe10
set_option maxHeartbeats 16000000
set_option maxRecDepth 100000
namespace Go.Proofs.YtnclgkdpafhogaaGreat
open Go.ChangeShapes Go.WideShapes Go.ChangeAt Go.RowKit
attribute [local go_sem] fw_round fw_depth fw_fn Oper.semAt_some
theorem zjs (t:Fm):t.narrow=t.parts.all fun p=>zaz p.terms:=by
 refine Fm.rec (motive_1:=fun t=>t.narrow=t.parts.all fun p=>zaz p.terms) (motive_2:=fun l=>Fm.narrows l=(Fm.partsL l).all fun p=>zaz p.terms) ?_ ?_ ?_ t
 ·intro o v t l h;simp only[Fm.narrow,Fm.parts,List.all_cons,h,Fm.terms]
 ·rfl
 ·intro e l h1 h2;simp only[Fm.narrows,Fm.partsL,List.all_append,h1,h2]
theorem zuv (t:Fm):∀p∈t.parts,p.size≤t.size:=by
 refine Fm.rec (motive_1:=fun t=>∀p∈t.parts,p.size≤t.size) (motive_2:=fun l=>∀p∈Fm.partsL l,p.size≤Fm.sizes l) ?_ ?_ ?_ t
 ·intro o v t l h p hp
  simp only[Fm.parts,List.mem_cons]at hp
  rcases hp with rfl|hp
  ·exact Nat.le_refl _
  ·have:=h p hp;simp only[Fm.size];omega
 ·intro p hp;cases hp
 ·intro e l h1 h2 p hp
  simp only[Fm.partsL,List.mem_append]at hp
  rcases hp with hp|hp
  ·have:=h1 p hp;simp only[Fm.sizes];omega
  ·have:=h2 p hp;simp only[Fm.sizes];omega
theorem zfq {n:Nat}{fn:Func}{R:Ending→World→Prop}{a:Act}{W:World}{D:Nat}{v:Value}(hd:a.defers=[{ target:=.collected D,args:=#[] }]) (hK:W.heap[D]?=some (.deferred (some [])))
  (hr:(results fn a.tmps).run Tryz.prog (W.putObj D (.deferred none))=.ok v (W.putObj D (.deferred none))) (hR:R (.returned v) (W.putObj D (.deferred none))):bodyPostM (Fw none) n Tryz.prog fn R .ret a W:=by
 show LeavesInM _ _ _ _ _ _ a.defers .returning W
 rw[hd]
 exact⟨by simp,.inl ⟨_,_,rfl,run_takeDeferred hK,⟨v,hr,hR⟩⟩⟩
theorem zjt {W:World}{D:Nat}{o:Obj}{p:Addr}{v:Value}(h:W.cell? p=some v) (hD:p.block≠D):(W.putObj D o).cell? p=some v:=(zy W D o).cell h (by simpa using hD)
structure FcJ (V:World) (R0:Nat) (W:World) (pre:List Fm) (S:List Nat):Prop where
 s:S=[R0]
 chg:Chg [R0] V W
 own:Own W R0 [.int .i64 0]
 ok:∀p∈pre,zaz p.terms=true
structure FcX (V:World) (R0:Nat) (c:Code) (W:World) (pre:List Fm) (S:List Nat):Prop where
 s:S=[R0]
 c:c=.ret
 chg:Chg [R0] V W
 own:Own W R0 [.int .i64 3]
 bad:∃p∈pre,zaz p.terms=false
theorem zoq {S T:List Nat}{a b c:World}(h:Chg S a b) (k:Chg T b c) (hT:∀i∈T,a.heap.size≤i):Chg S a c :=
 ⟨k.os.trans h.os,k.tape.trans h.tape,k.output.trans h.output,Nat.le_trans h.size k.size,fun i hi hs=>(k.block i (Nat.lt_of_lt_of_le hi h.size) (fun hm=>by have:=hT i hm;omega)).trans (h.block i hi hs)⟩
theorem FcJ.mv {V:World}{R0:Nat}{W W':World}{pre:List Fm}{S T:List Nat}(h:FcJ V R0 W pre S) (hR:R0<V.heap.size) (k:Chg T W W') (hT:∀i∈T,V.heap.size≤i):FcJ V R0 W' pre S :=
 ⟨h.s,zoq h.chg k hT,h.own.chg k (fun hm=>by have:=hT _ hm;omega),h.ok⟩
theorem FcX.mv {V:World}{R0:Nat}{c:Code}{W W':World}{pre:List Fm}{S T:List Nat}(h:FcX V R0 c W pre S) (hR:R0<V.heap.size) (k:Chg T W W') (hT:∀i∈T,V.heap.size≤i):FcX V R0 c W' pre S :=
 ⟨h.s,h.c,zoq h.chg k hT,h.own.chg k (fun hm=>by have:=hT _ hm;omega),h.bad⟩
theorem zlu (t:Fm) (P:Nat→Prop) (w:World) (x y z u:Value) (ht:IsFm P w x y z u t) (hs:t.size≤1048576) :
  Calls Tryz.prog 21 #[.agg #[x,y,z,u]] w fun e w'=>e=.returned (.int .i64 t.check)∧Ext w w':=by
 have H1:=Lib.hid (fun w' (hx:Ext w w')=>zvk t P w' x y z u (ht.ext hx) (by omega))
 have H2:=Lib.hid (fun w' (hx:Ext w w')=>zty t P w' x y z u (ht.ext hx) (by omega))
 have H3:=Lib.hid (fun w' (hx:Ext w w')=>zwr t P w' x y z u (ht.ext hx) (by omega))
 have H4:=Lib.hid (fun w' (hx:Ext w w')=>z1f t (by omega) P w' x y z u (ht.ext hx))
 obtain⟨b1,c1,b2,c2,b3,c3,rfl,rfl,rfl,rfl⟩:=zdq ht
 clear ht
 obtain⟨W,hW⟩:∃W,W=(w.alloc (.cells #[.int .i64 t.op,.slice b1 t.vars.length c1,.slice b2 t.terms.length c2,.slice b3 t.args.length c3] 29)).alloc (.cells #[.int .i64 0] 30):=⟨_,rfl⟩
 have hx:Ext w W:=by rw[hW];exact(zb _ _).alloc _
 have hfb:Own W w.heap.size [.int .i64 t.op,.slice b1 t.vars.length c1,.slice b2 t.terms.length c2,.slice b3 t.args.length c3]:=by rw[hW];exact(own4 w _ _ _ _ _).ext (zb _ _)
 have hrb:Own W (w.heap.size+1) [.int .i64 0]:=by
  rw[hW];have:=own1 (w.alloc (.cells #[.int .i64 t.op,.slice b1 t.vars.length c1,.slice b2 t.terms.length c2,.slice b3 t.args.length c3] 29)) (.int .i64 0) 30
  rw[World.size_alloc]at this;exact this
 have hle:=hrb.lt
 obtain⟨⟨k0,-⟩,⟨k1,-⟩,⟨k2,-⟩,⟨k3,-⟩⟩:=hfb.cells4
 obtain⟨r0,f0⟩:=hrb 0 _ rfl
 by_cases h1:300<t.size
 ·have q1:decide ((300:Int)<(t.size:Nat))=true:=decide_eq_true (by omega)
  have HR:=Lib.hid (show t.check=3 by unfold Fm.check;rw[if_pos (.inl h1)])
  clear h1
  go_enter Tryz.func21,Tryz.ntmps21
  go_wp2_with (rw[←hW];clear hW;go_at_call 24;refine(H1.out _ hx).mono ?_;rintro e w1 ⟨rfl,hx1⟩;have hn1:=hrb.ext hx1;have hnl:=hn1.lt;(obtain⟨n0,g0⟩:=hn1 0 _ rfl))
  have c1:=World.cell?_setCell_same (a:=(⟨w.heap.size+1,0,none⟩:Addr)) (w:=w1) (v:=.int .i64 3) n0
  refine bodyPost_ret (v:=.int .i64 3) (by simp[results,Tryz.results21,go_sem,c1]) rfl ?_
  exact⟨zm (by rw[HR.out]),Chg.ext (hx.trans hx1) ((Chg.refl [w.heap.size+1] w1).setCell (p:=⟨w.heap.size+1,0,none⟩) _ (.inl (by simp))) (by simp)⟩
 have q1:decide ((300:Int)<(t.size:Nat))=false:=decide_eq_false (by omega)
 by_cases h2:30<t.depth
 ·have q2:decide ((30:Int)<(t.depth:Nat))=true:=decide_eq_true (by omega)
  have HR:=Lib.hid (show t.check=3 by unfold Fm.check;rw[if_pos (.inr (.inl h2))])
  clear h1 h2
  go_enter Tryz.func21,Tryz.ntmps21
  go_wp2_with (first|(rw[←hW];clear hW;go_at_call 24;refine(H1.out _ hx).mono ?_;rintro e w1 ⟨rfl,hx1⟩;replace k0:=hx1.cell k0;replace k1:=hx1.cell k1;replace k2:=hx1.cell k2;replace k3:=hx1.cell k3)|(go_at_call 50;refine(H2.out _ (hx.trans hx1)).mono ?_;rintro e w2 ⟨rfl,hx2⟩;have hn1:=(hrb.ext hx1).ext hx2;have hnl:=hn1.lt;(obtain⟨n0,g0⟩:=hn1 0 _ rfl)))
  have c1:=World.cell?_setCell_same (a:=(⟨w.heap.size+1,0,none⟩:Addr)) (w:=w2) (v:=.int .i64 3) n0
  refine bodyPost_ret (v:=.int .i64 3) (by simp[results,Tryz.results21,go_sem,c1]) rfl ?_
  exact⟨zm (by rw[HR.out]),Chg.ext ((hx.trans hx1).trans hx2) ((Chg.refl [w.heap.size+1] w2).setCell (p:=⟨w.heap.size+1,0,none⟩) _ (.inl (by simp))) (by simp)⟩
 have q2:decide ((30:Int)<(t.depth:Nat))=false:=decide_eq_false (by omega)
 have HS:=Lib.hid h1
 have HD:=Lib.hid h2
 clear h1 h2
 have hW3:w.heap.size+2≤W.heap.size:=by omega
 obtain⟨R0,hR0⟩:∃R0,R0=w.heap.size+1:=⟨_,rfl⟩
 refine zle.1 (callsIn_of_wp_marks (n:=0) Tryz.func21 rfl trivial (wpIn_wide.2 ?_))
 simp only[Tryz.ntmps21,List.size_toArray,List.length_cons,List.length_nil,Nat.reduceAdd,Nat.reduceSub,Array.replicate_succ,Array.replicate_zero,List.push_toArray,List.append_toArray,List.nil_append,List.cons_append]
 go_wp2_with (first
  |(rw[←hW];clear hW;go_at_call 24;refine(H1.out _ hx).mono ?_;rintro e w1 ⟨rfl,hx1⟩;replace k0:=hx1.cell k0;replace k1:=hx1.cell k1;replace k2:=hx1.cell k2;replace k3:=hx1.cell k3)
  |(go_at_call 50;refine(H2.out _ (hx.trans hx1)).mono ?_;rintro e w2 ⟨rfl,hx2⟩;replace k0:=hx2.cell k0;replace k1:=hx2.cell k1;replace k2:=hx2.cell k2;replace k3:=hx2.cell k3)
  |(go_at_call 51;refine(H3.out _ ((hx.trans hx1).trans hx2)).mono ?_;rintro e w3 ⟨⟨bo,x',y',z',u',rfl,hbo,hbol,hat⟩,hx3⟩))
 rw[←hR0]
 have hxv:=((hx.trans hx1).trans hx2).trans hx3
 have hrb3:=((hrb.ext hx1).ext hx2).ext hx3
 have hfb3:=((hfb.ext hx1).ext hx2).ext hx3
 rw[←hR0]at hrb3
 have hR2:w.heap.size+2≤w2.heap.size:=by have:=hx1.size;have:=hx2.size;omega
 have hR3:=hx3.size
 have HR0:=Lib.hid hR0
 have hRl:R0<w3.heap.size:=hrb3.lt
 have hRlw:R0<w2.heap.size:=by omega
 have hRf:w.heap.size≠R0:=by omega
 have hRw:w.heap.size≤R0:=by omega
 clear hR0 k0 k1 k2 k3 r0 f0 hrb hfb hx1 hx2 hx3 hx H1 H2 H3
 refine(wpIn_wide (n:=0)).1 ?_
 refine zhr (n:=0) (gf:=96) (lb:=#[.pointer (some ⟨bo,0,none⟩)]) (by rfl) (fun _ _=>rfl) (zwq t hs bo) (fun x args w h=>by obtain⟨_,_,_,_,rfl,-⟩:=h;rfl)
  [R0] (FcJ w3 R0) (FcX w3 R0) ?hD ?hS0 ?h0 ?hJ ?hJx ?hJe ?hJxe ?body ?done ?stop
 case hD =>
  intro w' hw'
  have hbl:=hbo.lt
  obtain⟨⟨o0,-⟩,⟨o1,-⟩,⟨o2,-⟩,⟨o3,-⟩⟩:=(hbo.ext hw').cells4
  refine⟨by simp;omega,_,_,_,_,o0,o1,o2,o3,?_⟩
  exact(Dat.Fs.mono hat fun g hg hlt=>(show Av (w3.heap.size::(w3.heap.size+1)::[R0]) w' g from ⟨by simp;omega,by have:=hw'.size;omega⟩)).ext hw'
 case hS0=>intro b hb;simp at hb;omega
 case h0=>exact⟨rfl,Chg.refl _ _,hrb3,by simp⟩
 case hJ=>exact fun w1 w2 s S _ h k=>h.mv hRl k (by simp)
 case hJx=>exact fun c w1 w2 s S _ h k=>h.mv hRl k (by simp)
 case hJe=>exact fun w1 w2 s S h k=>h.mv hRl (Chg.of_ext (S:=[]) k) (by simp)
 case hJxe=>exact fun c w1 w2 s S h k=>h.mv hRl (Chg.of_ext (S:=[]) k) (by simp)
 case done =>
  intro V S hm hj hK
  have hnar:t.narrow=true:=by rw[zjs,List.all_eq_true];exact hj.ok
  have HR:=Lib.hid (show t.check=if t.may then 0 else 2 by unfold Fm.check;rw[if_neg (by rintro(h|h|h);exact HS.out h;exact HD.out h;rw[hnar]at h;cases h)])
  clear hnar
  obtain⟨-,hchg,hown,-⟩:=hj
  have hxV:Ext w V:=Chg.ext hxv hchg (by simp;omega)
  have H5:=Lib.hid (H4.out V hxV)
  have hf5:=hfb3.chg hchg (by simpa using hRf)
  have hVs:=hchg.size
  have hfl:=hf5.lt
  obtain⟨⟨k0,-⟩,⟨k1,-⟩,⟨k2,-⟩,⟨k3,-⟩⟩:=hf5.cells4
  have hDl:w3.heap.size<V.heap.size:=(Array.getElem?_eq_some_iff.1 hK).1
  have fin:∀(n:Int) (w5:World),Ext V w5→t.check=n→(w5.setCell ⟨R0,0,none⟩ (.int .i64 n)).heap[w3.heap.size]?=some (.deferred (some []))∧((w5.setCell ⟨R0,0,none⟩ (.int .i64 n)).putObj w3.heap.size (.deferred none)).cell? ⟨R0,0,none⟩=some (.int .i64 n) ∧
    Ext w ((w5.setCell ⟨R0,0,none⟩ (.int .i64 n)).putObj w3.heap.size (.deferred none)):=fun n w5 hx5 hn=>by
   have hK2:(w5.setCell ⟨R0,0,none⟩ (.int .i64 n)).heap[w3.heap.size]?=some (.deferred (some [])):=(Below.heap_setCell _ _ _ _ (by simp;omega)).trans ((hx5.block _ hDl).trans hK)
   obtain⟨n0,-⟩:=(hown.ext hx5) 0 _ rfl
   refine⟨hK2,zjt (World.cell?_setCell_same (a:=(⟨R0,0,none⟩:Addr)) (w:=w5) (v:=.int .i64 n) n0) (by simp;omega),?_⟩
   have hch:Chg [R0,w3.heap.size] w3 ((w5.setCell ⟨R0,0,none⟩ (.int .i64 n)).putObj w3.heap.size (.deferred none)) :=
    (((hchg.mono (by simp)).trans (Chg.of_ext hx5)).setCell (p:=⟨R0,0,none⟩) _ (.inl (by simp))).trans ((zy _ _ _).mono (by simp))
   exact Chg.ext hxv hch (by simp;omega)
  cases hmy:t.may with
  |true =>
   rw[hmy]at H5 HR
   go_wp2_with (go_at_call 53;refine(H5.out).mono ?_;rintro e w5 ⟨rfl,hx5⟩;have hn5:=hown.ext hx5;have hnl5:=hn5.lt;(obtain⟨n0,g0⟩:=hn5 0 _ rfl))
   obtain⟨f1,f2,f3⟩:=fin 0 w5 hx5 HR.out
   exact zfq (v:=.int .i64 0) rfl f1 (by simp[results,Tryz.results21,go_sem,f2]) ⟨zm (by rw[HR.out];rfl),f3⟩
  |false =>
   rw[hmy]at H5 HR
   go_wp2_with (go_at_call 53;refine(H5.out).mono ?_;rintro e w5 ⟨rfl,hx5⟩;have hn5:=hown.ext hx5;have hnl5:=hn5.lt;(obtain⟨n0,g0⟩:=hn5 0 _ rfl))
   obtain⟨f1,f2,f3⟩:=fin 2 w5 hx5 HR.out
   exact zfq (v:=.int .i64 2) rfl f1 (by simp[results,Tryz.results21,go_sem,f2]) ⟨zm (by rw[HR.out];rfl),f3⟩
 case stop =>
  intro c q V S hq hm hj hK
  obtain⟨-,rfl,hchg,hown,p,hp,hpb⟩:=hj
  have hnar:t.narrow=false:=by rw[zjs,List.all_eq_false];exact⟨p,hq.subset hp,by simp[hpb]⟩
  have HR:=Lib.hid (show t.check=3 by unfold Fm.check;rw[if_pos (.inr (.inr hnar))])
  clear hnar
  gi_wp2
  obtain⟨n0,-⟩:=hown 0 _ rfl
  have c1:=zjt (D:=w3.heap.size) (o:=.deferred none) n0 (by simp;omega)
  refine zfq (v:=.int .i64 3) rfl hK (by simp[results,Tryz.results21,go_sem,c1]) ⟨zm (by rw[HR.out]),?_⟩
  have hch:Chg [R0,w3.heap.size] w3 (V.putObj w3.heap.size (.deferred none)):=(hchg.mono (by simp)).trans ((zy _ _ _).mono (by simp))
  exact Chg.ext hxv hch (by simp;omega)
 case body =>
  intro pre q rest hitems args V S m hG hj hSne hVl
  obtain⟨qx,qy,qz,qu,rfl,hq⟩:=hG
  have hqs:q.size≤1048576:=by have:=zuv t q (by rw[hitems];simp);omega
  obtain⟨d1,e1,d2,e2,d3,e3,rfl,rfl,rfl,rfl,-,-,-,-,-,-,hqt,-⟩:=hq.form
  obtain⟨hjs,hchg,hown,hok⟩:=hj
  subst hjs
  have hts:Ex.sizes q.terms≤1048576:=by cases q;simp only[Fm.size]at hqs;simp only[Fm.terms];omega
  have htl:=Ex.length_le_sizes q.terms
  clear hitems hq
  gi_wp2
  obtain⟨V1,hV1⟩:∃V1,V1=V.alloc (.cells #[.int .i64 q.op,.slice d1 q.vars.length e1,.slice d2 q.terms.length e2,.slice d3 q.args.length e3] 29):=⟨_,rfl⟩
  have hA1:Ext V V1:=by rw[hV1];exact zb _ _
  have hp1:Own V1 V.heap.size [.int .i64 q.op,.slice d1 q.vars.length e1,.slice d2 q.terms.length e2,.slice d3 q.args.length e3]:=by rw[hV1];exact own4 V _ _ _ _ _
  rw[←hV1]
  clear hV1
  intro V2 hc2 hcell2
  refine⟨Mv.of_ext hA1,?_⟩
  have hK2:∀p v,V.cell? p=some v→V2.cell? p=some v:=fun p v hv=>hcell2 p v (hA1.cell hv)
  have hqt2:IsExs (fun _=>True) V2 d2 q.terms:=Dat.Rows.of_cells (fun _ h _=>h) (fun p v _ hv=>hK2 p v hv) hqt
  have z2:=hcell2 _ _ (hp1 2 _ rfl).1
  have hR1:R0≠w3.heap.size+1:=by omega
  have hown2:Own V2 R0 [.int .i64 0]:=(hown.ext hA1).chg hc2 (by simpa using hR1)
  have hchg2:Chg [R0] w3 V2:=zoq (hchg.trans (Chg.of_ext hA1)) hc2 (by simp)
  have HO:=Lib.hid (And.intro hqt2 (And.intro hown2 hchg2))
  clear hcell2 hK2 hqt hqt2 hown hown2 hchg hchg2 hp1
  have hVb:V.heap.size<V2.heap.size:=zf z2
  gi_wp2
  gi_loopw [21] (fun i wr=>∃k:Nat,k≤q.terms.length∧i=.int .i64 k∧Ext V2 wr∧zaz (q.terms.take k)=true) (fun i _=>q.terms.length-(intOf i).toNat)
  case atStart=>exact⟨0,Nat.zero_le _,rfl,Below.refl _ _,rfl⟩
  case round =>
   obtain⟨k,hkk,rfl,hxr,hnk⟩:=hrel
   have HNK:=Lib.hid hnk
   clear hnk z2
   by_cases hlt:k<q.terms.length
   ·have hk1:(k:Int)<q.terms.length:=by omega
    obtain⟨b',o',a',c',rfl,-,g1,g2,g3,hi⟩:=(IsExs.ext HO.out.1 hxr).look hlt
    have hsz8:=Ex.size_le_sizes hlt
    have hwl:=zf g1
    have HX:=Lib.hid (fun w' (hx:Ext wr w')=>zsx q.terms[k] _ w' _ _ _ (hi.ext hx) (by omega))
    clear hi
    have hdl:(q.terms[k].depth:Int)≤1048576:=by have:=q.terms[k].depth_le_size;omega
    have hwl2:(q.terms[k].wide:Int)≤1048576:=by have:=q.terms[k].wide_le_size;omega
    gi_wp2
    refine zle.2 ((HX.out _ (zb _ _)).mono ?_)
    rintro e w6 ⟨rfl,hx6⟩
    have hx7:=(hxr.trans (zb wr (.cells #[.bool q.terms[k].var,.string q.terms[k].name,.slice a' q.terms[k].args.length c'] 73))).trans hx6
    have hx8:=hx7.trans (zb w6 (.cells #[.int .i64 q.terms[k].size,.int .i64 q.terms[k].depth,.int .i64 q.terms[k].wide] 93))
    have hn8:=HO.out.2.1.ext hx8
    have hn7:=HO.out.2.1.ext hx7
    have hnl7:=hn7.lt
    obtain⟨n0,g0⟩:=hn7 0 _ rfl
    clear hx6 HX g1 g2 g3
    by_cases hd:30<q.terms[k].depth
    ·have q1:decide ((30:Int)<(q.terms[k].depth:Nat))=true:=decide_eq_true (by omega)
     have hbad:zaz q.terms=false:=zd6 hlt (fun h=>by omega)
     have HF:=Lib.hid (show FcX w3 R0 .ret ((w6.setCell ⟨R0,0,none⟩ (.int .i64 3)).alloc (.cells #[.int .i64 q.terms[k].size,.int .i64 q.terms[k].depth,.int .i64 q.terms[k].wide] 93)) (pre++[q]) [R0]from ⟨rfl,rfl,((HO.out.2.2.trans (Chg.of_ext hx7)).setCell (p:=⟨R0,0,none⟩) _ (.inl (by simp))).alloc _,(hn7.set (i:=0) (by simp) _).ext (zb _ _),⟨q,by simp,hbad⟩⟩)
     have HM:=Lib.hid (show Mv [R0] V2 [R0] ((w6.setCell ⟨R0,0,none⟩ (.int .i64 3)).alloc (.cells #[.int .i64 q.terms[k].size,.int .i64 q.terms[k].depth,.int .i64 q.terms[k].wide] 93))from Mv.of_chg (((Chg.of_ext hx7).setCell (p:=⟨R0,0,none⟩) _ (.inl (by simp))).alloc _))
     clear hbad
     gi_wp2
     exact⟨[R0],HM.out,HF.out⟩
    ·have q1:decide ((30:Int)<(q.terms[k].depth:Nat))=false:=decide_eq_false (by omega)
     by_cases hwd:6<q.terms[k].wide
     ·have q2:decide ((6:Int)<(q.terms[k].wide:Nat))=true:=decide_eq_true (by omega)
      have hbad:zaz q.terms=false:=zd6 hlt (fun h=>by omega)
      have HF:=Lib.hid (show FcX w3 R0 .ret ((w6.setCell ⟨R0,0,none⟩ (.int .i64 3)).alloc (.cells #[.int .i64 q.terms[k].size,.int .i64 q.terms[k].depth,.int .i64 q.terms[k].wide] 93)) (pre++[q]) [R0]from ⟨rfl,rfl,((HO.out.2.2.trans (Chg.of_ext hx7)).setCell (p:=⟨R0,0,none⟩) _ (.inl (by simp))).alloc _,(hn7.set (i:=0) (by simp) _).ext (zb _ _),⟨q,by simp,hbad⟩⟩)
      have HM:=Lib.hid (show Mv [R0] V2 [R0] ((w6.setCell ⟨R0,0,none⟩ (.int .i64 3)).alloc (.cells #[.int .i64 q.terms[k].size,.int .i64 q.terms[k].depth,.int .i64 q.terms[k].wide] 93))from Mv.of_chg (((Chg.of_ext hx7).setCell (p:=⟨R0,0,none⟩) _ (.inl (by simp))).alloc _))
      clear hbad
      gi_wp2
      exact⟨[R0],HM.out,HF.out⟩
     ·have q2:decide ((6:Int)<(q.terms[k].wide:Nat))=false:=decide_eq_false (by omega)
      have hnk2:zaz (q.terms.take (k+1))=true:=by rw[zhf hlt,HNK.out,decide_eq_true (by omega:q.terms[k].depth≤30),decide_eq_true (by omega:q.terms[k].wide≤6)];rfl
      have HN2:=Lib.hid hnk2
      clear hnk2 hd hwd
      gi_wp2
      go_roundw
      case rel=>exact⟨k+1,by omega,by go_num,hx8,HN2.out⟩
      case measure=>simp[intOf];omega
   ·have hk1:¬(k:Int)<q.terms.length:=by omega
    have hke:k=q.terms.length:=by omega
    have hnq:zaz q.terms=true:=by have:=HNK.out;rwa [hke,List.take_length]at this
    have HF:=Lib.hid (show FcJ w3 R0 wr (pre++[q]) [R0]from ⟨rfl,HO.out.2.2.trans (Chg.of_ext hxr),HO.out.2.1.ext hxr,fun p hp=>by
     rcases List.mem_append.1 hp with h|h
     ·exact hok p h
     ·simp at h;subst h;exact hnq⟩)
    clear hke hnq
    gi_wp2
    exact⟨[R0],Mv.of_ext hxr,HF.out⟩
end Go.Proofs.YtnclgkdpafhogaaGreat
namespace Go.Proofs.YtnclgkdpafhogaaGreat
open Go.ChangeShapes Go.WideShapes Go.ChangeAt Go.RowKit
theorem zcr (w:World) (arr:Array Value) (t:TypeId):Own (w.alloc (.cells arr t)) w.heap.size arr.toList:=fun i v hv=>by
 have hb:=heap_alloc_new w (.cells arr t)
 constructor
 ·unfold World.cell?
  rw[hb]
  simpa using hv
 ·unfold World.frozen?
  rw[hb]
  simp
def entV (x:Ent) (a b c d:Value):Value:=.agg #[.bool x.cnf,.string x.name,.string x.role,a,b,c,d]
def IsEnt (P:Nat→Prop) (w:World) (a b c d:Value) (x:Ent):Prop:=x.name.size≤1073741824∧x.role.size≤1073741824∧IsFm P w a b c d x.form
theorem IsEnt.ext {P:Nat→Prop}{w w':World}{a b c d:Value}{x:Ent}(h:IsEnt P w a b c d x) (hx:Ext w w'):IsEnt P w' a b c d x:=⟨h.1,h.2.1,h.2.2.ext hx⟩
theorem IsEnt.fs {P:Nat→Prop}{w:World}{a b c d:Value}{x:Ent}(h:IsEnt P w a b c d x):Dat.Fs P w [.bool x.cnf,.string x.name,.string x.role,a,b,c,d] x.dat:=⟨rfl,⟨rfl,h.1⟩,⟨rfl,h.2.1⟩,h.2.2⟩
theorem Ent.dat_length (x:Ent):x.dat.length=7:=by simp[Ent.dat,x.form.dat_length]
theorem IsEnt.of_fs {P:Nat→Prop}{w:World}{vs:List Value}{x:Ent}(h:Dat.Fs P w vs x.dat):∃a b c d,vs=[.bool x.cnf,.string x.name,.string x.role,a,b,c,d]∧IsEnt P w a b c d x:=by
 have hl:=h.length
 rw[x.dat_length]at hl
 match vs,hl with
 |[p,q,r,a,b,c,d],_ =>
  obtain⟨h1,⟨h2,h2'⟩,⟨h3,h3'⟩,h4⟩:=h
  subst h1;subst h2;subst h3
  exact⟨a,b,c,d,rfl,h2',h3',h4⟩
theorem zbd {w:World}{b:Nat}{x y z p q r s:Value}(h:Own w b [x,y,z,p,q,r,s]):(w.cell? ⟨b,0,none⟩=some x∧w.cell? ⟨b,1,none⟩=some y∧w.cell? ⟨b,2,none⟩=some z)∧(w.cell? ⟨b,3,none⟩=some p∧w.cell? ⟨b,4,none⟩=some q∧w.cell? ⟨b,5,none⟩=some r∧w.cell? ⟨b,6,none⟩=some s)∧b<w.heap.size :=
 ⟨⟨(h 0 _ rfl).1,(h 1 _ rfl).1,(h 2 _ rfl).1⟩,⟨(h 3 _ rfl).1,(h 4 _ rfl).1,(h 5 _ rfl).1,(h 6 _ rfl).1⟩,h.lt⟩
theorem zf3 (f:Fm):zax true f=if f.lits.isSome then 0 else 243:=rfl
theorem zf4 (f:Fm):zax false f=if f.freeS=[]then 0 else 242:=rfl
theorem znj (x:Ent) (P:Nat→Prop) (w:World) (a b c d:Value) (h:IsEnt P w a b c d x) (hs:x.form.size≤4194304) :
  Calls Tryz.prog 71 #[entV x a b c d] w fun e w'=>e=.returned (.int .i64 (zax x.cnf x.form))∧Ext w w':=by
 have hsl:x.form.args.length≤8388608:=by
  have:x.form.args.length≤x.form.size:=by
   obtain⟨o,v,t,l⟩:=x.form
   have:=Fm.length_le_sizes l
   simp only[Fm.args,Fm.size];omega
  omega
 have HL:=Lib.hid (fun w' (hx:Ext w w')=>zqb x.form P w' a b c d (h.2.2.ext hx) hs)
 have HF:=Lib.hid (fun w' (hx:Ext w w')=>zzo x.form hs P w' a b c d (h.2.2.ext hx))
 obtain⟨b1,c1,b2,c2,b3,c3,rfl,rfl,rfl,rfl,-⟩:=h.2.2.form
 unfold entV
 obtain⟨W,hW⟩:∃W,W=w.alloc (.cells #[.bool x.cnf,.string x.name,.string x.role,.int .i64 x.form.op,.slice b1 x.form.vars.length c1,.slice b2 x.form.terms.length c2,.slice b3 x.form.args.length c3] 53):=⟨_,rfl⟩
 have hx:Ext w W:=by rw[hW];exact zb _ _
 have hb:Own W w.heap.size [.bool x.cnf,.string x.name,.string x.role,.int .i64 x.form.op,.slice b1 x.form.vars.length c1,.slice b2 x.form.terms.length c2,.slice b3 x.form.args.length c3]:=by rw[hW];exact zcr w _ _
 obtain⟨⟨k0,k1,k2⟩,⟨k3,k4,k5,k6⟩,hlt⟩:=zbd hb
 clear hb
 cases hc:x.cnf with
 |true =>
  rw[hc]at hW k0
  cases hl:x.form.lits.isSome with
  |true =>
   have HE:=Lib.hid (show zax true x.form=0 by rw[zf3,hl];rfl)
   unfold LitsSay at HL
   rw[hl]at HL
   clear hl HF hc
   go_enter Tryz.func71,Tryz.ntmps71
   go_upto_region 1 with fail
   rw[←hW]
   clear hW
   go_wp2_with (go_at_call 31;refine(HL.out _ hx).mono ?_;rintro e w1 ⟨⟨a1,c1',rfl,-,-⟩,hx1⟩)
   go_ret
   exact⟨zm HE.out.symm,hx.trans hx1⟩
  |false =>
   have HE:=Lib.hid (show zax true x.form=243 by rw[zf3,hl];rfl)
   unfold LitsSay at HL
   rw[hl]at HL
   clear hl HF hc
   go_enter Tryz.func71,Tryz.ntmps71
   go_upto_region 1 with fail
   rw[←hW]
   clear hW
   go_wp2_with (go_at_call 31;refine(HL.out _ hx).mono ?_;rintro e w1 ⟨⟨a1,c1',rfl,-,-⟩,hx1⟩)
   go_ret
   exact⟨zm HE.out.symm,hx.trans hx1⟩
 |false =>
  rw[hc]at hW k0
  cases hl:x.form.freeS.length with
  |succ m =>
   have HE:=Lib.hid (show zax false x.form=242 by rw[zf4,if_neg (fun h=>by rw[h]at hl;simp at hl)])
   have HM:=Lib.hid hl
   clear hl
   clear HL hc
   go_enter Tryz.func71,Tryz.ntmps71
   go_upto_region 1 with fail
   rw[←hW]
   clear hW
   go_wp2_with (go_at_call 124;refine(HF.out _ hx).mono ?_;rintro e w1 ⟨v,rfl,hrow,hx1⟩;(obtain⟨ra,rc,rfl,-⟩:=StrRow.strs hrow);clear hrow;rw[HM.out])
   go_ret
   exact⟨zm HE.out.symm,hx.trans hx1⟩
  |zero =>
   have HE:=Lib.hid (show zax false x.form=0 by rw[zf4,if_pos (List.length_eq_zero_iff.1 hl)])
   have HM:=Lib.hid hl
   clear hl
   clear HL hc
   go_enter Tryz.func71,Tryz.ntmps71
   go_upto_region 1 with fail
   rw[←hW]
   clear hW
   go_wp2_with (go_at_call 124;refine(HF.out _ hx).mono ?_;rintro e w1 ⟨v,rfl,hrow,hx1⟩;(obtain⟨ra,rc,rfl,-⟩:=StrRow.strs hrow);clear hrow;rw[HM.out])
   go_ret
   exact⟨zm HE.out.symm,hx.trans hx1⟩
theorem zor (x:Ent) (P:Nat→Prop) (w:World) (a b c d:Value) (h:IsEnt P w a b c d x) (hs:x.form.size≤4194304) :
  Calls Tryz.prog 74 #[entV x a b c d] w fun e w'=>e=.returned (.int .i64 (zax x.cnf x.form))∧Ext w w':=by
 have hsl:x.form.args.length≤8388608:=by
  have:x.form.args.length≤x.form.size:=by
   obtain⟨o,v,t,l⟩:=x.form
   have:=Fm.length_le_sizes l
   simp only[Fm.args,Fm.size];omega
  omega
 have HL:=Lib.hid (fun w' (hx:Ext w w')=>zk3 x.form P w' a b c d (h.2.2.ext hx) hsl)
 have HF:=Lib.hid (fun w' (hx:Ext w w')=>zrz x.form hs P w' a b c d (h.2.2.ext hx))
 obtain⟨b1,c1,b2,c2,b3,c3,rfl,rfl,rfl,rfl,-⟩:=h.2.2.form
 unfold entV
 obtain⟨W,hW⟩:∃W,W=w.alloc (.cells #[.bool x.cnf,.string x.name,.string x.role,.int .i64 x.form.op,.slice b1 x.form.vars.length c1,.slice b2 x.form.terms.length c2,.slice b3 x.form.args.length c3] 53):=⟨_,rfl⟩
 have hx:Ext w W:=by rw[hW];exact zb _ _
 have hb:Own W w.heap.size [.bool x.cnf,.string x.name,.string x.role,.int .i64 x.form.op,.slice b1 x.form.vars.length c1,.slice b2 x.form.terms.length c2,.slice b3 x.form.args.length c3]:=by rw[hW];exact zcr w _ _
 obtain⟨⟨k0,k1,k2⟩,⟨k3,k4,k5,k6⟩,hlt⟩:=zbd hb
 clear hb
 cases hc:x.cnf with
 |true =>
  rw[hc]at hW k0
  cases hl:x.form.lits.isSome with
  |true =>
   have HE:=Lib.hid (show zax true x.form=0 by rw[zf3,hl];rfl)
   unfold LitsSay at HL
   rw[hl]at HL
   clear hl HF hc
   go_enter Tryz.func74,Tryz.ntmps74
   go_upto_region 1 with fail
   rw[←hW]
   clear hW
   go_wp2_with (go_at_call 32;refine(HL.out _ hx).mono ?_;rintro e w1 ⟨⟨a1,c1',rfl,-,-⟩,hx1⟩)
   go_ret
   exact⟨zm HE.out.symm,hx.trans hx1⟩
  |false =>
   have HE:=Lib.hid (show zax true x.form=243 by rw[zf3,hl];rfl)
   unfold LitsSay at HL
   rw[hl]at HL
   clear hl HF hc
   go_enter Tryz.func74,Tryz.ntmps74
   go_upto_region 1 with fail
   rw[←hW]
   clear hW
   go_wp2_with (go_at_call 32;refine(HL.out _ hx).mono ?_;rintro e w1 ⟨⟨a1,c1',rfl,-,-⟩,hx1⟩)
   go_ret
   exact⟨zm HE.out.symm,hx.trans hx1⟩
 |false =>
  rw[hc]at hW k0
  cases hl:x.form.freeS.length with
  |succ m =>
   have HE:=Lib.hid (show zax false x.form=242 by rw[zf4,if_neg (fun h=>by rw[h]at hl;simp at hl)])
   have HM:=Lib.hid hl
   clear hl
   clear HL hc
   go_enter Tryz.func74,Tryz.ntmps74
   go_upto_region 1 with fail
   rw[←hW]
   clear hW
   go_wp2_with (go_at_call 126;refine(HF.out _ hx).mono ?_;rintro e w1 ⟨v,rfl,hrow,hx1⟩;(obtain⟨ra,rc,rfl,-⟩:=StrRow.strs hrow);clear hrow;rw[HM.out])
   go_ret
   exact⟨zm HE.out.symm,hx.trans hx1⟩
  |zero =>
   have HE:=Lib.hid (show zax false x.form=0 by rw[zf4,if_pos (List.length_eq_zero_iff.1 hl)])
   have HM:=Lib.hid hl
   clear hl
   clear HL hc
   go_enter Tryz.func74,Tryz.ntmps74
   go_upto_region 1 with fail
   rw[←hW]
   clear hW
   go_wp2_with (go_at_call 126;refine(HF.out _ hx).mono ?_;rintro e w1 ⟨v,rfl,hrow,hx1⟩;(obtain⟨ra,rc,rfl,-⟩:=StrRow.strs hrow);clear hrow;rw[HM.out])
   go_ret
   exact⟨zm HE.out.symm,hx.trans hx1⟩
theorem zgy (c:Bool) (s:ByteArray):(zbx c s=false∧zbl s=false)∨(zbx c s=false∧zbl s=true∧c=true∧decide (s=zer)=true)∨(zbx c s=true∧zbl s=true∧c=false)∨(zbx c s=true∧zbl s=true∧c=true∧decide (s=zer)=false):=by
 unfold zbx
 cases zbl s<;>cases c<;>cases decide (s=zer)<;>simp
theorem zh8 {x:Ent}(h:named x.name=false):x.check=2:=if_pos h
theorem zdu {x:Ent}(h:named x.name=true) (h2:zbx x.cnf x.role=false):x.check=241:=by unfold Ent.check;rw[if_neg (by rw[h];decide),if_pos h2]
theorem zdv {x:Ent}(h:named x.name=true) (h2:zbx x.cnf x.role=true):x.check=if x.form.check≠0 then x.form.check else zax x.cnf x.form:=by unfold Ent.check;rw[if_neg (by rw[h];decide),if_neg (by rw[h2];decide)]
theorem zqn (x:Ent) (P:Nat→Prop) (w:World) (a b c d:Value) (h:IsEnt P w a b c d x) (hs:x.form.size≤1048576) :
  Calls Tryz.prog 33 #[entV x a b c d] w fun e w'=>e=.returned (.int .i64 x.check)∧Ext w w':=by
 have HN:=Lib.hid (fun w=>zdw x.name h.1 w)
 have HR:=Lib.hid (fun w=>zm4 x.role w)
 have HC:=Lib.hid (fun w' (hx:Ext w w')=>zlu x.form P w' a b c d (h.2.2.ext hx) (by omega))
 have HS:=Lib.hid (fun w' (hx:Ext w w')=>znj x P w' a b c d (h.ext hx) (by omega))
 obtain⟨b1,c1,b2,c2,b3,c3,rfl,rfl,rfl,rfl,-⟩:=h.2.2.form
 unfold entV at HS ⊢
 obtain⟨W,hW⟩:∃W,W=w.alloc (.cells #[.bool x.cnf,.string x.name,.string x.role,.int .i64 x.form.op,.slice b1 x.form.vars.length c1,.slice b2 x.form.terms.length c2,.slice b3 x.form.args.length c3] 53):=⟨_,rfl⟩
 have hx:Ext w W:=by rw[hW];exact zb _ _
 have hb:Own W w.heap.size [.bool x.cnf,.string x.name,.string x.role,.int .i64 x.form.op,.slice b1 x.form.vars.length c1,.slice b2 x.form.terms.length c2,.slice b3 x.form.args.length c3]:=by rw[hW];exact zcr w _ _
 obtain⟨⟨k0,k1,k2⟩,⟨k3,k4,k5,k6⟩,hlt⟩:=zbd hb
 clear hb h
 cases hn:named x.name with
 |false =>
  have HE:=Lib.hid (zh8 hn)
  rw[hn]at HN
  clear hn
  go_enter Tryz.func33,Tryz.ntmps33
  go_upto_region 1 with fail
  rw[←hW]
  clear hW
  go_wp2_with (first|(go_at_call 69;refine(HN.out _).mono ?_;rintro e w1 ⟨rfl,hw1⟩;subst hw1)|(go_at_call 70;refine(HR.out _).mono ?_;rintro e w1 ⟨rfl,hw1⟩;subst hw1)|(go_at_call 21;refine(HC.out _ hx).mono ?_;rintro e w1 ⟨rfl,hx1⟩;replace k0:=hx1.cell k0;replace k1:=hx1.cell k1;replace k2:=hx1.cell k2;replace k3:=hx1.cell k3;replace k4:=hx1.cell k4;replace k5:=hx1.cell k5;replace k6:=hx1.cell k6;have hlt1:=zf k0)|(go_at_call 71;refine(HS.out _ (hx.trans hx1)).mono ?_;rintro e w2 ⟨rfl,hx2⟩))
  go_ret
  exact⟨zm HE.out.symm,hx⟩
 |true =>
  rw[hn]at HN
  rcases zgy x.cnf x.role with ⟨r0,r1⟩|⟨r0,r1,r2,r3⟩|⟨r0,r1,r2⟩|⟨r0,r1,r2,r3⟩
  ·have HE:=Lib.hid (zdu hn r0)
   rw[r1]at HR
   clear hn r0 r1
   go_enter Tryz.func33,Tryz.ntmps33
   go_upto_region 1 with fail
   rw[←hW]
   clear hW
   go_wp2_with (first|(go_at_call 69;refine(HN.out _).mono ?_;rintro e w1 ⟨rfl,hw1⟩;subst hw1)|(go_at_call 70;refine(HR.out _).mono ?_;rintro e w1 ⟨rfl,hw1⟩;subst hw1)|(go_at_call 21;refine(HC.out _ hx).mono ?_;rintro e w1 ⟨rfl,hx1⟩;replace k0:=hx1.cell k0;replace k1:=hx1.cell k1;replace k2:=hx1.cell k2;replace k3:=hx1.cell k3;replace k4:=hx1.cell k4;replace k5:=hx1.cell k5;replace k6:=hx1.cell k6;have hlt1:=zf k0)|(go_at_call 71;refine(HS.out _ (hx.trans hx1)).mono ?_;rintro e w2 ⟨rfl,hx2⟩))
   go_ret
   exact⟨zm HE.out.symm,hx⟩
  ·have HE:=Lib.hid (zdu hn r0)
   have q2:(x.role.toList==[99,111,110,106,101,99,116,117,114,101])=_:=eqL (r:=zer) (by rw[Go.ByteArray.toList_eq];rfl) r3
   clear r3
   rw[r1]at HR
   rw[r2]at hW k0 HS ⊢
   clear hn r0 r1 r2
   go_enter Tryz.func33,Tryz.ntmps33
   go_upto_region 1 with fail
   rw[←hW]
   clear hW
   go_wp2_with (first|(go_at_call 69;refine(HN.out _).mono ?_;rintro e w1 ⟨rfl,hw1⟩;subst hw1)|(go_at_call 70;refine(HR.out _).mono ?_;rintro e w1 ⟨rfl,hw1⟩;subst hw1)|(go_at_call 21;refine(HC.out _ hx).mono ?_;rintro e w1 ⟨rfl,hx1⟩;replace k0:=hx1.cell k0;replace k1:=hx1.cell k1;replace k2:=hx1.cell k2;replace k3:=hx1.cell k3;replace k4:=hx1.cell k4;replace k5:=hx1.cell k5;replace k6:=hx1.cell k6;have hlt1:=zf k0)|(go_at_call 71;refine(HS.out _ (hx.trans hx1)).mono ?_;rintro e w2 ⟨rfl,hx2⟩))
   go_ret
   exact⟨zm HE.out.symm,hx⟩
  ·have HE:=Lib.hid (zdv hn r0)
   rw[r1]at HR
   rw[r2]at hW k0 HE HS ⊢
   clear hn r0 r1 r2
   by_cases hc:x.form.check=0
   ·replace HE:=Lib.hid (HE.out.trans (if_neg (fun h=>h hc)))
    rw[hc]at HC
    clear hc
    go_enter Tryz.func33,Tryz.ntmps33
    go_upto_region 1 with fail
    rw[←hW]
    clear hW
    go_wp2_with (first|(go_at_call 69;refine(HN.out _).mono ?_;rintro e w1 ⟨rfl,hw1⟩;subst hw1)|(go_at_call 70;refine(HR.out _).mono ?_;rintro e w1 ⟨rfl,hw1⟩;subst hw1)|(go_at_call 21;refine(HC.out _ hx).mono ?_;rintro e w1 ⟨rfl,hx1⟩;replace k0:=hx1.cell k0;replace k1:=hx1.cell k1;replace k2:=hx1.cell k2;replace k3:=hx1.cell k3;replace k4:=hx1.cell k4;replace k5:=hx1.cell k5;replace k6:=hx1.cell k6;have hlt1:=zf k0)|(go_at_call 71;refine(HS.out _ (hx.trans hx1)).mono ?_;rintro e w2 ⟨rfl,hx2⟩))
    go_ret
    exact⟨zm HE.out.symm,(hx.trans hx1).trans hx2⟩
   ·have q0:(x.form.check != 0)=true:=by rw[bne_iff_ne];exact hc
    replace HE:=Lib.hid (HE.out.trans (if_pos hc))
    clear hc
    go_enter Tryz.func33,Tryz.ntmps33
    go_upto_region 1 with fail
    rw[←hW]
    clear hW
    go_wp2_with (first|(go_at_call 69;refine(HN.out _).mono ?_;rintro e w1 ⟨rfl,hw1⟩;subst hw1)|(go_at_call 70;refine(HR.out _).mono ?_;rintro e w1 ⟨rfl,hw1⟩;subst hw1)|(go_at_call 21;refine(HC.out _ hx).mono ?_;rintro e w1 ⟨rfl,hx1⟩;replace k0:=hx1.cell k0;replace k1:=hx1.cell k1;replace k2:=hx1.cell k2;replace k3:=hx1.cell k3;replace k4:=hx1.cell k4;replace k5:=hx1.cell k5;replace k6:=hx1.cell k6;have hlt1:=zf k0)|(go_at_call 71;refine(HS.out _ (hx.trans hx1)).mono ?_;rintro e w2 ⟨rfl,hx2⟩))
    go_ret
    exact⟨zm HE.out.symm,hx.trans hx1⟩
  ·have HE:=Lib.hid (zdv hn r0)
   have q2:(x.role.toList==[99,111,110,106,101,99,116,117,114,101])=_:=eqL (r:=zer) (by rw[Go.ByteArray.toList_eq];rfl) r3
   clear r3
   rw[r1]at HR
   rw[r2]at hW k0 HE HS ⊢
   clear hn r0 r1 r2
   by_cases hc:x.form.check=0
   ·replace HE:=Lib.hid (HE.out.trans (if_neg (fun h=>h hc)))
    rw[hc]at HC
    clear hc
    go_enter Tryz.func33,Tryz.ntmps33
    go_upto_region 1 with fail
    rw[←hW]
    clear hW
    go_wp2_with (first|(go_at_call 69;refine(HN.out _).mono ?_;rintro e w1 ⟨rfl,hw1⟩;subst hw1)|(go_at_call 70;refine(HR.out _).mono ?_;rintro e w1 ⟨rfl,hw1⟩;subst hw1)|(go_at_call 21;refine(HC.out _ hx).mono ?_;rintro e w1 ⟨rfl,hx1⟩;replace k0:=hx1.cell k0;replace k1:=hx1.cell k1;replace k2:=hx1.cell k2;replace k3:=hx1.cell k3;replace k4:=hx1.cell k4;replace k5:=hx1.cell k5;replace k6:=hx1.cell k6;have hlt1:=zf k0)|(go_at_call 71;refine(HS.out _ (hx.trans hx1)).mono ?_;rintro e w2 ⟨rfl,hx2⟩))
    go_ret
    exact⟨zm HE.out.symm,(hx.trans hx1).trans hx2⟩
   ·have q0:(x.form.check != 0)=true:=by rw[bne_iff_ne];exact hc
    replace HE:=Lib.hid (HE.out.trans (if_pos hc))
    clear hc
    go_enter Tryz.func33,Tryz.ntmps33
    go_upto_region 1 with fail
    rw[←hW]
    clear hW
    go_wp2_with (first|(go_at_call 69;refine(HN.out _).mono ?_;rintro e w1 ⟨rfl,hw1⟩;subst hw1)|(go_at_call 70;refine(HR.out _).mono ?_;rintro e w1 ⟨rfl,hw1⟩;subst hw1)|(go_at_call 21;refine(HC.out _ hx).mono ?_;rintro e w1 ⟨rfl,hx1⟩;replace k0:=hx1.cell k0;replace k1:=hx1.cell k1;replace k2:=hx1.cell k2;replace k3:=hx1.cell k3;replace k4:=hx1.cell k4;replace k5:=hx1.cell k5;replace k6:=hx1.cell k6;have hlt1:=zf k0)|(go_at_call 71;refine(HS.out _ (hx.trans hx1)).mono ?_;rintro e w2 ⟨rfl,hx2⟩))
    go_ret
    exact⟨zm HE.out.symm,hx.trans hx1⟩
theorem zlv (x:Ent) (P:Nat→Prop) (w:World) (a b c d:Value) (h:IsEnt P w a b c d x) (hs:x.form.size≤1048576) :
  Calls Tryz.prog 34 #[entV x a b c d] w fun e w'=>e=.returned (.int .i64 x.check)∧Ext w w':=by
 have HN:=Lib.hid (fun w=>zd3 x.name h.1 w)
 have HR:=Lib.hid (fun w=>zpz x.role w)
 have HC:=Lib.hid (fun w' (hx:Ext w w')=>zjg x.form P w' a b c d (h.2.2.ext hx) (by omega))
 have HS:=Lib.hid (fun w' (hx:Ext w w')=>zor x P w' a b c d (h.ext hx) (by omega))
 obtain⟨b1,c1,b2,c2,b3,c3,rfl,rfl,rfl,rfl,-⟩:=h.2.2.form
 unfold entV at HS ⊢
 obtain⟨W,hW⟩:∃W,W=w.alloc (.cells #[.bool x.cnf,.string x.name,.string x.role,.int .i64 x.form.op,.slice b1 x.form.vars.length c1,.slice b2 x.form.terms.length c2,.slice b3 x.form.args.length c3] 53):=⟨_,rfl⟩
 have hx:Ext w W:=by rw[hW];exact zb _ _
 have hb:Own W w.heap.size [.bool x.cnf,.string x.name,.string x.role,.int .i64 x.form.op,.slice b1 x.form.vars.length c1,.slice b2 x.form.terms.length c2,.slice b3 x.form.args.length c3]:=by rw[hW];exact zcr w _ _
 obtain⟨⟨k0,k1,k2⟩,⟨k3,k4,k5,k6⟩,hlt⟩:=zbd hb
 clear hb h
 cases hn:named x.name with
 |false =>
  have HE:=Lib.hid (zh8 hn)
  rw[hn]at HN
  clear hn
  go_enter Tryz.func34,Tryz.ntmps34
  go_upto_region 1 with fail
  rw[←hW]
  clear hW
  go_wp2_with (first|(go_at_call 72;refine(HN.out _).mono ?_;rintro e w1 ⟨rfl,hw1⟩;subst hw1)|(go_at_call 73;refine(HR.out _).mono ?_;rintro e w1 ⟨rfl,hw1⟩;subst hw1)|(go_at_call 22;refine(HC.out _ hx).mono ?_;rintro e w1 ⟨rfl,hx1⟩;replace k0:=hx1.cell k0;replace k1:=hx1.cell k1;replace k2:=hx1.cell k2;replace k3:=hx1.cell k3;replace k4:=hx1.cell k4;replace k5:=hx1.cell k5;replace k6:=hx1.cell k6;have hlt1:=zf k0)|(go_at_call 74;refine(HS.out _ (hx.trans hx1)).mono ?_;rintro e w2 ⟨rfl,hx2⟩))
  go_ret
  exact⟨zm HE.out.symm,hx⟩
 |true =>
  rw[hn]at HN
  rcases zgy x.cnf x.role with ⟨r0,r1⟩|⟨r0,r1,r2,r3⟩|⟨r0,r1,r2⟩|⟨r0,r1,r2,r3⟩
  ·have HE:=Lib.hid (zdu hn r0)
   rw[r1]at HR
   clear hn r0 r1
   go_enter Tryz.func34,Tryz.ntmps34
   go_upto_region 1 with fail
   rw[←hW]
   clear hW
   go_wp2_with (first|(go_at_call 72;refine(HN.out _).mono ?_;rintro e w1 ⟨rfl,hw1⟩;subst hw1)|(go_at_call 73;refine(HR.out _).mono ?_;rintro e w1 ⟨rfl,hw1⟩;subst hw1)|(go_at_call 22;refine(HC.out _ hx).mono ?_;rintro e w1 ⟨rfl,hx1⟩;replace k0:=hx1.cell k0;replace k1:=hx1.cell k1;replace k2:=hx1.cell k2;replace k3:=hx1.cell k3;replace k4:=hx1.cell k4;replace k5:=hx1.cell k5;replace k6:=hx1.cell k6;have hlt1:=zf k0)|(go_at_call 74;refine(HS.out _ (hx.trans hx1)).mono ?_;rintro e w2 ⟨rfl,hx2⟩))
   go_ret
   exact⟨zm HE.out.symm,hx⟩
  ·have HE:=Lib.hid (zdu hn r0)
   have q2:(x.role.toList==[99,111,110,106,101,99,116,117,114,101])=_:=eqL (r:=zer) (by rw[Go.ByteArray.toList_eq];rfl) r3
   clear r3
   rw[r1]at HR
   rw[r2]at hW k0 HS ⊢
   clear hn r0 r1 r2
   go_enter Tryz.func34,Tryz.ntmps34
   go_upto_region 1 with fail
   rw[←hW]
   clear hW
   go_wp2_with (first|(go_at_call 72;refine(HN.out _).mono ?_;rintro e w1 ⟨rfl,hw1⟩;subst hw1)|(go_at_call 73;refine(HR.out _).mono ?_;rintro e w1 ⟨rfl,hw1⟩;subst hw1)|(go_at_call 22;refine(HC.out _ hx).mono ?_;rintro e w1 ⟨rfl,hx1⟩;replace k0:=hx1.cell k0;replace k1:=hx1.cell k1;replace k2:=hx1.cell k2;replace k3:=hx1.cell k3;replace k4:=hx1.cell k4;replace k5:=hx1.cell k5;replace k6:=hx1.cell k6;have hlt1:=zf k0)|(go_at_call 74;refine(HS.out _ (hx.trans hx1)).mono ?_;rintro e w2 ⟨rfl,hx2⟩))
   go_ret
   exact⟨zm HE.out.symm,hx⟩
  ·have HE:=Lib.hid (zdv hn r0)
   rw[r1]at HR
   rw[r2]at hW k0 HE HS ⊢
   clear hn r0 r1 r2
   by_cases hc:x.form.check=0
   ·replace HE:=Lib.hid (HE.out.trans (if_neg (fun h=>h hc)))
    rw[hc]at HC
    clear hc
    go_enter Tryz.func34,Tryz.ntmps34
    go_upto_region 1 with fail
    rw[←hW]
    clear hW
    go_wp2_with (first|(go_at_call 72;refine(HN.out _).mono ?_;rintro e w1 ⟨rfl,hw1⟩;subst hw1)|(go_at_call 73;refine(HR.out _).mono ?_;rintro e w1 ⟨rfl,hw1⟩;subst hw1)|(go_at_call 22;refine(HC.out _ hx).mono ?_;rintro e w1 ⟨rfl,hx1⟩;replace k0:=hx1.cell k0;replace k1:=hx1.cell k1;replace k2:=hx1.cell k2;replace k3:=hx1.cell k3;replace k4:=hx1.cell k4;replace k5:=hx1.cell k5;replace k6:=hx1.cell k6;have hlt1:=zf k0)|(go_at_call 74;refine(HS.out _ (hx.trans hx1)).mono ?_;rintro e w2 ⟨rfl,hx2⟩))
    go_ret
    exact⟨zm HE.out.symm,(hx.trans hx1).trans hx2⟩
   ·have q0:(x.form.check != 0)=true:=by rw[bne_iff_ne];exact hc
    replace HE:=Lib.hid (HE.out.trans (if_pos hc))
    clear hc
    go_enter Tryz.func34,Tryz.ntmps34
    go_upto_region 1 with fail
    rw[←hW]
    clear hW
    go_wp2_with (first|(go_at_call 72;refine(HN.out _).mono ?_;rintro e w1 ⟨rfl,hw1⟩;subst hw1)|(go_at_call 73;refine(HR.out _).mono ?_;rintro e w1 ⟨rfl,hw1⟩;subst hw1)|(go_at_call 22;refine(HC.out _ hx).mono ?_;rintro e w1 ⟨rfl,hx1⟩;replace k0:=hx1.cell k0;replace k1:=hx1.cell k1;replace k2:=hx1.cell k2;replace k3:=hx1.cell k3;replace k4:=hx1.cell k4;replace k5:=hx1.cell k5;replace k6:=hx1.cell k6;have hlt1:=zf k0)|(go_at_call 74;refine(HS.out _ (hx.trans hx1)).mono ?_;rintro e w2 ⟨rfl,hx2⟩))
    go_ret
    exact⟨zm HE.out.symm,hx.trans hx1⟩
  ·have HE:=Lib.hid (zdv hn r0)
   have q2:(x.role.toList==[99,111,110,106,101,99,116,117,114,101])=_:=eqL (r:=zer) (by rw[Go.ByteArray.toList_eq];rfl) r3
   clear r3
   rw[r1]at HR
   rw[r2]at hW k0 HE HS ⊢
   clear hn r0 r1 r2
   by_cases hc:x.form.check=0
   ·replace HE:=Lib.hid (HE.out.trans (if_neg (fun h=>h hc)))
    rw[hc]at HC
    clear hc
    go_enter Tryz.func34,Tryz.ntmps34
    go_upto_region 1 with fail
    rw[←hW]
    clear hW
    go_wp2_with (first|(go_at_call 72;refine(HN.out _).mono ?_;rintro e w1 ⟨rfl,hw1⟩;subst hw1)|(go_at_call 73;refine(HR.out _).mono ?_;rintro e w1 ⟨rfl,hw1⟩;subst hw1)|(go_at_call 22;refine(HC.out _ hx).mono ?_;rintro e w1 ⟨rfl,hx1⟩;replace k0:=hx1.cell k0;replace k1:=hx1.cell k1;replace k2:=hx1.cell k2;replace k3:=hx1.cell k3;replace k4:=hx1.cell k4;replace k5:=hx1.cell k5;replace k6:=hx1.cell k6;have hlt1:=zf k0)|(go_at_call 74;refine(HS.out _ (hx.trans hx1)).mono ?_;rintro e w2 ⟨rfl,hx2⟩))
    go_ret
    exact⟨zm HE.out.symm,(hx.trans hx1).trans hx2⟩
   ·have q0:(x.form.check != 0)=true:=by rw[bne_iff_ne];exact hc
    replace HE:=Lib.hid (HE.out.trans (if_pos hc))
    clear hc
    go_enter Tryz.func34,Tryz.ntmps34
    go_upto_region 1 with fail
    rw[←hW]
    clear hW
    go_wp2_with (first|(go_at_call 72;refine(HN.out _).mono ?_;rintro e w1 ⟨rfl,hw1⟩;subst hw1)|(go_at_call 73;refine(HR.out _).mono ?_;rintro e w1 ⟨rfl,hw1⟩;subst hw1)|(go_at_call 22;refine(HC.out _ hx).mono ?_;rintro e w1 ⟨rfl,hx1⟩;replace k0:=hx1.cell k0;replace k1:=hx1.cell k1;replace k2:=hx1.cell k2;replace k3:=hx1.cell k3;replace k4:=hx1.cell k4;replace k5:=hx1.cell k5;replace k6:=hx1.cell k6;have hlt1:=zf k0)|(go_at_call 74;refine(HS.out _ (hx.trans hx1)).mono ?_;rintro e w2 ⟨rfl,hx2⟩))
    go_ret
    exact⟨zm HE.out.symm,hx.trans hx1⟩
def z1j (f:ByteArray×ByteArray):List Dat:=[.str f.1,.str f.2]
def IsFiles (P:Nat→Prop) (w:World) (a:Option Addr) (l:List (ByteArray×ByteArray)):Prop:=Dat.Rows P w a (l.map z1j)
theorem IsFiles.ext {P:Nat→Prop}{w w':World}{a:Option Addr}{l:List (ByteArray×ByteArray)}(h:IsFiles P w a l) (hx:Ext w w'):IsFiles P w' a l:=Dat.Rows.ext h hx
theorem IsFiles.look {P:Nat→Prop}{w:World}{a:Option Addr}{l:List (ByteArray×ByteArray)}(h:IsFiles P w a l){i:Nat}(hi:i<l.length) :
  ∃b o,a=some ⟨b,o,none⟩∧P b∧w.cell? ⟨b,o+i * 2,none⟩=some (.string l[i].1)∧w.cell? ⟨b,o+i * 2+1,none⟩=some (.string l[i].2)∧l[i].1.size≤1073741824∧l[i].2.size≤1073741824:=by
 obtain⟨b,o,rfl,hb⟩:=Dat.Rows.addr h (by rw[List.length_map];omega)
 obtain⟨vs,h1,h2⟩:=Dat.Rows.at (m:=2) h (fun e he=>by obtain⟨x,-,rfl⟩:=List.mem_map.1 he;rfl) (i:=i) (by rw[List.length_map];exact hi)
 rw[List.getElem_map]at h2
 have hlen:=h2.length
 match vs,hlen with
 |[x,y],_ =>
  obtain⟨⟨rfl,r1⟩,⟨rfl,r2⟩,-⟩:=h2
  exact⟨b,o,rfl,hb,h1 0 _ rfl,h1 1 _ rfl,r1,r2⟩
def IsEnts (P:Nat→Prop) (w:World) (a:Option Addr) (l:List Ent):Prop:=Dat.Rows P w a (l.map Ent.dat)
theorem IsEnts.ext {P:Nat→Prop}{w w':World}{a:Option Addr}{l:List Ent}(h:IsEnts P w a l) (hx:Ext w w'):IsEnts P w' a l:=Dat.Rows.ext h hx
theorem IsEnts.look {P:Nat→Prop}{w:World}{a:Option Addr}{l:List Ent}(h:IsEnts P w a l){i:Nat}(hi:i<l.length) :
  ∃b o x0 x1 x2 x3,a=some ⟨b,o,none⟩∧P b∧(w.cell? ⟨b,o+i * 7,none⟩=some (.bool l[i].cnf)∧w.cell? ⟨b,o+i * 7+1,none⟩=some (.string l[i].name)∧w.cell? ⟨b,o+i * 7+2,none⟩=some (.string l[i].role)) ∧
   (w.cell? ⟨b,o+i * 7+3,none⟩=some x0∧w.cell? ⟨b,o+i * 7+4,none⟩=some x1∧w.cell? ⟨b,o+i * 7+5,none⟩=some x2∧w.cell? ⟨b,o+i * 7+6,none⟩=some x3)∧IsEnt P w x0 x1 x2 x3 l[i]:=by
 obtain⟨b,o,rfl,hb⟩:=Dat.Rows.addr h (by rw[List.length_map];omega)
 obtain⟨vs,h1,h2⟩:=Dat.Rows.at (m:=7) h (fun e he=>by obtain⟨x,-,rfl⟩:=List.mem_map.1 he;exact x.dat_length) (i:=i) (by rw[List.length_map];exact hi)
 rw[List.getElem_map]at h2
 obtain⟨x0,x1,x2,x3,rfl,h3⟩:=IsEnt.of_fs h2
 exact⟨b,o,x0,x1,x2,x3,rfl,hb,⟨h1 0 _ rfl,h1 1 _ rfl,h1 2 _ rfl⟩,⟨h1 3 _ rfl,h1 4 _ rfl,h1 5 _ rfl,h1 6 _ rfl⟩,h3⟩
def zdm {α:Type}(p:α→Bool) (l:List α):Int:=match l.findIdx? p with|some i=>(i:Int)|none=>-1
theorem zh9 {α:Type}{p:α→Bool}{l:List α}{k:Nat}(hk:k<l.length) (h:(l.take k).any p=false) (hp:p l[k]=true):zdm p l=k:=by
 have:l.findIdx? p=some k:=by
  rw[List.findIdx?_eq_some_iff_getElem]
  refine⟨hk,hp,fun j hj=>?_⟩
  have:=List.any_eq_false.1 h (l[j]'(by omega)) (by rw[List.mem_iff_getElem];exact⟨j,by rw[List.length_take];omega,by rw[List.getElem_take]⟩)
  simpa using this
 unfold zdm;rw[this]
theorem zd0 {α:Type}{p:α→Bool}{l:List α}(h:l.any p=false):zdm p l=-1:=by
 have:l.findIdx? p=none:=by
  rw[List.findIdx?_eq_none_iff]
  intro x hx
  have:=List.any_eq_false.1 h x hx
  simpa using this
 unfold zdm;rw[this]
theorem zuw {α:Type}(p:α→Bool) (l:List α):decide (0≤zdm p l)=l.any p:=by
 cases h:l.any p with
 |false=>rw[zd0 h];rfl
 |true =>
  unfold zdm
  cases hf:l.findIdx? p with
  |none =>
   rw[List.findIdx?_eq_none_iff]at hf
   obtain⟨x,hx,hp⟩:=List.any_eq_true.1 h
   rw[hf x hx]at hp;cases hp
  |some i=>simp
theorem zos {α:Type}{p:α→Bool}{l:List α}{k:Nat}(h:k<l.length):(l.take (k+1)).any p=((l.take k).any p || p l[k]):=by
 rw[List.take_succ_eq_append_getElem h,List.any_append];simp
theorem zzs {n t nm:ByteArray}{fb:Nat}{w:World}(h:w.cell? ⟨fb,0,none⟩=some (.string nm)):Calls Tryz.prog 149 #[.agg #[.string n,.string t],.pointer (some ⟨fb,0,none⟩)] w fun e w'=>e=.returned (.bool (decide (n=nm)))∧Ext w w':=by
 have hx:Ext w (w.alloc (.cells #[.string n,.string t] 100)):=zb _ _
 have h1:=hx.cell h
 have hlt:=zf h1
 have HB:=Lib.hid (zma n nm)
 go_enter Tryz.func149,Tryz.ntmps149
 go_wp2_with fail
 go_ret
 exact⟨ze HB.out,hx⟩
theorem zzt {x:Ent}{P:Nat→Prop}{a b c d:Value}{nm:ByteArray}{sb:Nat}{w:World}(hi:IsEnt P w a b c d x) (h:w.cell? ⟨sb,0,none⟩=some (.string nm)):Calls Tryz.prog 151 #[entV x a b c d,.pointer (some ⟨sb,0,none⟩)] w fun e w'=>e=.returned (.bool (decide (x.name=nm)))∧Ext w w':=by
 obtain⟨b1,c1,b2,c2,b3,c3,rfl,rfl,rfl,rfl,-⟩:=hi.2.2.form
 unfold entV
 have hx:Ext w (w.alloc (.cells #[.bool x.cnf,.string x.name,.string x.role,.int .i64 x.form.op,.slice b1 x.form.vars.length c1,.slice b2 x.form.terms.length c2,.slice b3 x.form.args.length c3] 53)):=zb _ _
 have h1:=hx.cell h
 have hlt:=zf h1
 have HB:=Lib.hid (zma x.name nm)
 go_enter Tryz.func151,Tryz.ntmps151
 go_wp2_with fail
 go_ret
 exact⟨ze HB.out,hx⟩
theorem ztm {x:Ent}{P Q:Nat→Prop}{a b c d:Value}{ns:List ByteArray}{na:Option Addr}{nc nb:Nat}{w:World}(hi:IsEnt P w a b c d x) (h:w.cell? ⟨nb,0,none⟩=some (.slice na ns.length nc)) (hns:IsStrs Q w na ns) (hl:ns.length≤1073741824):Calls Tryz.prog 153 #[entV x a b c d,.pointer (some ⟨nb,0,none⟩)] w fun e w'=>e=.returned (.bool (!(inB ns x.name)))∧Ext w w':=by
 obtain⟨b1,c1,b2,c2,b3,c3,rfl,rfl,rfl,rfl,-⟩:=hi.2.2.form
 unfold entV
 have hx:Ext w (w.alloc (.cells #[.bool x.cnf,.string x.name,.string x.role,.int .i64 x.form.op,.slice b1 x.form.vars.length c1,.slice b2 x.form.terms.length c2,.slice b3 x.form.args.length c3] 53)):=zb _ _
 have h1:=hx.cell h
 have hlt:=zf h1
 have HC:=Lib.hid (fun w' (hx:Ext w w')=>zjp (c:=nc) hl (Dat.Rows.ext hns hx) x.name)
 clear h hns
 go_enter Tryz.func153,Tryz.ntmps153
 go_wp2_with (go_at_call 154;refine(HC.out _ hx).mono ?_;rintro e w2 ⟨rfl,hw2⟩;subst hw2)
 go_ret
 exact⟨rfl,hx⟩
theorem zsh {l:List (ByteArray×ByteArray)}(hn:l.length≤1073741824){P:Nat→Prop}{w:World}{a:Option Addr}{c:Nat}(h:IsFiles P w a l){fb:Nat}{nm:ByteArray}(hf:w.cell? ⟨fb,0,none⟩=some (.string nm)) :
  Calls Tryz.prog 148 #[.slice a l.length c,.func (.func 149) #[] #[.pointer (some ⟨fb,0,none⟩)]] w fun e w'=>e=.returned (.int .i64 (zdm (fun x=>decide (x.1=nm)) l))∧Ext w w':=by
 go_enter Tryz.func148,Tryz.ntmps148
 go_wp2_with fail
 go_loopw [8] (fun i wr=>∃k:Nat,k≤l.length∧i=.int .i64 k∧Ext w wr∧(l.take k).any (fun x=>decide (x.1=nm))=false) (fun i _=>l.length-(intOf i).toNat)
 case atStart=>exact⟨0,Nat.zero_le _,rfl,Below.refl _ _,rfl⟩
 case round =>
  obtain⟨k,hk,rfl,hx,hm⟩:=hrel
  have HM:=Lib.hid hm;clear hm
  by_cases hlt:k<l.length
  ·obtain⟨b,o,rfl,hb,g1,g2,-,-⟩:=(h.ext hx).look hlt
   have hlt':(k:Int)<l.length:=by omega
   have HST:=Lib.hid (zos (p:=fun x=>decide (x.1=nm)) hlt)
   have HE:=Lib.hid (zzs (n:=l[k].1) (t:=l[k].2) (w:=wr) (hx.cell hf))
   cases hp:decide (l[k].1=nm) with
   |false =>
    rw[hp]at HE
    have HP:=Lib.hid hp
    clear hp
    go_wp2_with (go_at_call 149;refine(HE.out).mono ?_;rintro e w1 ⟨rfl,hx1⟩)
    go_roundw
    case rel=>exact⟨k+1,by omega,by go_num,hx.trans hx1,by rw[HST.out,HM.out];simp only[HP.out];rfl⟩
    case measure=>simp[intOf];omega
   |true =>
    rw[hp]at HE
    have HF:=Lib.hid (zh9 (p:=fun x=>decide (x.1=nm)) hlt HM.out hp)
    clear hp
    go_wp2_with (go_at_call 149;refine(HE.out).mono ?_;rintro e w1 ⟨rfl,hx1⟩)
    go_ret
    exact⟨zm HF.out.symm,hx.trans hx1⟩
  ·have hlt':¬(k:Int)<l.length:=by omega
   go_wp2_with fail
   go_ret
   refine⟨?_,hx⟩
   have:k=l.length:=by omega
   subst this
   have:=HM.out
   rw[List.take_length]at this
   rw[zd0 this];rfl
theorem zsi {l:List Ent}(hn:l.length≤1073741824){P:Nat→Prop}{w:World}{a:Option Addr}{c:Nat}(h:IsEnts P w a l){sb:Nat}{nm:ByteArray}(hf:w.cell? ⟨sb,0,none⟩=some (.string nm)) :
  Calls Tryz.prog 181 #[.slice a l.length c,.func (.func 151) #[] #[.pointer (some ⟨sb,0,none⟩)]] w fun e w'=>e=.returned (.int .i64 (zdm (fun x=>decide (x.name=nm)) l))∧Ext w w':=by
 go_enter Tryz.func181,Tryz.ntmps181
 go_wp2_with fail
 go_loopw [8] (fun i wr=>∃k:Nat,k≤l.length∧i=.int .i64 k∧Ext w wr∧(l.take k).any (fun x=>decide (x.name=nm))=false) (fun i _=>l.length-(intOf i).toNat)
 case atStart=>exact⟨0,Nat.zero_le _,rfl,Below.refl _ _,rfl⟩
 case round =>
  obtain⟨k,hk,rfl,hx,hm⟩:=hrel
  have HM:=Lib.hid hm;clear hm
  by_cases hlt:k<l.length
  ·obtain⟨b,o,x0,x1,x2,x3,rfl,hb,⟨g1,g2,g3⟩,⟨g4,g5,g6,g7⟩,hi⟩:=(h.ext hx).look hlt
   have hlt':(k:Int)<l.length:=by omega
   have HST:=Lib.hid (zos (p:=fun x=>decide (x.name=nm)) hlt)
   have HE:=Lib.hid (zzt hi (hx.cell hf))
   obtain⟨d1,e1,d2,e2,d3,e3,rfl,rfl,rfl,rfl,-⟩:=hi.2.2.form
   unfold entV at HE
   clear hi
   cases hp:decide (l[k].name=nm) with
   |false =>
    rw[hp]at HE
    have HP:=Lib.hid hp
    clear hp
    go_wp2_with (go_at_call 151;refine(HE.out).mono ?_;rintro e w1 ⟨rfl,hx1⟩)
    go_roundw
    case rel=>exact⟨k+1,by omega,by go_num,hx.trans hx1,by rw[HST.out,HM.out];simp only[HP.out];rfl⟩
    case measure=>simp[intOf];omega
   |true =>
    rw[hp]at HE
    have HF:=Lib.hid (zh9 (p:=fun x=>decide (x.name=nm)) hlt HM.out hp)
    clear hp
    go_wp2_with (go_at_call 151;refine(HE.out).mono ?_;rintro e w1 ⟨rfl,hx1⟩)
    go_ret
    exact⟨zm HF.out.symm,hx.trans hx1⟩
  ·have hlt':¬(k:Int)<l.length:=by omega
   go_wp2_with fail
   go_ret
   refine⟨?_,hx⟩
   have:k=l.length:=by omega
   subst this
   have:=HM.out
   rw[List.take_length]at this
   rw[zd0 this];rfl
theorem zsj {l:List Ent}(hn:l.length≤1073741824){P Q:Nat→Prop}{w:World}{a:Option Addr}{c:Nat}(h:IsEnts P w a l){nb nc:Nat}{na:Option Addr}{ns:List ByteArray}(hf:w.cell? ⟨nb,0,none⟩=some (.slice na ns.length nc)) (hns:IsStrs Q w na ns) (hl:ns.length≤1073741824) :
  Calls Tryz.prog 181 #[.slice a l.length c,.func (.func 153) #[] #[.pointer (some ⟨nb,0,none⟩)]] w fun e w'=>e=.returned (.int .i64 (zdm (fun x=>!(inB ns x.name)) l))∧Ext w w':=by
 go_enter Tryz.func181,Tryz.ntmps181
 go_wp2_with fail
 go_loopw [8] (fun i wr=>∃k:Nat,k≤l.length∧i=.int .i64 k∧Ext w wr∧(l.take k).any (fun x=>!(inB ns x.name))=false) (fun i _=>l.length-(intOf i).toNat)
 case atStart=>exact⟨0,Nat.zero_le _,rfl,Below.refl _ _,rfl⟩
 case round =>
  obtain⟨k,hk,rfl,hx,hm⟩:=hrel
  have HM:=Lib.hid hm;clear hm
  by_cases hlt:k<l.length
  ·obtain⟨b,o,x0,x1,x2,x3,rfl,hb,⟨g1,g2,g3⟩,⟨g4,g5,g6,g7⟩,hi⟩:=(h.ext hx).look hlt
   have hlt':(k:Int)<l.length:=by omega
   have HST:=Lib.hid (zos (p:=fun x=>!(inB ns x.name)) hlt)
   have HE:=Lib.hid (ztm hi (hx.cell hf) (Dat.Rows.ext hns hx) hl)
   obtain⟨d1,e1,d2,e2,d3,e3,rfl,rfl,rfl,rfl,-⟩:=hi.2.2.form
   unfold entV at HE
   clear hi
   cases hp:!(inB ns l[k].name) with
   |false =>
    rw[hp]at HE
    have HP:=Lib.hid hp
    clear hp
    go_wp2_with (go_at_call 153;refine(HE.out).mono ?_;rintro e w1 ⟨rfl,hx1⟩)
    go_roundw
    case rel=>exact⟨k+1,by omega,by go_num,hx.trans hx1,by rw[HST.out,HM.out];simp only[HP.out];rfl⟩
    case measure=>simp[intOf];omega
   |true =>
    rw[hp]at HE
    have HF:=Lib.hid (zh9 (p:=fun x=>!(inB ns x.name)) hlt HM.out hp)
    clear hp
    go_wp2_with (go_at_call 153;refine(HE.out).mono ?_;rintro e w1 ⟨rfl,hx1⟩)
    go_ret
    exact⟨zm HF.out.symm,hx.trans hx1⟩
  ·have hlt':¬(k:Int)<l.length:=by omega
   go_wp2_with fail
   go_ret
   refine⟨?_,hx⟩
   have:k=l.length:=by omega
   subst this
   have:=HM.out
   rw[List.take_length]at this
   rw[zd0 this];rfl
theorem zux {l:List Ent}(hn:l.length≤1073741824){P:Nat→Prop}{w:World}{a:Option Addr}{c:Nat}(h:IsEnts P w a l){sb:Nat}{nm:ByteArray}(hf:w.cell? ⟨sb,0,none⟩=some (.string nm)) :
  Calls Tryz.prog 150 #[.slice a l.length c,.func (.func 151) #[] #[.pointer (some ⟨sb,0,none⟩)]] w fun e w'=>e=.returned (.bool (l.any fun x=>decide (x.name=nm)))∧Ext w w':=by
 have H:=Lib.hid (zsi hn (c:=c) h hf)
 have HA:=Lib.hid (zuw (fun x:Ent=>decide (x.name=nm)) l)
 clear h hf
 generalize zdm (fun x:Ent=>decide (x.name=nm)) l=k at H HA
 go_enter Tryz.func150,Tryz.ntmps150
 go_wp2_with (go_at_call 181;refine(H.out).mono ?_;rintro e w1 ⟨rfl,hx1⟩)
 go_ret
 exact⟨ze HA.out,hx1⟩
theorem zzu (l:List Tok) (hl:l.length≤524288){P:Nat→Prop}{w:World}{a:Option Addr}{c:Nat}(h:Dat.Rows P w a (l.map Tok.dat)) (hc:l.length≤c) (fr:Int) (hf1:-9223372036854775808≤fr) (hf2:fr≤9223372036854775807) :
  Calls Tryz.prog 12 #[.slice a l.length c,.int .i64 fr] w (ReadSays (zbo l fr) w):=by
 obtain⟨W,hW⟩:∃W,W=(w.alloc (.cells #[.int .i64 0,.slice none 0 0,.slice none 0 0,.slice none 0 0] 29)).alloc (.cells #[.int .i64 0] 3):=⟨_,rfl⟩
 have hx:Ext w W:=by rw[hW];exact(zb _ _).alloc _
 have hfb:Own W w.heap.size [.int .i64 0,.slice none 0 0,.slice none 0 0,.slice none 0 0]:=by rw[hW];exact(own4 w _ _ _ _ _).ext (zb _ _)
 have hnb:Own W (w.heap.size+1) [.int .i64 0]:=by
  rw[hW];have:=own1 (w.alloc (.cells #[.int .i64 0,.slice none 0 0,.slice none 0 0,.slice none 0 0] 29)) (.int .i64 0) 3
  rw[World.size_alloc]at this;exact this
 have hsW:W.heap.size=w.heap.size+2:=by rw[hW];simp
 have hnl:=hnb.lt
 have hfl:=hfb.lt
 obtain⟨⟨n0,g0⟩,⟨n1,g1⟩,⟨n2,g2⟩,⟨n3,g3⟩⟩:=hfb.cells4
 obtain⟨m0,s0⟩:=hnb 0 _ rfl
 by_cases hfr:fr<0∨(l.length:Int)≤fr
 ·have HE:=Lib.hid (show zbo l fr=(Fm.zero,0,230) by unfold zbo;rw[if_pos hfr])
  clear h
  have hcase:decide (fr<0)=true∨(decide (fr<0)=false∧decide ((l.length:Int)≤fr)=true):=by
   by_cases h0:fr<0
   ·exact .inl (decide_eq_true h0)
   ·exact .inr ⟨decide_eq_false h0,decide_eq_true (by omega)⟩
  clear hfr hsW
  rcases hcase with q1|⟨q1,q2⟩
  all_goals
   go_enter Tryz.func12,Tryz.ntmps12
   go_upto_region 1 with fail
   rw[←hW]
   clear hW
   go_wp2
   have hch:=zbr W w.heap.size (.int .i64 0) (.slice none 0 0) (.slice none 0 0) (.slice none 0 0)
   have hm1:=hnb.chg hch (by simp)
   obtain⟨m1,-⟩:=hm1 0 _ rfl
   have hch2:=(Chg.refl [w.heap.size+1] ((((W.setCell ⟨w.heap.size,0,none⟩ (.int .i64 0)).setCell ⟨w.heap.size,1,none⟩ (.slice none 0 0)).setCell ⟨w.heap.size,2,none⟩ (.slice none 0 0)).setCell ⟨w.heap.size,3,none⟩ (.slice none 0 0))).setCell (p:=⟨w.heap.size+1,0,none⟩) (.int .i64 0) (.inl (by simp))
   have hn2:=(zbq hfb (.int .i64 0) (.slice none 0 0) (.slice none 0 0) (.slice none 0 0)).chg hch2 (by simp)
   have hm2:=hm1.set (i:=0) (by simp) (.int .i64 0)
   obtain⟨r0,r1,r2,r3⟩:=zd9 hn2
   obtain⟨y0,-⟩:=hm2 0 _ rfl
   refine bodyPost_ret (v:=.tuple #[.agg #[.int .i64 0,.slice none 0 0,.slice none 0 0,.slice none 0 0],.int .i64 0,.int .i64 230]) (by simp[results,Tryz.results12,go_sem,r0,r1,r2,r3,y0]) rfl ?_
   rw[HE.out]
   exact ReadSays.mk rfl ⟨_,_,_,_,rfl,zru⟩ (Chg.ext hx ((hch.mono (T:=[w.heap.size,w.heap.size+1]) (by simp)).trans (hch2.mono (by simp))) (by simp))
 ·have hfr1:0≤fr:=by omega
  have hfr2:fr<(l.length:Int):=by omega
  have q1:decide (fr<0)=false:=decide_eq_false (by omega)
  have q2:decide ((l.length:Int)≤fr)=false:=decide_eq_false (by omega)
  obtain⟨k,hk⟩:∃k:Nat,fr=k:=⟨fr.toNat,by omega⟩
  subst hk
  have hk1:k<l.length:=by omega
  have HE:=Lib.hid (show zbo l k=match zex (l.drop k) with
   |.bad r=>(Fm.zero,((zck l r:Nat):Int),(230:Int))
   |.ok f r=>if f.check≠0 then (Fm.zero,(k:Int),f.check)else (f,((l.length-r.length:Nat):Int),0) by
    unfold zbo;rw[if_neg hfr,Int.toNat_natCast];rfl)
  clear hfr hfr1 hf1 hf2
  obtain⟨W2,hW2⟩:∃W2,W2=(W.alloc (.cells #[.slice a l.length c,.int .i64 k] 63)).alloc (.cells #[.pointer (some ⟨w.heap.size+2,0,none⟩)] 61):=⟨_,rfl⟩
  obtain⟨W3,hW3⟩:∃W3,W3=W2.alloc (.cells #[.bool false] 4):=⟨_,rfl⟩
  have hx2:Ext W W3:=by rw[hW3,hW2];exact((zb _ _).alloc _).alloc _
  have hcb:Own W3 (w.heap.size+2) [.slice a l.length c,.int .i64 k]:=by
   rw[hW3,hW2];have:=((own2 W (.slice a l.length c) (.int .i64 k) 63).ext (zb _ (.cells #[.pointer (some ⟨w.heap.size+2,0,none⟩)] 61))).ext (zb _ (.cells #[.bool false] 4))
   rw[hsW]at this;exact this
  have hpb:Own W3 (w.heap.size+3) [.pointer (some ⟨w.heap.size+2,0,none⟩)]:=by
   rw[hW3,hW2];have:=(own1 (W.alloc (.cells #[.slice a l.length c,.int .i64 k] 63)) (.pointer (some ⟨w.heap.size+2,0,none⟩)) 61).ext (zb _ (.cells #[.bool false] 4))
   rw[World.size_alloc,hsW]at this;exact this
  have hlb:Own W3 (w.heap.size+4) [.bool false]:=by
   rw[hW3];have:=own1 W2 (.bool false) 4
   rw[show W2.heap.size=w.heap.size+4 by rw[hW2];simp[hsW]]at this;exact this
  have hfb3:=hfb.ext hx2
  have hnb3:=hnb.ext hx2
  have hsuf:l.drop k <:+ l:=zyy
  have hlen:(l.drop k).length=l.length-k:=List.length_drop
  have hcur:Cur (w.heap.size+2) l W3 (l.drop k):=⟨hsuf,a,c,hcb.eq (by rw[hlen,show l.length-(l.length-k)=k by omega]),hc,Dat.Rows.ext (Dat.Rows.mono h fun g _ hlt=>(show g<w.heap.size+2 by omega)) (hx.trans hx2)⟩
  obtain⟨p0,-⟩:=hpb 0 _ rfl
  have HF:=Lib.hid (zvo (by omega) (by omega) hcur hfb3 hnb3 hlb p0 (by omega) (by omega) (by omega) (by omega) (by have:=hfb3.lt;omega))
  unfold zpb at HF
  have hxw3:=hx.trans hx2
  clear h hcur hcb hsW p0 n0 n1 n2 n3 g0 g1 g2 g3 m0 s0 hsuf hlen
  cases hr:zex (l.drop k) with
  |bad r =>
   rw[hr]at HF HE
   clear hr
   go_enter Tryz.func12,Tryz.ntmps12
   go_upto_region 6 with (rw[←hW,←hW2,←hW3];refine(HF.out).mono ?_;rintro e w4 ⟨rfl,hx4,hn4,hl4⟩)
   clear hW hW2 hW3
   have hf4:=hfb3.chg hx4 (by simp)
   have hnl4:=hn4.lt
   have hfl4:=hf4.lt
   obtain⟨⟨n0,g0⟩,⟨n1,g1⟩,⟨n2,g2⟩,⟨n3,g3⟩⟩:=hf4.cells4
   obtain⟨m0,s0⟩:=hn4 0 _ rfl
   obtain⟨t0,-⟩:=hl4 0 _ rfl
   go_upto_region 7 with fail
   go_cut [6]from 26 to 27 (fun x wx=>x=.int .i64 230∧Own wx w.heap.size [.int .i64 0,.slice none 0 0,.slice none 0 0,.slice none 0 0]∧Own wx (w.heap.size+1) [.int .i64 (zck l r:Nat)]∧Chg [w.heap.size,w.heap.size+1] w4 wx)
   case first =>
    go_region_with fail
    all_goals
     go_wp2_with fail
     go_meet
     refine⟨rfl,?_,?_,?_⟩
     ·exact((zbq hf4 (.int .i64 0) (.slice none 0 0) (.slice none 0 0) (.slice none 0 0)).chg ((Chg.refl [w.heap.size+1] _).setCell (p:=⟨w.heap.size+1,0,none⟩) _ (.inl (by simp))) (by simp)).ext (Ext.drew (Below.refl _ _))
     ·exact((hn4.chg (zbr w4 w.heap.size (.int .i64 0) (.slice none 0 0) (.slice none 0 0) (.slice none 0 0)) (by simp)).set (i:=0) (by simp) _).ext (Ext.drew (Below.refl _ _))
     ·exact(((zbr w4 w.heap.size (.int .i64 0) (.slice none 0 0) (.slice none 0 0) (.slice none 0 0)).mono (T:=[w.heap.size,w.heap.size+1]) (by simp)).setCell (p:=⟨w.heap.size+1,0,none⟩) _ (.inl (by simp))).trans (Chg.of_ext (Ext.drew (Below.refl _ _)))
   case rest =>
    obtain⟨rfl,h1,h2,h3⟩:=hcut
    obtain⟨r0,r1,r2,r3⟩:=zd9 h1
    obtain⟨y0,-⟩:=h2 0 _ rfl
    go_wp2_with fail
    refine bodyPost_ret (v:=.tuple #[.agg #[.int .i64 0,.slice none 0 0,.slice none 0 0,.slice none 0 0],.int .i64 (zck l r:Nat),.int .i64 230]) (by simp[results,Tryz.results12,go_sem,r0,r1,r2,r3,y0]) rfl ?_
    rw[HE.out]
    exact ReadSays.mk rfl ⟨_,_,_,_,rfl,zru⟩ (Chg.ext hxw3 ((hx4.mono (T:=[w.heap.size,w.heap.size+1,w.heap.size+2,w.heap.size+4]) (by simp)).trans (h3.mono (by simp))) (by simp))
  |ok f r =>
   have hfit:=znh _ _ _ hr
   rw[List.length_drop]at hfit
   rw[hr]at HF
   replace HE:=Lib.hid (show zbo l k=if f.check≠0 then (Fm.zero,(k:Int),f.check)else (f,((l.length-r.length:Nat):Int),0) by rw[HE.out,hr])
   clear hr
   have hwW3:=hxw3.size
   go_enter Tryz.func12,Tryz.ntmps12
   go_upto_region 6 with (rw[←hW,←hW2,←hW3];refine(HF.out).mono ?_;rintro e w4 ⟨rfl,hx4,⟨x0,x1,x2,x3,hf4,hfm⟩,ca,cc,hc4⟩)
   clear hW hW2 hW3
   have hn4:=hnb3.chg hx4 (by simp)
   have hl4:=hlb.chg hx4 (by simp)
   have hp4:=hpb.chg hx4 (by simp)
   obtain⟨b1,c1,b2,c2,b3,c3,rfl,rfl,rfl,rfl⟩:=zdq hfm
   have hfm4:IsFm (fun g=>w.heap.size+5≤g) w4 _ _ _ _ f:=Dat.Fs.mono hfm fun g hg _=>(show w.heap.size+5≤g by have:=hlb.lt;omega)
   have hxw4:Ext w w4:=Chg.ext hxw3 hx4 (by simp)
   have hnl4:=hn4.lt
   have hfl4:=hf4.lt
   obtain⟨⟨n0,g0⟩,⟨n1,g1⟩,⟨n2,g2⟩,⟨n3,g3⟩⟩:=hf4.cells4
   obtain⟨m0,s0⟩:=hn4 0 _ rfl
   obtain⟨t0,-⟩:=hl4 0 _ rfl
   have HCk:=Lib.hid (zlu f _ w4 _ _ _ _ hfm4 (by omega))
   obtain⟨ck,hck⟩:∃ck,ck=f.check:=⟨_,rfl⟩
   rw[←hck]at HCk HE
   clear hck hfm hx4 hfb3 hnb3 hlb hpb hx2 hfb hnb hx
   by_cases h0:ck=0
   ·subst h0
    have HE:=Lib.hid (HE.out.trans (if_neg (fun h=>h rfl)))
    go_upto_region 9 with (go_at_call 21;refine(HCk.out).mono ?_;rintro e w5 ⟨rfl,hx5⟩)
    have hn5:=hn4.ext hx5
    have hf5:=hf4.ext hx5
    have hc5:=hc4.ext hx5
    have hp5:=hp4.ext hx5
    have hfm5:=IsFm.ext hfm4 hx5
    have hxw5:=hxw4.trans hx5
    clear n0 n1 n2 n3 g0 g1 g2 g3 m0 s0 t0 hn4 hf4 hc4 hp4 hl4 hfm4 hxw4 hnl4 hfl4
    obtain⟨⟨n0,g0⟩,⟨n1,g1⟩,⟨n2,g2⟩,⟨n3,g3⟩⟩:=hf5.cells4
    obtain⟨m0,s0⟩:=hn5 0 _ rfl
    obtain⟨p0,-⟩:=hp5 0 _ rfl
    obtain⟨z1,-⟩:=hc5 1 _ rfl
    have hnl4:=hn5.lt
    have hfl4:=hf5.lt
    go_upto_region 11 with fail
    go_cut [6]from 35 to 39 (fun x wx=>x=.int .i64 0∧Own wx w.heap.size [.int .i64 f.op,.slice b1 f.vars.length c1,.slice b2 f.terms.length c2,.slice b3 f.args.length c3]∧Own wx (w.heap.size+1) [.int .i64 (l.length-r.length:Nat)]∧Chg [w.heap.size,w.heap.size+1] w5 wx)
    case first =>
     go_region_with fail
     all_goals
      go_wp2_with fail
      go_meet
      refine⟨rfl,?_,?_,?_⟩
      ·exact((zbq hf5 (.int .i64 f.op) (.slice b1 f.vars.length c1) (.slice b2 f.terms.length c2) (.slice b3 f.args.length c3)).chg ((Chg.refl [w.heap.size+1] _).setCell (p:=⟨w.heap.size+1,0,none⟩) _ (.inl (by simp))) (by simp)).ext (Ext.drew (Below.refl _ _))
      ·exact((hn5.chg (zbr w5 w.heap.size (.int .i64 f.op) (.slice b1 f.vars.length c1) (.slice b2 f.terms.length c2) (.slice b3 f.args.length c3)) (by simp)).set (i:=0) (by simp) _).ext (Ext.drew (Below.refl _ _))
      ·exact(((zbr w5 w.heap.size (.int .i64 f.op) (.slice b1 f.vars.length c1) (.slice b2 f.terms.length c2) (.slice b3 f.args.length c3)).mono (T:=[w.heap.size,w.heap.size+1]) (by simp)).setCell (p:=⟨w.heap.size+1,0,none⟩) _ (.inl (by simp))).trans (Chg.of_ext (Ext.drew (Below.refl _ _)))
    case rest =>
     obtain⟨rfl,h1,h2,h3⟩:=hcut
     obtain⟨r0,r1,r2,r3⟩:=zd9 h1
     obtain⟨y0,-⟩:=h2 0 _ rfl
     go_wp2_with fail
     refine bodyPost_ret (v:=.tuple #[.agg #[.int .i64 f.op,.slice b1 f.vars.length c1,.slice b2 f.terms.length c2,.slice b3 f.args.length c3],.int .i64 (l.length-r.length:Nat),.int .i64 0]) (by simp[results,Tryz.results12,go_sem,r0,r1,r2,r3,y0]) rfl ?_
     rw[HE.out]
     exact ReadSays.mk rfl ⟨_,_,_,_,rfl,Dat.Fs.mono (Dat.Fs.chg hfm5 h3 (fun g hg=>by simp;omega)) fun g hg _=>by omega⟩ (Chg.ext hxw5 h3 (by simp))
   ·have HE:=Lib.hid (HE.out.trans (if_pos h0))
    have hq1:(ck != 0)=true:=by rw[bne_iff_ne];exact h0
    clear h0
    go_wp2_with (go_at_call 21;refine(HCk.out).mono ?_;rintro e w5 ⟨rfl,hx5⟩;have hf5:=hf4.ext hx5;have hn5:=hn4.ext hx5;clear n0 n1 n2 n3 g0 g1 g2 g3 m0 s0;(obtain⟨⟨n0,g0⟩,⟨n1,g1⟩,⟨n2,g2⟩,⟨n3,g3⟩⟩:=hf5.cells4);(obtain⟨m0,s0⟩:=hn5 0 _ rfl);have hnl5:=hn5.lt;have hfl5:=hf5.lt)
    have hch:=zbr w5 w.heap.size (.int .i64 0) (.slice none 0 0) (.slice none 0 0) (.slice none 0 0)
    have hm1:=hn5.chg hch (by simp)
    have hch2:=(Chg.refl [w.heap.size+1] ((((w5.setCell ⟨w.heap.size,0,none⟩ (.int .i64 0)).setCell ⟨w.heap.size,1,none⟩ (.slice none 0 0)).setCell ⟨w.heap.size,2,none⟩ (.slice none 0 0)).setCell ⟨w.heap.size,3,none⟩ (.slice none 0 0))).setCell (p:=⟨w.heap.size+1,0,none⟩) (.int .i64 k) (.inl (by simp))
    have hn2:=(zbq hf5 (.int .i64 0) (.slice none 0 0) (.slice none 0 0) (.slice none 0 0)).chg hch2 (by simp)
    have hm2:=hm1.set (i:=0) (by simp) (.int .i64 k)
    obtain⟨r0,r1,r2,r3⟩:=zd9 hn2
    obtain⟨y0,-⟩:=hm2 0 _ rfl
    refine bodyPost_ret (v:=.tuple #[.agg #[.int .i64 0,.slice none 0 0,.slice none 0 0,.slice none 0 0],.int .i64 k,.int .i64 ck]) (by simp[results,Tryz.results12,go_sem,r0,r1,r2,r3,y0]) rfl ?_
    rw[HE.out]
    exact ReadSays.mk rfl ⟨_,_,_,_,rfl,zru⟩ (Chg.ext (hxw4.trans hx5) ((hch.mono (T:=[w.heap.size,w.heap.size+1]) (by simp)).trans (hch2.mono (by simp))) (by simp))
end Go.Proofs.YtnclgkdpafhogaaGreat
