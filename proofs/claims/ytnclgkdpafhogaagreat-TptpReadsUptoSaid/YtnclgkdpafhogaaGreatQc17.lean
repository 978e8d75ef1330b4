/- The reference's Reader: Peek, Wrong, Take, Must, upper; Named. Condition: a row of at most 2^30 tokens, not empty. -/
import Derived.Test.YtnclgkdpafhogaaGreatQc6
import Derived.Test.YtnclgkdpafhogaaGreatQc13
import Derived.Deep.CutRange
import Derived.Deep.CutBlock
set_option maxHeartbeats 16000000
set_option maxRecDepth 100000
namespace Go.Proofs.YtnclgkdpafhogaaGreat
open Go.ChangeShapes Go.WideShapes Go.ChangeAt Go.RowKit
def Rd.st {α:Type}:Rd α→Rd Unit
 |.ok _ ks=>.ok () ks
 |.bad ks=>.bad ks
def RSt (rb:Nat) (l:List Tok) (w:World) (st:Rd Unit):Prop :=
 ∃(a:Option Addr) (c p:Nat) (z:Int),Own w rb [.slice a l.length c,.int .i64 p,.int .i64 z]∧l.length≤c∧IsToks rb w a l∧p≤l.length∧match st with
  |.ok _ ks=>ks <:+ l∧p+ks.length=l.length∧z=-1
  |.bad ks=>z=zbi l ks
theorem RSt.ext {rb:Nat}{l:List Tok}{w w':World}{st:Rd Unit}(h:RSt rb l w st) (hx:Ext w w'):RSt rb l w' st:=by
 obtain⟨a,c,p,z,h1,h2,h3,h4,h5⟩:=h
 exact⟨a,c,p,z,h1.ext hx,h2,Dat.Rows.ext h3 hx,h4,h5⟩
theorem RSt.chg {rb:Nat}{l:List Tok}{S:List Nat}{w w':World}{st:Rd Unit}(h:RSt rb l w st) (hx:Chg S w w') (hS:∀b∈S,rb<b):RSt rb l w' st:=by
 obtain⟨a,c,p,z,h1,h2,h3,h4,h5⟩:=h
 exact⟨a,c,p,z,h1.chg hx (fun hm=>by have:=hS rb hm;omega),h2,h3.chgs hx (fun b hb=>by have:=hS b hb;omega),h4,h5⟩
theorem RSt.lt {rb:Nat}{l:List Tok}{w:World}{st:Rd Unit}(h:RSt rb l w st):rb<w.heap.size:=by
 obtain⟨a,c,p,z,h1,-⟩:=h;exact h1.lt
theorem RSt.toks {rb:Nat}{l:List Tok}{w:World}{st:Rd Unit}(h:RSt rb l w st):∀t∈l,t.ok:=fun t ht=>by
 obtain⟨a,c,p,z,h1,h2,h3,-⟩:=h
 obtain⟨i,hi,rfl⟩:=List.getElem_of_mem ht
 obtain⟨_,_,_,_,_,_,_,hok⟩:=h3.look hi
 exact hok
theorem RSt.good {rb:Nat}{l ks:List Tok}{w:World}{u:Unit}(h:RSt rb l w (.ok u ks)):∃(a:Option Addr) (c p:Nat),Own w rb [.slice a l.length c,.int .i64 p,.int .i64 (-1)]∧p≤l.length∧p=l.length-ks.length∧ks <:+ l ∧
  (∀w',Chg [] w w'→∀r z,r <:+ l→z=((l.length-r.length:Nat):Int)→RSt rb l (w'.setCell ⟨rb,1,none⟩ (.int .i64 z)) (.ok () r)) ∧
  (∀w',Chg [] w w'→∀z,z=(zbi l ks:Int)→RSt rb l (w'.setCell ⟨rb,2,none⟩ (.int .i64 z)) (.bad ks)):=by
 obtain⟨a,c,p,z,h1,h2,h3,h4,h5,h6,rfl⟩:=h
 refine⟨a,c,p,h1,h4,by omega,h5,fun w' hx r z hr hz=>?_,fun w' hx z hz=>?_⟩
 ·subst hz
  have:=hr.length_le
  exact⟨a,c,l.length-r.length,-1,(h1.chg hx (by simp)).set (i:=1) (by simp) _,h2,h3.chgs (((hx.mono (T:=[rb]) (by simp))).setCell _ (.inl (by simp))) (by simp),by omega,hr,by omega,rfl⟩
 ·subst hz
  exact⟨a,c,p,_,(h1.chg hx (by simp)).set (i:=2) (by simp) _,h2,h3.chgs (((hx.mono (T:=[rb]) (by simp))).setCell _ (.inl (by simp))) (by simp),h4,rfl⟩
def zeb (l:List Tok) (p:Nat):Tok:=(l[p]?).getD endT
theorem zes {l:List Tok}{p:Nat}(h:p<l.length):zeb l p=l[p]:=by unfold zeb;rw[List.getElem?_eq_getElem h];rfl
theorem zof {l:List Tok}{p:Nat}(h:l.length≤p):zeb l p=endT:=by unfold zeb;rw[List.getElem?_eq_none h];rfl
theorem zrc {l ks:List Tok}{p:Nat}(h:ks <:+ l) (hp:p+ks.length=l.length):zeb l p=zq ks:=by
 have he:=List.suffix_iff_eq_drop.1 h
 have:l.length-ks.length=p:=by omega
 rw[this]at he
 unfold zeb zq
 rw[he,List.head?_drop]
def zdi (s:ByteArray):Rd Unit→Bool
 |.ok _ ks=>(zp s ks).isSome
 |.bad _=>false
def zcq (s:ByteArray):Rd Unit→Rd Unit
 |.ok _ ks=>match zp s ks with
  |some r=>.ok () r
  |none=>.ok () ks
 |.bad ks=>.bad ks
section
variable {rb:Nat}{l:List Tok}{w:World}{st:Rd Unit}
theorem zaz (_hl:l.length≤1073741824) (h:RSt rb l w st):Calls Tryz.prog 84 #[.pointer (some ⟨rb,0,none⟩)] w fun e w'=>(∃t:Tok,e=.returned (.agg t.vals)∧t.text.size≤1073741824∧∀u ks,st=.ok u ks→t=zq ks)∧Ext w w':=by
 obtain⟨a,c,p,z,hown,hc,ht,hp,hst⟩:=h
 have HT:=Lib.hid (show ∀u ks,st=.ok u ks→zeb l p=zq ks from fun u ks e=>by subst e;exact zrc hst.1 hst.2.1)
 have hlt:=hown.lt
 obtain⟨c0,f0⟩:=hown 0 _ rfl
 obtain⟨c1,f1⟩:=hown 1 _ rfl
 clear hst
 rcases Nat.lt_or_ge p l.length with hpl|hpl
 ·obtain⟨b,o,rfl,hb,t0,t1,t2,hok⟩:=ht.look hpl
  rw[zes hpl]at HT
  have hd:decide ((p:Int)<(l.length:Nat))=true:=decide_eq_true (by omega)
  have hp':(p:Int)<(l.length:Nat):=by omega
  generalize l[p]=t at *
  have HOK:=Lib.hid hok
  clear ht hown hok
  go_enter Tryz.func84,Tryz.ntmps84
  go_wp2
  go_quiet (fail)
  go_wp2
  obtain⟨V,hV⟩:∃V,V=(w.alloc (.cells #[.int .i64 0,.string ⟨#[]⟩,.int .i64 0] 77)).drewN nq:=⟨_,rfl⟩
  have hx:Ext w V:=by rw[hV];exact(zd _ _).drewN _
  have hnew:Own V w.heap.size [.int .i64 0,.string ⟨#[]⟩,.int .i64 0]:=by rw[hV];exact(own3 w _ _ _ _).ext (Ext.drewN (Below.refl _ _) _)
  have hle:=hx.size
  replace c0:=hx.cell c0
  replace c1:=hx.cell c1
  replace t0:=hx.cell t0
  replace t1:=hx.cell t1
  replace t2:=hx.cell t2
  obtain⟨n0,g0⟩:=hnew 0 _ rfl
  obtain⟨n1,g1⟩:=hnew 1 _ rfl
  obtain⟨n2,g2⟩:=hnew 2 _ rfl
  rw[←hV]
  clear hV f0 f1
  go_still_tail 10,(by kernel_rfl)
  change wpList _ _ _ _ _ V.drew
  go_wp2
  exact bodyPost_ret (v:=.agg #[.int .i64 t.kind,.string t.text,.int .i64 t.at']) (by simp[results,Tryz.results84,go_sem,n0,n1,n2]) rfl ⟨⟨t,rfl,HOK.out.2.1,HT.out⟩,(zau (zau (zau hx (Nat.le_refl _) _ _) (Nat.le_refl _) _ _) (Nat.le_refl _) _ _).drew⟩
 ·have hpe:p=l.length:=by omega
  rw[zof hpl]at HT
  clear hpl hp
  subst hpe
  have hd:decide ((l.length:Int)<(l.length:Nat))=false:=by simp
  go_enter Tryz.func84,Tryz.ntmps84
  go_wp2
  go_quiet (fail)
  go_wp2
  exact bodyPost_ret (v:=.agg #[.int .i64 7,.string ⟨#[]⟩,.int .i64 0]) (by simp[results,Tryz.results84,go_sem]) rfl ⟨⟨endT,rfl,Nat.zero_le _,HT.out⟩,zau (zau (zau ((zd _ _).drewN _) (Nat.le_refl _) _ _) (Nat.le_refl _) _ _) (Nat.le_refl _) _ _⟩
theorem zec (hl:l.length≤1073741824) (h:RSt rb l w st):Calls Tryz.prog 117 #[.pointer (some ⟨rb,0,none⟩)] w fun e w'=>e=.returned (.tuple #[])∧RSt rb l w' (.bad st.rest)∧Chg [rb] w w':=by
 have HS:=Lib.hid h
 cases st with
 |bad ks =>
  obtain⟨a,c,p,z,hown,hc,ht,hp,rfl⟩:=h
  obtain⟨c2,f2⟩:=hown 2 _ rfl
  go_enter Tryz.func117,Tryz.ntmps117
  go_wp2
  go_returns
  exact⟨rfl,HS.out,Chg.refl _ _⟩
 |ok u ks =>
  obtain⟨a,c,p,hown,hp,hpk,hsuf,-,hbad⟩:=h.good
  obtain⟨c0,f0⟩:=hown 0 _ rfl
  obtain⟨c1,f1⟩:=hown 1 _ rfl
  obtain⟨c2,f2⟩:=hown 2 _ rfl
  have hlt:=hown.lt
  have hm1:IntKind.i64.wrap ((l.length:Int)-1)=(l.length:Int)-1:=IntWalk.i64_in _ (by omega)
  have HV:=Lib.hid (show(zbi l ks:Int)=max 0 (min (p:Int) ((l.length:Int)-1)) by unfold zbi;omega)
  have HB:=Lib.hid hbad
  clear h hpk hbad hsuf
  go_enter Tryz.func117,Tryz.ntmps117
  go_wp2
  go_still_tail 15,(by kernel_rfl)
  go_wp2
  all_goals
   go_returns
   refine⟨rfl,HB.out _ (Chg.of_ext ((Below.refl _ _).drew)) _ ?_,((Chg.refl [rb] w).drew).setCell _ (.inl (by simp))⟩
   rw[HV.out]<;>omega
theorem z7 {s:ByteArray}{u:Unit}{ks r:List Tok}(h:zp s ks=some r):zcq s (.ok u ks)=.ok () r∧zdi s (.ok u ks)=true:=by simp[zcq,zdi,h]
theorem zn {s:ByteArray}{u:Unit}{ks:List Tok}(h:zp s ks=none):zcq s (.ok u ks)=.ok () ks∧zdi s (.ok u ks)=false:=by simp[zcq,zdi,h]
theorem zal (hl:l.length≤1073741824) (h:RSt rb l w st) (s:ByteArray):Calls Tryz.prog 132 #[.pointer (some ⟨rb,0,none⟩),.string s] w fun e w'=>e=.returned (.bool (zdi s st))∧RSt rb l w' (zcq s st)∧Chg [rb] w w':=by
 have HS:=Lib.hid h
 have HP:=Lib.hid (zaz hl h)
 cases st with
 |bad ks =>
  obtain⟨a,c,p,z,hown,hc,ht,hp,rfl⟩:=h
  obtain⟨c2,f2⟩:=hown 2 _ rfl
  have hd:decide ((0:Int)≤(zbi l ks:Nat))=true:=decide_eq_true (by omega)
  clear hown ht
  go_enter Tryz.func132,Tryz.ntmps132
  go_wp2_with (go_at_call 84;refine(HP.out).mono ?_;rintro e w1 ⟨⟨t,rfl,-,-⟩,hx1⟩;replace c2:=hx1.cell c2;have hlt1:rb<w1.heap.size:=zf c2;simp only[Tok.vals])
  go_ret
  exact⟨rfl,HS.out.ext (hx1.alloc _),Chg.of_ext (hx1.alloc _)⟩
 |ok u ks =>
  obtain⟨a,c,p,hown,hp,hpk,hsuf,hmove,-⟩:=h.good
  obtain⟨c1,f1⟩:=hown 1 _ rfl
  obtain⟨c2,f2⟩:=hown 2 _ rfl
  have hlt:=hown.lt
  have hd:decide ((0:Int)≤-1)=false:=by decide
  have HM:=Lib.hid hmove
  clear hown h hmove
  cases ht:zp s ks with
  |none =>
   have HN:=Lib.hid (zkt ht)
   obtain⟨e1,e2⟩:=zn (u:=u) ht
   have HE:=Lib.hid (And.intro e1 e2)
   clear e1 e2 ht hpk hsuf
   go_enter Tryz.func132,Tryz.ntmps132
   go_upto_region 2 with (go_at_call 84;refine(HP.out).mono ?_;rintro e w1 ⟨⟨t,rfl,-,ht⟩,hx1⟩;replace c2:=hx1.cell c2;have hlt1:rb<w1.heap.size:=zf c2;simp only[Tok.vals])
   have hn:=HN.out
   rw[←ht u ks rfl]at hn
   obtain⟨kd,tx,ta⟩:=t
   simp only at hn ⊢
   clear ht
   rcases hn with hk|⟨rfl,hk⟩
   ·have q1:(kd != 6)=true:=by rw[bne_iff_ne];exact hk
    clear hk
    go_wp2
    go_ret
    exact⟨by rw[HE.out.2];rfl,by rw[HE.out.1];exact HS.out.ext (hx1.alloc _),Chg.of_ext (hx1.alloc _)⟩
   ·have q2:(tx.toList==s.toList)=false:=zh hk
    clear hk
    go_wp2
    go_ret
    exact⟨by rw[HE.out.2];rfl,by rw[HE.out.1];exact HS.out.ext (hx1.alloc _),Chg.of_ext (hx1.alloc _)⟩
  |some r =>
   obtain⟨t,rfl,hk,rfl⟩:=zhs ht
   obtain⟨e1,e2⟩:=z7 (u:=u) ht
   have HE:=Lib.hid (And.intro e1 e2)
   have HK:=Lib.hid (show((p:Int)+1)=((l.length-r.length:Nat):Int) by have:=hsuf.length_le;simp at this;simp at hpk;omega)
   have HR:=Lib.hid ((List.suffix_cons t r).trans hsuf)
   have hp1:(p:Int)+1≤1073741824:=by have:=hsuf.length_le;simp at this;simp at hpk;omega
   clear e1 e2 ht hpk hsuf
   go_enter Tryz.func132,Tryz.ntmps132
   go_upto_region 2 with (go_at_call 84;refine(HP.out).mono ?_;rintro e w1 ⟨⟨t2,rfl,-,ht2⟩,hx1⟩;replace c2:=hx1.cell c2;have hlt1:rb<w1.heap.size:=zf c2;replace f1:=hx1.frozen c1 f1;replace c1:=hx1.cell c1;simp only[Tok.vals])
   have hn:t2=t:=ht2 u _ rfl
   subst hn
   obtain⟨kd,tx,ta⟩:=t2
   simp only at hk ⊢
   subst hk
   clear ht2
   go_wp2
   go_ret
   refine⟨by rw[HE.out.2];rfl,?_,(((Chg.of_ext (S:=[rb]) hx1).setCell (p:=⟨rb,1,none⟩) _ (.inl (by simp))).alloc _)⟩
   rw[HE.out.1]
   exact(HM.out _ (Chg.of_ext hx1) _ _ HR.out HK.out).ext (zd _ _)
theorem ze5 (hl:l.length≤1073741824) (h:RSt rb l w st) (s:ByteArray):Calls Tryz.prog 134 #[.pointer (some ⟨rb,0,none⟩),.string s] w fun e w'=>e=.returned (.tuple #[])∧RSt rb l w' (st.bind fun _ ks=>zl s ks)∧Chg [rb] w w':=by
 have HT:=Lib.hid (zal hl h s)
 cases hb:zdi s st with
 |true =>
  have HE:=Lib.hid (show zcq s st=st.bind fun _ ks=>zl s ks by
   cases st with
   |bad ks=>cases hb
   |ok u ks =>
    cases ht:zp s ks with
    |none=>simp[zdi,ht]at hb
    |some r=>simp[zcq,zl,ht])
  rw[hb]at HT
  clear hb
  go_enter Tryz.func134,Tryz.ntmps134
  go_wp2_with (go_at_call 132;refine(HT.out).mono ?_;rintro e w1 ⟨rfl,h1,hx1⟩)
  go_returns
  exact⟨rfl,by rw[←HE.out];exact h1,hx1⟩
 |false =>
  have HE:=Lib.hid (show Rd.bad (zcq s st).rest=st.bind fun _ ks=>zl s ks by
   cases st with
   |bad ks=>rfl
   |ok u ks =>
    cases ht:zp s ks with
    |none=>simp[zcq,zl,ht,Rd.rest]
    |some r=>simp[zdi,ht]at hb)
  rw[hb]at HT
  clear hb
  go_enter Tryz.func134,Tryz.ntmps134
  go_wp2_with (first|(go_at_call 132;refine(HT.out).mono ?_;rintro e w1 ⟨rfl,h1,hx1⟩)|(go_at_call 117;refine(zec hl h1).mono ?_;rintro e w2 ⟨rfl,h2,hx2⟩))
  go_returns
  exact⟨rfl,by rw[←HE.out];exact h2,hx1.trans hx2⟩
def zar {α:Type}(is:(Nat→Prop)→World→Value→α→Prop) (rb:Nat) (l:List Tok) (w:World) (rd:Rd α) (e:Ending) (w':World):Prop :=
 Chg [rb] w w'∧RSt rb l w' rd.st∧∃v x',e=.returned v∧is (fun g=>w.heap.size≤g) w' v x'∧∀x r,rd=.ok x r→x'=x
def z0h (_:Nat→Prop) (_:World) (v:Value) (x:ByteArray):Prop:=v=.string x∧x.size≤1073741824
theorem zlm (hl:l.length≤1073741824) (h:RSt rb l w st):Calls Tryz.prog 169 #[.pointer (some ⟨rb,0,none⟩)] w (zar z0h rb l w (st.bind fun _ ks=>za2 2 ks)):=by
 have HS:=Lib.hid h
 have HP:=Lib.hid (zaz hl h)
 cases st with
 |bad ks =>
  obtain⟨a,c,p,z,hown,hc,ht,hp,rfl⟩:=h
  obtain⟨c2,f2⟩:=hown 2 _ rfl
  have hd:decide ((0:Int)≤(zbi l ks:Nat))=true:=decide_eq_true (by omega)
  clear hown ht
  go_enter Tryz.func169,Tryz.ntmps169
  go_wp2_with (first|(go_at_call 84;refine(HP.out).mono ?_;rintro e w1 ⟨⟨t,rfl,-,-⟩,hx1⟩;replace c2:=hx1.cell c2;have hlt1:rb<w1.heap.size:=zf c2;simp only[Tok.vals])|(go_at_call 117;refine(zec hl (HS.out.ext (hx1.alloc _))).mono ?_;rintro e w2 ⟨rfl,h2,hx2⟩))
  go_ret
  exact⟨(Chg.of_ext (hx1.alloc _)).trans hx2,h2,_,⟨#[]⟩,rfl,⟨rfl,Nat.zero_le _⟩,fun x r he=>by cases he⟩
 |ok u ks =>
  obtain⟨a,c,p,hown,hp,hpk,hsuf,hmove,-⟩:=h.good
  obtain⟨c1,f1⟩:=hown 1 _ rfl
  obtain⟨c2,f2⟩:=hown 2 _ rfl
  have hlt:=hown.lt
  have hd:decide ((0:Int)≤-1)=false:=by decide
  have HM:=Lib.hid hmove
  clear hown h hmove
  cases hk:za2 2 ks with
  |bad r =>
   have HN:=Lib.hid (zhu (by decide) hk)
   have HE:=Lib.hid (show((Rd.ok u ks).bind fun _ ks=>za2 2 ks)=.bad r by simp[hk])
   clear hpk hsuf hk
   go_enter Tryz.func169,Tryz.ntmps169
   go_upto_region 2 with (go_at_call 84;refine(HP.out).mono ?_;rintro e w1 ⟨⟨t,rfl,-,ht⟩,hx1⟩;replace c2:=hx1.cell c2;have hlt1:rb<w1.heap.size:=zf c2;simp only[Tok.vals])
   have hn:=HN.out
   rw[←ht u ks rfl]at hn
   obtain⟨kd,tx,ta⟩:=t
   simp only at hn ⊢
   clear ht
   obtain⟨hn,rfl⟩:=hn
   have q1:(kd != 2)=true:=by rw[bne_iff_ne];exact hn
   clear hn
   go_wp2_with (go_at_call 117;refine(zec hl (HS.out.ext (hx1.alloc _))).mono ?_;rintro e w2 ⟨rfl,h2,hx2⟩)
   go_ret
   exact⟨(Chg.of_ext (hx1.alloc _)).trans hx2,by rw[HE.out];exact h2,_,⟨#[]⟩,rfl,⟨rfl,Nat.zero_le _⟩,fun x r he=>by rw[HE.out]at he;cases he⟩
  |ok x r =>
   obtain⟨t,rfl,hk2,rfl⟩:=zc7 hk
   have HE:=Lib.hid (show((Rd.ok u (t::r)).bind fun _ ks=>za2 2 ks)=.ok t.text r by simp[hk])
   have HK:=Lib.hid (show((p:Int)+1)=((l.length-r.length:Nat):Int) by have:=hsuf.length_le;simp at this;simp at hpk;omega)
   have HR:=Lib.hid ((List.suffix_cons t r).trans hsuf)
   have hp1:(p:Int)+1≤1073741824:=by have:=hsuf.length_le;simp at this;simp at hpk;omega
   clear hpk hsuf hk
   go_enter Tryz.func169,Tryz.ntmps169
   go_upto_region 2 with (go_at_call 84;refine(HP.out).mono ?_;rintro e w1 ⟨⟨t2,rfl,hsz,ht2⟩,hx1⟩;replace c2:=hx1.cell c2;have hlt1:rb<w1.heap.size:=zf c2;replace f1:=hx1.frozen c1 f1;replace c1:=hx1.cell c1;simp only[Tok.vals])
   have hn:t2=t:=ht2 u _ rfl
   subst hn
   obtain⟨kd,tx,ta⟩:=t2
   simp only at hk2 hsz HE ⊢
   subst hk2
   clear ht2
   go_wp2
   go_ret
   refine⟨(((Chg.of_ext (S:=[rb]) hx1).setCell (p:=⟨rb,1,none⟩) _ (.inl (by simp))).alloc _),?_,_,tx,rfl,⟨rfl,hsz⟩,fun x r he=>by rw[HE.out]at he;injection he⟩
   rw[HE.out]
   exact(HM.out _ (Chg.of_ext hx1) _ _ HR.out HK.out).ext (zd _ _)
theorem zfn (t:Tok) (hs:t.text.size≤1073741824):Calls Tryz.prog 183 #[.agg t.vals] w fun e w'=>e=.returned (.bool t.named)∧Ext w w':=by
 obtain⟨kd,tx,ta⟩:=t
 have HN:=Lib.hid (fun w=>zex tx hs w)
 simp only[Tok.vals]
 unfold Tok.named
 simp only
 by_cases h1:kd=1
 ·have q1:(kd==1)=true:=by rw[beq_iff_eq];exact h1
  have HD:=Lib.hid (show decide (kd=1)=true from decide_eq_true h1)
  clear h1
  go_enter Tryz.func183,Tryz.ntmps183
  go_wp2
  go_ret
  exact⟨ze (by rw[HD.out];rfl),zd _ _⟩
 have q1:(kd==1)=false:=by rw[beq_eq_false_iff_ne];exact h1
 have HD:=Lib.hid (show decide (kd=1)=false from decide_eq_false h1)
 by_cases h4:kd=4
 ·have q4:(kd==4)=true:=by rw[beq_iff_eq];exact h4
  have HD4:=Lib.hid (show decide (kd=4)=true from decide_eq_true h4)
  clear h1 h4
  go_enter Tryz.func183,Tryz.ntmps183
  go_wp2_with (go_at_call 72;refine(HN.out _).mono ?_;rintro e w1 ⟨rfl,rfl⟩)
  go_ret
  exact⟨ze (by rw[HD.out,HD4.out];simp),zd _ _⟩
 ·have q4:(kd==4)=false:=by rw[beq_eq_false_iff_ne];exact h4
  have HD4:=Lib.hid (show decide (kd=4)=false from decide_eq_false h4)
  clear h1 h4
  go_enter Tryz.func183,Tryz.ntmps183
  go_wp2
  go_ret
  exact⟨ze (by rw[HD.out,HD4.out];rfl),zd _ _⟩
end
end Go.Proofs.YtnclgkdpafhogaaGreat
