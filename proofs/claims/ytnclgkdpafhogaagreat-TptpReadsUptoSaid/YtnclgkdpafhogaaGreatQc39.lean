/- The reference's loader: read, a text with all that it includes. Condition: texts of at most 1048576 bytes, at most 2^20 files.
The reference's Read. Condition: texts of at most 1048576 bytes, at most 2^20 files. -/
import Derived.Test.YtnclgkdpafhogaaGreatQc34
import Derived.Test.YtnclgkdpafhogaaGreatQc38
import Derived.Test.YtnclgkdpafhogaaGreatQc37
import Derived.Test.YtnclgkdpafhogaaGreatQc15
set_option maxHeartbeats 16000000
set_option maxRecDepth 100000
namespace Go.Proofs.YtnclgkdpafhogaaGreat
open Go.ChangeShapes Go.WideShapes Go.ChangeAt Go.RowKit
theorem zth {rd:Nat→Nat→Nat→Out (List Ent×Nat)}{files:List (ByteArray×ByteArray)}{opn:Nat→Bool}{l:List Tok}{file:Int}{n cnt:Nat}(hrd:∀(i n c:Nat) (x:List Ent×Nat),c≤200→rd i n c=.ok x→x.2≤200){l':List Ent}{c':Nat}{r r':List Tok}(hy:incR rd files opn l file n cnt r=.ok ((l',c'),r')):c'≤200:=by
 unfold incR at hy
 cases hh:zba r with
 |bad k=>rw[hh]at hy;cases hy
 |ok z k =>
  rw[hh,Rd.out_ok]at hy
  split at hy
  ·cases hy
  ·split at hy
   ·cases hy
   ·split at hy
    ·cases hy
    ·obtain⟨q,hq,hy⟩:=Out.bind_eq_ok hy
     obtain⟨m,hm,hy⟩:=Out.bind_eq_ok hy
     injection hy with hy
     injection hy with hy _
     injection hy with _ hy
     subst hy
     exact hrd _ _ _ _ (by omega) hq
theorem zib {rd:Nat→Nat→Nat→Out (List Ent×Nat)}{files:List (ByteArray×ByteArray)}{opn:Nat→Bool}{l:List Tok}{file:Int}{ahead:Nat}(hrd:∀(i n c:Nat) (x:List Ent×Nat),c≤200→rd i n c=.ok x→x.2≤200) :
  ∀(f:Nat) (ks:List Tok) (out:List Ent) (cnt:Nat) (x:List Ent×Nat),cnt≤200→zb1 rd files opn l file ahead f ks out cnt=.ok x→x.2≤200
 |0,_,_,_,_,_,h=>by cases h
 |f+1,ks,out,cnt,x,hc,h=>by
  unfold zb1 at h
  split at h
  ·injection h with h;subst h;exact hc
  ·split at h
   ·obtain⟨y,hy,h⟩:=Out.bind_eq_ok h
    exact zib hrd f _ _ cnt x hc h
   ·split at h
    ·obtain⟨y,hy,h⟩:=Out.bind_eq_ok h
     obtain⟨⟨l',c'⟩,r'⟩:=y
     exact zib hrd f _ _ _ x (zth hrd hy) h
    ·cases h
theorem zqc {files:List (ByteArray×ByteArray)}:∀(d:Nat) (opn:Nat→Bool) (file:Int) (s:ByteArray) (ahead cnt:Nat) (x:List Ent×Nat),cnt≤200→zdj files d opn file s ahead cnt=.ok x→x.2≤200
 |0,_,_,_,_,_,_,_,h=>by cases h
 |d+1,opn,file,s,ahead,cnt,x,hc,h=>by
  unfold zdj at h
  split at h
  ·cases h
  ·exact zib (fun i n c x hc hx=>zqc d _ _ _ n c x hc hx) _ _ [] cnt x hc h
theorem zti (opn:List Nat) (i:Nat):(fun k=>decide (k∈opn++[i]))=fun k=>decide (k=i) || decide (k∈opn):=by
 funext k
 by_cases h1:k=i<;>by_cases h2:k∈opn<;>simp[h1,h2]
theorem Moved.grow {w w1:World}{v v':Value}(h:Moved w1 v v') (hs:w.heap.size≤w1.heap.size):Moved w v v':=h.imp id fun h g hg=>Nat.le_trans hs (h g hg)
def RdI (lb zb ib:Nat) (P:Nat→Prop) (l:List Tok) (file:Int) (files:List (ByteArray×ByteArray)) (opn:List Nat) (all:List Ent) (rd:Nat→Nat→Nat→Out (List Ent×Nat)) (cnt0:Nat) (vo va:Value) (w V:World) (g:Nat) (wr:World):Prop :=
 ∃(ks:List Tok) (out:List Ent) (cnt:Nat) (vo' va':Value),g=ks.length∧ISt lb zb file ib l wr (.ok () ks)∧LSt lb (fun b=>(P b∧b<w.heap.size)∨ib<b) wr files opn (all++out) cnt vo' va'∧Ends ks∧Moved V vo vo'∧Moved V va va'∧Chg (lb::(vo.ownBlock.toList++va.ownBlock.toList)) w wr∧V.heap.size≤wr.heap.size∧(all++out).length≤200∧cnt≤200 ∧
  ∃f,ks.length<f∧zb1 rd files (fun k=>decide (k∈opn)) l file all.length (l.length+1) l [] cnt0=zb1 rd files (fun k=>decide (k∈opn)) l file all.length f ks out cnt
section
variable {lb zb ib:Nat}{file:Int}{l:List Tok}{P:Nat→Prop}{w w1:World}{files:List (ByteArray×ByteArray)}{opn:List Nat}{all:List Ent}{cnt:Nat}{vo va:Value}
theorem zw3 (hfl:files.length≤1048576) (htx:∀f∈files,f.2.size≤1048576) (d:Nat):∀(opn:List Nat),shut files.length (fun k=>decide (k∈opn))<d→opn.length+d≤1048577→∀(P:Nat→Prop) (w:World) (vo va:Value) (all:List Ent) (cnt:Nat),LSt lb P w files opn all cnt vo va→all.length≤200→cnt≤200→∀(file:Int) (s:ByteArray),s.size≤1048576 →
  Calls Tryz.prog 63 #[.pointer (some ⟨lb,0,none⟩),.int .i64 file,.string s] w (RdIP lb P files opn all vo va w (zdj files d (fun k=>decide (k∈opn)) file s all.length cnt)):=by
 induction d with
 |zero=>intro opn hd;exact absurd hd (Nat.not_lt_zero _)
 |succ d ih =>
  intro opn hd hod P w vo va all cnt hL hall hcnt file s hs
  have HIH:=Lib.hid ih
  clear ih
  have HC:=Lib.hid (ztt s hs w)
  have hends:=fun h=>zgu (s:=s) h
  have hlen:=zmo s
  have HE:=Lib.hid (show zdj files (d+1) (fun k=>decide (k∈opn)) file s all.length cnt=if (cutS s).2.2≠0 then .flt ⟨file,((cutS s).2.1:Nat),(cutS s).2.2⟩
   else zb1 (fun i n c=>zdj files d (fun k=>decide (k=i) || decide (k∈opn)) i (zdz files i) n c) files (fun k=>decide (k∈opn)) (cutS s).1 file all.length ((cutS s).1.length+1) (cutS s).1 [] cnt from rfl)
  have HL:=Lib.hid hL
  have hlb:=hL.lt
  generalize cutS s=ct at HC HE hends hlen
  obtain⟨l,at',er⟩:=ct
  simp only at HE hends hlen
  unfold CutSays at HC
  simp only at HC
  by_cases h0:er=0
  case neg =>
   have q1:(er != 0)=true:=by rw[bne_iff_ne];exact h0
   replace HE:=Lib.hid (HE.out.trans (if_pos h0))
   have HF:=Lib.hid (fun (S:World) (hx:Ext w S)=>zcp (file:=file) (hL.ext hx) (at':=((at':Nat):Int)) (e0:=er) h0)
   clear h0 hends HIH hL
   go_enter Tryz.func63,Tryz.ntmps63
   go_wp2_with (first|(go_at_call 114;refine(HF.out _ hx1).mono ?_;rintro e w2 ⟨rfl,hf2,hx2⟩)|(go_at_call 44;refine(HC.out).mono ?_;rintro e w1 ⟨⟨v,rfl,hv⟩,hx1⟩))
   go_returns
   rw[HE.out]
   exact⟨rfl,((Chg.of_ext hx1).trans (hx2.mono (by simp))),hf2⟩
  case pos =>
   subst h0
   replace HE:=Lib.hid (HE.out.trans (if_neg (fun h=>h rfl)))
   have hE:=hends rfl
   have hne:=hE.pos
   have hl2:l.length≤1073741824:=by omega
   clear hends
   go_enter Tryz.func63,Tryz.ntmps63
   go_upto_region 3 with (go_at_call 44;refine(HC.out).mono ?_;rintro e w1 ⟨⟨v,rfl,hv⟩,hx1⟩;(obtain⟨a,c,rfl,hc,hd3⟩:=GRow.dat (by decide) hv);rw[List.length_map]at hc;(try simp only[List.length_map]);(try dsimp only at hv hc hd3 ⊢))
   have hs1:=hx1.size
   obtain⟨V,hV⟩:∃V,V=w1.alloc (.cells #[.pointer (some ⟨lb,0,none⟩),.int .i64 file,.slice a l.length c,.int .i64 0,.int .i64 (-1)] 152):=⟨_,rfl⟩
   have e1:Ext w1 V:=by rw[hV];exact zd _ _
   have hbr:Own V w1.heap.size [.pointer (some ⟨lb,0,none⟩),.int .i64 file,.slice a l.length c,.int .i64 0,.int .i64 (-1)]:=by rw[hV];exact zaq w1 _ _
   obtain⟨ib,hibe⟩:∃ib,ib=w1.heap.size:=⟨_,rfl⟩
   rw[←hibe]at hbr
   have hwib:w.heap.size≤ib:=by omega
   have I0:ISt lb w.heap.size file ib l V (.ok () l):=⟨a,c,0,-1,hbr,hc,⟨hwib,Dat.Rows.ext (Dat.Rows.mono hd3 fun b h1 h2=>⟨h1,by omega⟩) e1⟩,Nat.zero_le _,List.suffix_refl _,by omega,rfl⟩
   have hibV:=hbr.lt
   have L0:LSt lb (fun b=>(P b∧b<w.heap.size)∨ib<b) V files opn (all++[]) cnt vo va:=by rw[List.append_nil];exact((HL.out.mono fun b hb hl=>.inl ⟨hb,hl⟩).ext (hx1.trans e1))
   have C0:Chg (lb::(vo.ownBlock.toList++va.ownBlock.toList)) w V:=Chg.of_ext (hx1.trans e1)
   obtain⟨rd,hrd⟩:∃rd:Nat→Nat→Nat→Out (List Ent×Nat),rd=fun i n c=>zdj files d (fun k=>decide (k=i) || decide (k∈opn)) i (zdz files i) n c:=⟨_,rfl⟩
   rw[←hrd]at HE
   have HLN:=Lib.hid (show ∀(i n c:Nat) (x:List Ent×Nat),n≤200→rd i n c=.ok x→n+x.1.length≤200 from fun i n c x hn hx=>by subst hrd;exact zhm d _ _ _ n c x hn hx)
   have HCN:=Lib.hid (show ∀(i n c:Nat) (x:List Ent×Nat),c≤200→rd i n c=.ok x→x.2≤200 from fun i n c x hn hx=>by subst hrd;exact zqc d _ _ _ n c x hn hx)
   have HRD:=Lib.hid (fun (all':List Ent) (cnt':Nat) (hall':all'.length≤200) (i:Nat) (hi:i<files.length) (hni:i∉opn) (hc':cnt'+1≤200) (P':Nat→Prop) (w':World) (vo' va':Value) (hl':LSt lb P' w' files (opn++[i]) all' (cnt'+1) vo' va') =>
    (by
     subst hrd
     have h1:=HIH.out (opn++[i]) (by
      rw[zti,zzh]
      have:=zwj (opn:=fun k=>decide (k∈opn)) hi (decide_eq_false hni)
      omega) (by simp;omega) P' w' vo' va' all' (cnt'+1) hl' hall' hc' i files[i].2 (htx _ (List.getElem_mem hi))
     rw[zti]at h1
     have ht:zdz files i=files[i].2:=by unfold zdz;rw[List.getElem?_eq_getElem hi];rfl
     show Calls Tryz.prog 63 #[.pointer (some ⟨lb,0,none⟩),.int .i64 i,.string files[i].2] w' (RdIP lb P' files (opn++[i]) all' vo' va' w' (zdj files d (fun k=>decide (k=i) || decide (k∈opn)) i (zdz files i) all'.length (cnt'+1)))
     rw[ht]
     exact h1:Calls Tryz.prog 63 #[.pointer (some ⟨lb,0,none⟩),.int .i64 i,.string files[i].2] w' (RdIP lb P' files (opn++[i]) all' vo' va' w' (rd i all'.length (cnt'+1)))))
   have HOW:=Lib.hid (show(∀g,vo.ownBlock=some g→g<w.heap.size)∧∀g,va.ownBlock=some g→g<w.heap.size by
    obtain⟨_,_,_,_,_,h4,h5,-⟩:=id HL.out
    exact⟨fun g hg=>(h4.own_ge hg).2,fun g hg=>(h5.own_ge hg).2⟩)
   go_wp2_with fail
   rw[←hV,←hibe]
   clear hV hbr hv hd3 HC HIH hrd hibe hL
   have HE0:=HE
   go_loopg [] l.length (fun g wr=>RdI lb w.heap.size ib P l file files opn all rd cnt vo va w V g wr)
   case atStart=>exact⟨l,[],cnt,vo,va,rfl,I0,L0,hE,Moved.refl _ _,Moved.refl _ _,C0,Nat.le_refl _,by simpa using hall,hcnt,l.length+1,by omega,rfl⟩
   case round =>
    obtain⟨ks,out,cnt',vo',va',hg,hI,hLr,hEk,mo,ma,hch,hVr,hal,hcn,f,hf,heq⟩:=hrel
    have HG:=Lib.hid hg
    obtain⟨f,rfl⟩:∃f',f=f'+1:=⟨f-1,by omega⟩
    replace HE:=Lib.hid (HE.out.trans heq)
    have hcn200:=hcn
    have hAp:Ap lb w.heap.size ib (fun b=>(P b∧b<w.heap.size)∨ib<b) wr vo' va':=⟨hlb,Away.moved (fun g hg=>.inl (HOW.out.1 g hg)) mo hibV,Away.moved (fun g hg=>.inl (HOW.out.2 g hg)) ma hibV,fun h=>by rcases h with ⟨-,h⟩|h<;>omega,by omega,hwib⟩
    have HP:=Lib.hid (zei hl2 hI)
    have hVw:w.heap.size≤V.heap.size:=by omega
    have hmw:∀ {v v':Value},Moved V v v'→Moved w v v':=fun h=>h.imp id fun h g hg=>by have:=h g hg;omega
    clear hg heq I0 L0 C0 hcn
    by_cases h7:(zq ks).kind=7
    ·replace HE:=Lib.hid (HE.out.trans (show _=Out.ok (out,cnt') by unfold zb1;rw[if_pos h7]))
     have q7:((zq ks).kind==7)=true:=by rw[beq_iff_eq];exact h7
     obtain⟨T,hT⟩:∃T,T=zq ks:=⟨_,rfl⟩
     rw[←hT]at q7
     have HT:=Lib.hid hT
     clear h7 hT
     obtain⟨kd,tx,ta⟩:=T
     simp only at q7
     have hib:=hI.lt
     go_wp2_with (go_at_call 84;refine(HP.out).mono ?_;rintro e w4 ⟨⟨t,rfl,-,ht⟩,hx4⟩;(obtain rfl:t=⟨kd,tx,ta⟩:=(ht _ _ rfl).trans HT.out.symm);clear ht;have hlt4:ib<w4.heap.size:=(by have:=hx4.size;omega);(have hx4':=hx4.trans (zd w4 (.cells #[.int .i64 kd,.string tx,.int .i64 ta] 77)));simp only[Tok.vals])
     go_returns
     rw[HE.out]
     exact⟨rfl,hch.trans (Chg.of_ext hx4'),vo',va',(hLr.ext hx4').mono (fun b hb _=>hb.elim (fun h=>.inl h.1) (fun h=>.inr (by omega))),hmw mo,hmw ma⟩
    ·obtain⟨t,r,rfl,hr⟩:∃t r,ks=t::r∧Ends r:=by
      cases ks with
      |nil=>exact absurd rfl h7
      |cons t r=>exact⟨t,r,rfl,hEk.tail h7⟩
     obtain⟨kd,tx,ta⟩:=t
     have h7':¬kd=7:=h7
     have hf2:r.length<f:=by simp at hf;omega
     have q7:(kd==7)=false:=by rw[beq_eq_false_iff_ne];exact h7'
     have HI:=Lib.hid (show zb1 rd files (fun k=>decide (k∈opn)) l file all.length (f+1) (⟨kd,tx,ta⟩::r) out cnt'=if kd=1∧(tx=sFof∨tx=sCnf) then
       (entR l file (decide (tx=sCnf)) ta (all.length+out.length) r).bind fun x=>zb1 rd files (fun k=>decide (k∈opn)) l file all.length f x.2 (out++[x.1]) cnt'
      else if kd=1∧tx=zon then
       (incR rd files (fun k=>decide (k∈opn)) l file (all.length+out.length) cnt' r).bind fun x=>zb1 rd files (fun k=>decide (k∈opn)) l file all.length f x.2 (out++x.1.1) x.1.2
      else .flt (zcr l file (⟨kd,tx,ta⟩::r))from by rw[zb1,if_neg h7];rfl)
     obtain⟨a',c',p,hown,hp,hpk,hsuf,hmove,-⟩:=hI.good
     obtain⟨c3,f3⟩:=hown 3 _ rfl
     have hrsuf:r <:+ l:=(List.suffix_cons _ r).trans hsuf
     have HM:=Lib.hid hmove
     have HPT:=Lib.hid (show ∀t:Tok,t=zq ((⟨kd,tx,ta⟩:Tok)::r)→t=⟨kd,tx,ta⟩from fun t h=>h)
     have HKK:=Lib.hid (show((p:Int)+1)=((l.length-r.length:Nat):Int) by have:=hsuf.length_le;simp at this;simp at hpk;omega)
     have HPP:=Lib.hid (show(p:Int)=((l.length-((⟨kd,tx,ta⟩:Tok)::r).length:Nat):Int) by rw[hpk])
     have hp1:(p:Int)+1≤1073741824:=by have:=hsuf.length_le;simp at this;simp at hpk;omega
     have hib:=hI.lt
     have hsufk:=hsuf
     clear h7 h7' hpk hmove hown hsuf
     go_upto_region 11 with (go_at_call 84;refine(HP.out).mono ?_;rintro e w4 ⟨⟨t,rfl,-,ht⟩,hx4⟩;(obtain rfl:t=⟨kd,tx,ta⟩:=HPT.out _ (ht _ _ rfl));clear ht;have hlt4:ib<w4.heap.size:=(by have:=hx4.size;omega);(have hx4':=hx4.trans (zd w4 (.cells #[.int .i64 kd,.string tx,.int .i64 ta] 77)));replace f3:=hx4.frozen c3 f3;replace c3:=hx4.cell c3;have hne4:w4.heap.size≠ib:=(by omega);simp only[Tok.vals])
     obtain⟨V5,hV5⟩:∃V5,V5=(w4.setCell ⟨ib,3,none⟩ (.int .i64 ((p:Int)+1))).alloc (.cells #[.int .i64 kd,.string tx,.int .i64 ta] 77):=⟨_,rfl⟩
     have C5:Chg [ib] wr V5:=by rw[hV5];exact((Chg.of_ext (S:=[ib]) hx4).setCell _ (.inl (by simp))).alloc _
     have I5:ISt lb w.heap.size file ib l V5 (.ok () r):=by rw[hV5];exact(HM.out _ (Chg.of_ext hx4) _ _ hrsuf HKK.out).ext (zd _ _)
     have b5:Own V5 w4.heap.size [.int .i64 kd,.string tx,.int .i64 ta]:=by
      rw[hV5]
      have:=zaq (w4.setCell ⟨ib,3,none⟩ (.int .i64 ((p:Int)+1))) #[.int .i64 kd,.string tx,.int .i64 ta] 77
      rw[show(w4.setCell ⟨ib,3,none⟩ (.int .i64 ((p:Int)+1))).heap.size=w4.heap.size by simp[World.setCell]]at this
      exact this
     rw[←hV5]
     clear hV5 c3 f3 hx4' HM HP
     obtain⟨tb,htbe⟩:∃tb,tb=w4.heap.size:=⟨_,rfl⟩
     rw[←htbe]at b5 ⊢
     clear htbe hne4 hx4
     have hs5:=C5.size
     have Ap5:=hAp.grow hs5
     have L5:=hLr.chg C5 hAp.item
     obtain⟨t0,-⟩:=b5 0 _ rfl
     obtain⟨t1,-⟩:=b5 1 _ rfl
     obtain⟨t2,-⟩:=b5 2 _ rfl
     have hlb5:=b5.lt
     have HCH:=Lib.hid (show ∀S:World,Chg (ib::lb::(vo'.ownBlock.toList++va'.ownBlock.toList)) V5 S→Chg (lb::(vo.ownBlock.toList++va.ownBlock.toList)) w S from fun S hx=>by
      have hno:∀ {v v':Value},Moved V v v'→∀g,v'.ownBlock=some g→v.ownBlock=some g∨w.heap.size≤g:=fun hm g hg=>by
       rcases hm with h|h
       ·exact .inl (by rw[←h];exact hg)
       ·have:=h g hg;exact .inr (by omega)
      refine Chg.drop (Below.refl _ _) (S:=(lb::(vo.ownBlock.toList++va.ownBlock.toList))++(ib::(vo'.ownBlock.toList++va'.ownBlock.toList))) ((hch.mono fun k hk=>List.mem_append_left _ hk).trans ((C5.mono fun k hk=>?_).trans (hx.mono fun k hk=>?_))) fun k hk=>?_
      ·rw[List.mem_singleton]at hk;subst hk;simp
      ·simp at hk ⊢
       rcases hk with h|h|h|h
       ·exact .inr (.inr (.inr (.inl h)))
       ·exact .inl h
       ·exact .inr (.inr (.inr (.inr (.inl h))))
       ·exact .inr (.inr (.inr (.inr (.inr h))))
      ·rcases List.mem_append.1 hk with h|h
       ·exact .inl h
       ·rcases List.mem_cons.1 h with h|h
        ·subst h;exact .inr hwib
        ·rcases List.mem_append.1 h with h|h
         ·rcases hno mo k (by simpa using h)with h2|h2
          ·exact .inl (by simp[h2])
          ·exact .inr h2
         ·rcases hno ma k (by simpa using h)with h2|h2
          ·exact .inl (by simp[h2])
          ·exact .inr h2)
     clear hch C5 hI hLr hAp
     by_cases h1:kd=1
     case neg =>
      have q1:(kd==1)=false:=by rw[beq_eq_false_iff_ne];exact h1
      replace HE:=Lib.hid (HE.out.trans (HI.out.trans (by rw[if_neg (fun h=>h1 h.1),if_neg (fun h=>h1 h.1)])))
      clear h1 HI
      obtain⟨a5,c5,p5,hown5,hp5,hpk5,-,hmove5,-⟩:=I5.good
      have hpp:p5=p+1:=by have:=HKK.out;omega
      subst hpp
      obtain⟨c3,f3⟩:=hown5 3 _ rfl
      have hib5:=hown5.lt
      have hm1:IntKind.i64.wrap (((p+1:Nat):Int)-1)=p:=by rw[IntWalk.i64_in _ (by omega)];omega
      have hmb:p≤1073741824:=by omega
      have HM5:=Lib.hid (hmove5 V5 (Chg.refl _ _) (⟨kd,tx,ta⟩::r) p hsufk HPP.out)
      have c9:Chg [ib] V5 (V5.setCell ⟨ib,3,none⟩ (.int .i64 (p:Int))):=(Chg.refl [ib] V5).setCell _ (.inl (by simp))
      have HWR:=Lib.hid (zdn hl2 HM5.out)
      have HF:=Lib.hid (fun (S:World) (hm:ISt lb w.heap.size file ib l S (.bad (⟨kd,tx,ta⟩::r))) (hx:Chg [ib] (V5.setCell ⟨ib,3,none⟩ (.int .i64 (p:Int))) S)=>zfu hl2 hne (by omega) hm (L5.chg (c9.trans hx) Ap5.item))
      clear hown5 hmove5 hpk5 hp5
      go_wp2_with (first|(go_at_call 118;refine(HF.out _ h9 hx9).mono ?_;rintro e w10 ⟨rfl,h10,hx10⟩)|(go_at_call 117;refine(HWR.out).mono ?_;rintro e w9 ⟨rfl,h9,hx9⟩))
      go_returns
      rw[HE.out]
      exact⟨rfl,HCH.out _ (((c9.trans hx9).mono (by simp)).trans (hx10.mono (fun b hb=>by simp at hb ⊢;rcases hb with h|h;exact .inl h;exact .inr (.inl h)))),h10⟩
     case pos =>
      have q1:(kd==1)=true:=by rw[beq_iff_eq];exact h1
      rcases zp8 tx with ⟨hw,q2,q3,hcn⟩|⟨hw,q2,q3,hcn⟩|⟨hw,q2,q3,q4,hcn⟩|⟨hw,q2,q3,q4⟩
      ·replace HE:=Lib.hid (HE.out.trans (HI.out.trans (by rw[if_pos ⟨h1,.inl hw⟩,hcn])))
       have HFM:=Lib.hid (ziv hlen hE hr Ap5 I5 L5 (by omega) false ta)
       unfold FormulaP at HFM
       rw[List.length_append]at HFM
       subst h1
       clear HI hw hcn
       cases her:entR l file false ta (all.length+out.length) r with
       |flt tf =>
        rw[her]at HFM HE
        clear her
        go_wp2_with (go_at_call 115;refine(HFM.out).mono ?_;rintro e w6 ⟨hx6,rfl,hfl6⟩)
        go_returns
        rw[HE.out]
        exact⟨rfl,HCH.out _ (hx6.mono (fun b hb=>by simp at hb ⊢;rcases hb with h|h|h;exact .inl h;exact .inr (.inl h);exact .inr (.inr (.inr h)))),hfl6⟩
       |ok xr =>
        rw[her]at HFM HE
        obtain⟨x,r2⟩:=xr
        obtain⟨k1,k2,k3,k4⟩:=zh3 hE hrsuf hr her
        clear her
        go_wp2_with (go_at_call 115;refine(HFM.out).mono ?_;rintro e w6 ⟨hx6,rfl,hI6,va6,hL6,hm6⟩)
        go_roundg r2.length
        case measure=>have:=HG.out;simp at this;go_light;omega
        case rel =>
         have hs6:=hx6.size
         refine⟨r2,out++[x],cnt',vo',va6,rfl,hI6,?_,k3,mo,ma.trans (hm6.grow (by omega)) (Nat.le_refl _),HCH.out _ (hx6.mono (fun b hb=>by simp at hb ⊢;rcases hb with h|h|h;exact .inl h;exact .inr (.inl h);exact .inr (.inr (.inr h)))),by omega,by simp at k4 ⊢;omega,hcn200,f,by omega,HE0.out.symm.trans HE.out⟩
         rw[←List.append_assoc]
         exact hL6.mono fun b hb _=>hb.elim id fun h=>.inr (by omega)
      ·replace HE:=Lib.hid (HE.out.trans (HI.out.trans (by rw[if_pos ⟨h1,.inr hw⟩,hcn])))
       have HFM:=Lib.hid (ziv hlen hE hr Ap5 I5 L5 (by omega) true ta)
       unfold FormulaP at HFM
       rw[List.length_append]at HFM
       subst h1
       clear HI hw hcn
       cases her:entR l file true ta (all.length+out.length) r with
       |flt tf =>
        rw[her]at HFM HE
        clear her
        go_wp2_with (go_at_call 115;refine(HFM.out).mono ?_;rintro e w6 ⟨hx6,rfl,hfl6⟩)
        go_returns
        rw[HE.out]
        exact⟨rfl,HCH.out _ (hx6.mono (fun b hb=>by simp at hb ⊢;rcases hb with h|h|h;exact .inl h;exact .inr (.inl h);exact .inr (.inr (.inr h)))),hfl6⟩
       |ok xr =>
        rw[her]at HFM HE
        obtain⟨x,r2⟩:=xr
        obtain⟨k1,k2,k3,k4⟩:=zh3 hE hrsuf hr her
        clear her
        go_wp2_with (go_at_call 115;refine(HFM.out).mono ?_;rintro e w6 ⟨hx6,rfl,hI6,va6,hL6,hm6⟩)
        go_roundg r2.length
        case measure=>have:=HG.out;simp at this;go_light;omega
        case rel =>
         have hs6:=hx6.size
         refine⟨r2,out++[x],cnt',vo',va6,rfl,hI6,?_,k3,mo,ma.trans (hm6.grow (by omega)) (Nat.le_refl _),HCH.out _ (hx6.mono (fun b hb=>by simp at hb ⊢;rcases hb with h|h|h;exact .inl h;exact .inr (.inl h);exact .inr (.inr (.inr h)))),by omega,by simp at k4 ⊢;omega,hcn200,f,by omega,HE0.out.symm.trans HE.out⟩
         rw[←List.append_assoc]
         exact hL6.mono fun b hb _=>hb.elim id fun h=>.inr (by omega)
      ·replace HE:=Lib.hid (HE.out.trans (HI.out.trans (by rw[if_neg (fun h=>hcn h.2),if_pos ⟨h1,hw⟩])))
       have HIN:=Lib.hid (zqb hlen hE hfl hr Ap5 I5 L5 hal hcn200 (by omega) HLN.out (fun i hi hni hc' P' w' vo2 va2 hl2=>HRD.out (all++out) cnt' hal i hi hni hc' P' w' vo2 va2 hl2))
       unfold IncIP at HIN
       rw[List.length_append]at HIN
       subst h1
       clear HI hw hcn
       cases her:incR rd files (fun k=>decide (k∈opn)) l file (all.length+out.length) cnt' r with
       |flt tf =>
        rw[her]at HIN HE
        clear her
        go_wp2_with (go_at_call 116;refine(HIN.out).mono ?_;rintro e w6 ⟨hx6,rfl,hfl6⟩)
        go_returns
        rw[HE.out]
        exact⟨rfl,HCH.out _ hx6,hfl6⟩
       |ok xr =>
        rw[her]at HIN HE
        obtain⟨⟨l',cnt2⟩,r2⟩:=xr
        obtain⟨k1,k2,k3⟩:=zmr hr her
        have hlen2:all.length+(out++l').length≤200:=zne HLN.out (by rw[List.length_append]at hal;exact hal) her
        have hcnt2:=zth HCN.out her
        clear her
        go_wp2_with (go_at_call 116;refine(HIN.out).mono ?_;rintro e w6 ⟨hx6,rfl,hI6,vo6,va6,hL6,hmo6,hma6⟩)
        go_roundg r2.length
        case measure=>have:=HG.out;simp at this;go_light;omega
        case rel =>
         have hs6:=hx6.size
         refine⟨r2,out++l',cnt2,vo6,va6,rfl,hI6,?_,k3,mo.trans (hmo6.grow (by omega)) (Nat.le_refl _),ma.trans (hma6.grow (by omega)) (Nat.le_refl _),HCH.out _ hx6,by omega,by rw[List.length_append];exact hlen2,hcnt2,f,by omega,HE0.out.symm.trans HE.out⟩
         rw[←List.append_assoc]
         exact hL6.mono fun b hb _=>hb.elim id fun h=>.inr (by omega)
      ·replace HE:=Lib.hid (HE.out.trans (HI.out.trans (by rw[if_neg (fun h=>hw.1 h.2),if_neg (fun h=>hw.2 h.2)])))
       subst h1
       clear HI hw
       obtain⟨a5,c5,p5,hown5,hp5,hpk5,-,hmove5,-⟩:=I5.good
       have hpp:p5=p+1:=by have:=HKK.out;omega
       subst hpp
       obtain⟨c3,f3⟩:=hown5 3 _ rfl
       have hib5:=hown5.lt
       have hm1:IntKind.i64.wrap (((p+1:Nat):Int)-1)=p:=by rw[IntWalk.i64_in _ (by omega)];omega
       have hmb:p≤1073741824:=by omega
       have HM5:=Lib.hid (hmove5 V5 (Chg.refl _ _) (⟨1,tx,ta⟩::r) p hsufk HPP.out)
       have c9:Chg [ib] V5 (V5.setCell ⟨ib,3,none⟩ (.int .i64 (p:Int))):=(Chg.refl [ib] V5).setCell _ (.inl (by simp))
       have HWR:=Lib.hid (zdn hl2 HM5.out)
       have HF:=Lib.hid (fun (S:World) (hm:ISt lb w.heap.size file ib l S (.bad (⟨1,tx,ta⟩::r))) (hx:Chg [ib] (V5.setCell ⟨ib,3,none⟩ (.int .i64 (p:Int))) S)=>zfu hl2 hne (by omega) hm (L5.chg (c9.trans hx) Ap5.item))
       clear hown5 hmove5 hpk5 hp5
       go_wp2_with (first|(go_at_call 118;refine(HF.out _ h9 hx9).mono ?_;rintro e w10 ⟨rfl,h10,hx10⟩)|(go_at_call 117;refine(HWR.out).mono ?_;rintro e w9 ⟨rfl,h9,hx9⟩))
       go_returns
       rw[HE.out]
       exact⟨rfl,HCH.out _ (((c9.trans hx9).mono (by simp)).trans (hx10.mono (fun b hb=>by simp at hb ⊢;rcases hb with h|h;exact .inl h;exact .inr (.inl h)))),h10⟩
end
theorem zqd {files:List (ByteArray×ByteArray)}(hfl:files.length≤1048576) (htx:∀f∈files,f.2.size≤1048576) (s:ByteArray) (hs:s.size≤1048576){P:Nat→Prop}{w:World}{fa:Option Addr}{fc:Nat}(hf:IsFiles P w fa files) (hc:files.length≤fc) :
  Calls Tryz.prog 29 #[.string s,.slice fa files.length fc] w (zla (zf2 files s) w):=by
 obtain⟨W,hW⟩:∃W,W=w.alloc (.cells #[.int .i64 0,.int .i64 0] 47):=⟨_,rfl⟩
 have e1:Ext w W:=by rw[hW];exact zd _ _
 have hsW:W.heap.size=w.heap.size+1:=by rw[hW];simp
 have ba:Own W w.heap.size [.int .i64 0,.int .i64 0]:=by rw[hW];exact zaq w _ _
 obtain⟨V,hV⟩:∃V,V=W.alloc (.cells #[.slice fa files.length fc,.slice none 0 0,.slice none 0 0,.int .i64 0,.int .i64 0,.int .i64 0,.int .i64 0] 111):=⟨_,rfl⟩
 have e2:Ext W V:=by rw[hV];exact zd _ _
 have hL:LSt W.heap.size (fun _=>False) V files [] [] 0 (.slice none 0 0) (.slice none 0 0):=by
  refine⟨fa,fc,?_,hc,Dat.Rows.ext (Dat.Rows.ext (Dat.Rows.mono hf fun b _ h=>(show b<W.heap.size by omega)) e1) e2,PRow.nil,PRow.nil,fun g hg=>by simp[Value.ownBlock]at hg⟩
  rw[hV];exact zaq W _ _
 have HR:=Lib.hid (zw3 hfl htx (files.length+1) [] (by have:=zwk files.length (fun k=>decide (k∈([]:List Nat)));omega) (by simp;omega) (fun _=>False) V (.slice none 0 0) (.slice none 0 0) [] 0 hL (by simp) (by omega) (-1) s hs)
 have HE:=Lib.hid (show zf2 files s=(zdj files (files.length+1) (fun _=>false) (-1) s 0 0).bind fun x=>.ok x.1 from rfl)
 rw[show(fun k=>decide (k∈([]:List Nat)))=fun _=>false from by funext k;simp]at HR
 unfold RdIP at HR
 simp only[List.length_nil,List.nil_append]at HR
 obtain⟨ab,hab⟩:∃ab,ab=w.heap.size:=⟨_,rfl⟩
 obtain⟨lb,hlb⟩:∃lb,lb=W.heap.size:=⟨_,rfl⟩
 rw[←hab]at ba
 rw[←hlb]at HR
 have hlt1:ab<lb:=by omega
 have hwa:w.heap.size≤ab:=by omega
 have hne:ab∉lb::((Value.slice none 0 0).ownBlock.toList++(Value.slice none 0 0).ownBlock.toList):=by simp[Value.ownBlock];omega
 have HEQ:=Lib.hid (And.intro hab hlb)
 clear hL hf hsW hab hlb
 cases hr:zdj files (files.length+1) (fun _=>false) (-1) s 0 0 with
 |flt t =>
  rw[hr]at HR HE
  clear hr
  go_enter Tryz.func29,Tryz.ntmps29
  go_upto_region 1 with fail
  rw[←hW,←HEQ.out.1]
  clear hW
  go_upto_region 2 with fail
  rw[←hV,←HEQ.out.2]
  clear hV
  go_upto_region 4 with (go_at_call 63;refine(HR.out).mono ?_;rintro e w3 ⟨rfl,hx3,hfl3⟩;(obtain⟨fv,ra,rc,rva,rcv,ho3,-,hte⟩:=hfl3);have q:(t.e != 0)=true:=(by rw[bne_iff_ne];exact hte);(obtain⟨c4,-⟩:=ho3 4 _ rfl);(obtain⟨c5,-⟩:=ho3 5 _ rfl);(obtain⟨c6,-⟩:=ho3 6 _ rfl);have hll:=ho3.lt;have ba3:=(ba.ext e2).chg hx3 hne;(obtain⟨a0,af0⟩:=ba3 0 _ rfl);(obtain⟨a1,af1⟩:=ba3 1 _ rfl);have hla:=ba3.lt;have n1:ab≠lb:=(by omega);have n2:lb≠ab:=(by omega))
  have hX3:Ext w w3:=Chg.ext (e1.trans e2) (hx3.mono (T:=[lb]) (by simp[Value.ownBlock])) (by simp;have:=HEQ.out.2;omega)
  have HX3:=Lib.hid hX3
  have HB3:=Lib.hid ba3
  clear hx3 ba ba3 hX3 ho3
  go_region_with fail
  all_goals
   go_wp2_with fail
   obtain⟨r0,-⟩:=((HB3.out.set (i:=0) (by simp) (.int .i64 t.file)).set (i:=1) (by simp) (.int .i64 t.at')) 0 _ rfl
   obtain⟨r1,-⟩:=((HB3.out.set (i:=0) (by simp) (.int .i64 t.file)).set (i:=1) (by simp) (.int .i64 t.at')) 1 _ rfl
   obtain⟨s0,-⟩:=(((HB3.out.ext (Ext.drew (Below.refl _ w3))).set (i:=0) (by simp) (.int .i64 t.file)).set (i:=1) (by simp) (.int .i64 t.at')) 0 _ rfl
   obtain⟨s1,-⟩:=(((HB3.out.ext (Ext.drew (Below.refl _ w3))).set (i:=0) (by simp) (.int .i64 t.file)).set (i:=1) (by simp) (.int .i64 t.at')) 1 _ rfl
   refine bodyPost_ret (v:=.tuple #[.slice none 0 0,.agg #[.int .i64 t.file,.int .i64 t.at'],.int .i64 t.e]) (by simp[results,Tryz.results29,go_sem,r0,r1,]) rfl ?_
   rw[HE.out]
   refine⟨rfl,?_⟩
   first
    |exact zau (zau (HX3.out.trans (Ext.drew (Below.refl _ _))) hwa _ _) hwa _ _
    |exact(zau (zau HX3.out hwa _ _) hwa _ _).trans (Ext.drew (Below.refl _ _))
 |ok x =>
  rw[hr]at HR HE
  clear hr
  obtain⟨L,cn⟩:=x
  go_enter Tryz.func29,Tryz.ntmps29
  go_upto_region 1 with fail
  rw[←hW,←HEQ.out.1]
  clear hW
  go_upto_region 2 with fail
  rw[←hV,←HEQ.out.2]
  clear hV
  go_upto_region 5 with (go_at_call 63;refine(HR.out).mono ?_;rintro e w3 ⟨rfl,hx3,vo3,va3,hl3,-,-⟩;(obtain⟨_,_,ho3,-,-,-,hrow3,-⟩:=hl3);(obtain⟨c2,-⟩:=ho3 2 _ rfl);(obtain⟨c6,-⟩:=ho3 6 _ rfl);have hll:=ho3.lt;have ba3:=(ba.ext e2).chg hx3 hne;(obtain⟨a0,af0⟩:=ba3 0 _ rfl);(obtain⟨a1,af1⟩:=ba3 1 _ rfl);have hla:=ba3.lt;have n1:ab≠lb:=(by omega);have n2:lb≠ab:=(by omega))
  have hX3:Ext w w3:=Chg.ext (e1.trans e2) (hx3.mono (T:=[lb]) (by simp[Value.ownBlock])) (by simp;have:=HEQ.out.2;omega)
  have HX3:=Lib.hid hX3
  have HB3:=Lib.hid ba3
  obtain⟨a3,c3,hv3,hc3,hd3⟩:=hrow3.dat (by decide)
  rw[List.length_map]at hv3 hc3
  have HD3:=Lib.hid (show IsEnts (fun b=>w.heap.size≤b∧b≠ab) w3 a3 L from Dat.Rows.mono hd3 fun b hb hl=>by
   rcases hb with ⟨hb,hb2,-⟩|hb
   ·exact⟨by omega,by omega⟩
   ·have:=(hrow3.own_ge hb).1;exact⟨by omega,by omega⟩)
  subst hv3
  clear hx3 ba ba3 hX3 ho3 hd3 hrow3
  go_wp2_with fail
  obtain⟨r0,-⟩:=((HB3.out.set (i:=0) (by simp) (.int .i64 0)).set (i:=1) (by simp) (.int .i64 0)) 0 _ rfl
  obtain⟨r1,-⟩:=((HB3.out.set (i:=0) (by simp) (.int .i64 0)).set (i:=1) (by simp) (.int .i64 0)) 1 _ rfl
  refine bodyPost_ret (v:=.tuple #[.slice a3 L.length c3,.agg #[.int .i64 0,.int .i64 0],.int .i64 0]) (by simp[results,Tryz.results29,go_sem,r0,r1]) rfl ?_
  rw[HE.out]
  have hset:Chg [ab] w3 ((w3.setCell ⟨ab,0,none⟩ (.int .i64 0)).setCell ⟨ab,1,none⟩ (.int .i64 0)):=((Chg.refl [ab] w3).setCell _ (.inl (by simp))).setCell _ (.inl (by simp))
  exact⟨⟨a3,c3,rfl,hc3,Dat.Rows.mono (Dat.Rows.chg HD3.out hset fun b hb=>by simpa using hb.2) fun b hb _=>hb.1⟩,zau (zau HX3.out hwa _ _) hwa _ _⟩
end Go.Proofs.YtnclgkdpafhogaaGreat
