/- token.(*cutter).each: an iterator over a text's tokens, up to the first fault. Conditions: a text of at most 1048576 bytes; the library's variable holds a number. -/
import Derived.Test.YtnclgkdpafhogaaGreatQe14
import Derived.Test.YtnclgkdpafhogaaGreatQe25
import Derived.Test.YtnclgkdpafhogaaGreatQe24
import Derived.Laws.EntriesVeiled
import Derived.Deep.LoopGhost
import Derived.WalkMore
import Derived.Deep.CutRange
import Derived.Deep.CutBlock
import Derived.Deep.Light
import Derived.Deep.RegionHeld3
set_option maxHeartbeats 16000000
set_option maxRecDepth 100000
namespace Go.Proofs.YtnclgkdpafhogaaGreat
open Go.ChangeShapes Go.WideShapes Go.ChangeAt Go.RowKit
theorem fw_round (ro:Option Nat):(Fw ro).round=ro:=rfl
theorem fw_depth (ro:Option Nat):(Fw ro).depth=none:=rfl
theorem fw_fn (ro:Option Nat) (f:FuncId):(Fw ro).fn f=True:=rfl
attribute [local go_sem] fw_round fw_depth fw_fn Oper.semAt_some
theorem zz6 {w w':World}{b:Nat}(h:Ext w w') (hb:w.heap.size≤b) (x y z:Value):Ext w (((w'.setCell ⟨b,0,none⟩ x).setCell ⟨b,1,none⟩ y).setCell ⟨b,2,none⟩ z):=Below.setCell (Below.setCell (Below.setCell h hb _) hb _) hb _
def z2a (x:Tok) (args:Array Value) (_:World):Prop:=args=#[.agg x.vals]∧x.ok
def zz7 (s:ByteArray) (cb:Nat) (m:Int) (S:List Nat) (W:World):Prop:=Own W cb [.string s,.int .i64 0,.int .i64 0]∧W.cell? ⟨0,0,none⟩=some (.int .i64 m)∧0∉cb::S
def zxy (s:ByteArray) (cb:Nat) (W:World):Prop:=∃z:Nat,Own W cb [.string s,.int .i64 z,.int .i64 (zq s 0).2.2]∧((zq s 0).2.2≠0→z=(zq s 0).2.1)
theorem zxz {J:Bool→World→List Tok→List Nat→Prop}{T S0 S' S6:List Nat}{W V w6:World}{pre items:List Tok}{x:Tok}{b:Bool}(h1:MvT T S0 W S' V) (h2:Mv S' V S6 w6) (hi:items=pre++[x]) (hj:J b w6 (pre++[x]) S6):zum T J S0 W [] items b w6:=by
 refine⟨S6,h1.trans (.of_mv h2),?_⟩
 subst hi
 cases b with
 |true=>exact .inl ⟨rfl,by simpa using hj⟩
 |false=>exact .inr ⟨rfl,pre++[x],List.prefix_refl _,by simpa using hj⟩
theorem zts {P:Program}{f:FuncId}{args:Array Value}{w:World}{a n:Nat}{v:Value}(h:∀n,Calls P f args (w.drewN n) fun e w'=>e=.returned v∧w.drewN n=w') :
  Calls P f args (w.drewN (a+n)) fun e w'=>e=.returned v∧∃m,w'=w.drewN (a+m):=(h (a+n)).mono fun _ _ ⟨he,hw⟩=>⟨he,n,hw.symm⟩
theorem zqw {P:Program}{f:FuncId}{args:Array Value}{w:World}{n:Nat}{v:Value}(h:∀n,Calls P f args (w.drewN n) fun e w'=>e=.returned v∧w.drewN n=w') :
  Calls P f args (w.drewN n) fun e w'=>e=.returned v∧∃m,w'=w.drewN m:=(h n).mono fun _ _ ⟨he,hw⟩=>⟨he,n,hw.symm⟩
theorem zx0 {J:Bool→World→List Tok→List Nat→Prop}{cb:Nat}{S0 S':List Nat}{W wr w':World}{pre items:List Tok}(hmv:MvT [cb] S0 W S' wr) (hj:J true wr pre S') (hJ:∀b w w' t S,(∀x∈[cb],x∉S)→J b w t S→Chg [cb] w w'→J b w' t S)
  (hns:∀x∈[cb],x∉S') (hch:Chg [cb] wr w') (hit:items=pre):zum [cb] J S0 W [] items true w':=by
 subst hit
 exact⟨S',hmv.trans (.of_chg hch),.inl ⟨rfl,by simpa using hJ _ _ _ _ _ hns hj hch⟩⟩
theorem zz8 {J:Bool→World→List Tok→List Nat→Prop}{T S0 S' S6:List Nat}{W V w6:World}{pre items rest:List Tok}{x:Tok}(h1:MvT T S0 W S' V) (h2:Mv S' V S6 w6) (hi:items=pre++x::rest) (hj:J false w6 (pre++[x]) S6):zum T J S0 W [] items false w6 :=
 ⟨S6,h1.trans (.of_mv h2),.inr ⟨rfl,pre++[x],by rw[hi];exact⟨rest,by simp⟩,by simpa using hj⟩⟩
def zx1 (s:ByteArray) (cb:Nat) (J:Bool→World→List Tok→List Nat→Prop) (S0:List Nat) (W:World) (g:Nat) (wr:World):Prop :=
 ∃(k:Nat) (S':List Nat) (pre:List Tok),k≤s.size∧g=s.size+1-k∧Own wr cb [.string s,.int .i64 k,.int .i64 0]∧MvT [cb] S0 W S' wr∧J true wr pre S'∧zq s 0=(pre++(zq s k).1,(zq s k).2)
theorem zoy {s:ByteArray}{cb:Nat}{J:Bool→World→List Tok→List Nat→Prop}{S0 S':List Nat}{W wr:World}{pre:List Tok}{k':Nat}{z zo:Int}(hz:z=k') (hk:k'≤s.size)
  (ho:Own wr cb [.string s,.int .i64 zo,.int .i64 0]) (hmv:MvT [cb] S0 W S' wr) (hns:∀x∈[cb],x∉S') (hj:J true wr pre S') (hJ:∀b w w' t S,(∀x∈[cb],x∉S)→J b w t S→Chg [cb] w w'→J b w' t S)
  (hc:zq s 0=(pre++(zq s k').1,(zq s k').2)) (n:Nat):zx1 s cb J S0 W (s.size+1-k') ((wr.drewN n).setCell ⟨cb,1,none⟩ (.int .i64 z)):=by
 subst hz
 have hch:Chg [cb] wr ((wr.drewN n).setCell ⟨cb,1,none⟩ (.int .i64 k')):=(Chg.of_ext (Ext.drewN (Below.refl _ _) n)).setCell (p:=⟨cb,1,none⟩) _ (.inl (by simp))
 exact⟨k',S',pre,hk,rfl,(ho.ext (Ext.drewN (Below.refl _ _) n)).set (i:=1) (by simp) (.int .i64 k'),hmv.trans (.of_chg hch),hJ _ _ _ _ _ hns hj hch,hc⟩
theorem z1q (s:ByteArray) (hs:s.size≤1048576) (cb:Nat) (mx:Int):z15 136 #[.pointer (some ⟨cb,0,none⟩)] #[] [cb] (zq s 0).1 z2a (zz7 s cb mx) (zxy s cb):=by
 intro y J W S0 hD hT hlt hj hJ hR m
 obtain⟨hown,hmx,hmS⟩:=hD
 refine callsIn_of_wp Tryz.func136 rfl trivial (wpIn_wide.2 ?_) rfl
 simp only[Tryz.ntmps136,List.size_toArray,List.length_cons,List.length_nil,Nat.reduceAdd,Nat.reduceSub,Array.replicate_succ,Array.replicate_zero,List.push_toArray,List.append_toArray,List.nil_append,List.cons_append]
 go_wp2_with fail
 have HR:=Lib.hid hR
 have HJ:=Lib.hid hJ
 have HT:=Lib.hid hT
 clear hR hJ hT
 have hcs:cb∉S0:=(HT.out cb (by simp)).2
 go_loopg [] (s.size+1) (fun g wr=>zx1 s cb J S0 W g wr)
 case atStart=>exact⟨0,S0,[],Nat.zero_le _,rfl,hown,MvT.refl _ _ _,hj,by simp⟩
 case round =>
  obtain⟨k,S',pre,hk,hg,ho,hmv,hjr,heq⟩:=hrel
  have HEQ:=Lib.hid heq
  have HST:=Lib.hid (zc1 hk)
  have HG:=Lib.hid hg
  have HJR:=Lib.hid hjr
  clear heq hg hjr hj
  obtain⟨c0,f0⟩:=ho 0 _ rfl
  obtain⟨c1,f1⟩:=ho 1 _ rfl
  obtain⟨c2,f2⟩:=ho 2 _ rfl
  by_cases hlt2:k<s.size
  ·have hd:decide ((k:Int)<(s.size:Nat))=true:=decide_eq_true (by omega)
   have hk':(k:Int)<(s.size:Nat):=by omega
   have hwk:IntKind.i64.wrap ((k:Int)+1)=(k:Int)+1:=IntWalk.i64_in _ (by omega)
   have HBY:=Lib.hid (zbs hlt2)
   have hcb:∀n:Int,((s[k].toNat:Int)==n)=decide (byt s k=n):=fun n=>by rw[HBY.out,Bool.eq_iff_iff];simp
   have hns:∀x∈[cb],x∉S':=fun x hx=>(hmv.apart HT.out x hx).2
   have HNS:=Lib.hid hns;clear hns
   by_cases hb:byt s k=32∨byt s k=9∨byt s k=10∨byt s k=13
   ·have HC:=Lib.hid (show zac s k=.skip (k+1) by unfold zac;rw[if_neg (by omega),if_pos hb])
    have hb':((s[k].toNat:Int)==32)=true∨(((s[k].toNat:Int)==32)=false∧(((s[k].toNat:Int)==9)=true∨(((s[k].toNat:Int)==9)=false∧(((s[k].toNat:Int)==10)=true∨(((s[k].toNat:Int)==10)=false∧((s[k].toNat:Int)==13)=true))))):=by
     simp only[hcb,decide_eq_true_eq,decide_eq_false_iff_not];omega
    clear hb hcb
    rcases hb' with b1|⟨b1,b2|⟨b2,b3|⟨b3,b4⟩⟩⟩
    all_goals
     go_wp2_with fail
     go_quiet (fail)
     go_wp2_with fail
     go_step3
     go_wp2_with fail
     go_step3
     go_wp2_with fail
     go_quiet (fail)
     go_wp2_with fail
     rw[Exit.noGoto_exit]
     go_wp2_with fail
     go_roundg (s.size+1-(k+1))
     case measure=>have:=HG.out;go_light;omega
     case rel=>exact zoy (k':=k+1) (by omega) (by omega) ho hmv HNS.out HJR.out HJ.out (by rw[HEQ.out,HST.out,HC.out]) _
   have hs':s.size≤1073741824:=by omega
   have hb':((s[k].toNat:Int)==32)=false∧((s[k].toNat:Int)==9)=false∧((s[k].toNat:Int)==10)=false∧((s[k].toNat:Int)==13)=false:=by
    simp only[hcb,decide_eq_false_iff_not];omega
   obtain⟨b1,b2,b3,b4⟩:=hb'
   have hmx1:wr.cell? ⟨0,0,none⟩=some (.int .i64 mx):=hmv.chg.cell hmx (by simpa using hmS)
   have HRM:=Lib.hid (fun n=>znx s hs' k hlt2 (wr.drewN n) mx hmx1)
   have hr1:=zjb s k
   have hr2:=zjc hlt2
   clear hmx1
   by_cases c2:zar s k≠k
   ·have HC:=Lib.hid (show zac s k=.skip (zar s k) by unfold zac;rw[if_neg (by omega),if_neg hb,if_pos c2])
    have h37:((s[k].toNat:Int)==37)=true∨(((s[k].toNat:Int)==37)=false∧((s[k].toNat:Int)==47)=true):=by
     have:byt s k=37∨byt s k=47:=by
      by_cases g1:byt s k=37
      ·exact .inl g1
      ·by_cases g2:byt s k=47
       ·exact .inr g2
       ·exact absurd (ze9 g1 g2) c2
     simp only[hcb,decide_eq_true_eq,decide_eq_false_iff_not];omega
    generalize zar s k=r at HRM hr1 hr2 c2 HC
    have d2:((r:Int)==(k:Nat))=false:=by rw[beq_eq_false_iff_ne];omega
    clear hb hcb
    rcases h37 with b5|⟨b5,b6⟩
    all_goals
     go_wp2_with fail
     go_quiet (fail)
     go_wp2_with fail
     go_step3
     go_wp2_with fail
     go_step3
     go_wp2_with fail
     go_quiet (fail)
     go_wp2_with fail
     go_quiet ((go_at_call 171;first|exact zts HRM.out|exact zqw HRM.out))
     go_wp2_with fail
     rw[Exit.noGoto_exit]
     go_wp2_with fail
     go_roundg (s.size+1-r)
     case measure=>have:=HG.out;go_light;omega
     case rel=>exact zoy (k':=r) rfl hr2 ho hmv HNS.out HJR.out HJ.out (by rw[HEQ.out,HST.out,HC.out]) _
   have c2':zar s k=k:=by omega
   rw[c2']at HRM
   have HTK:=Lib.hid (fun w=>zvt s hs' k hlt2 w)
   unfold zba at HTK
   have he1:=zpe s k
   have he2:=zpf hlt2
   have HTOK:=Lib.hid (zvu hs' hlt2)
   have HCC:=Lib.hid (show zac s k=if zbk s k=k then .bad 220 else if (za1 s k).kind≠6∧40<(za1 s k).text.size then .bad 3 else .tok (za1 s k) (zbk s k) by conv=>lhs;unfold zac;rw[if_neg (by omega),if_neg hb,if_neg c2])
   have h47:(((s[k].toNat:Int)==37)=false∧((s[k].toNat:Int)==47)=true)∨(((s[k].toNat:Int)==37)=false∧((s[k].toNat:Int)==47)=false):=by
    have h37:byt s k≠37:=fun h=>by
     have h1:zar s k=zaj zij s k:=by unfold zar;rw[if_pos h]
     have h2:=zfy (p:=zij) hlt2
     have h3:zij s[k]=true:=by unfold zij;rw[decide_eq_true_iff];rw[zbs hlt2]at h;omega
     rw[h3,if_pos rfl]at h2
     have:=zb9 zij s (k+1)
     omega
    simp only[hcb,decide_eq_true_eq,decide_eq_false_iff_not];omega
   clear hb hcb c2 c2' hr1 hr2
   generalize zbk s k=r at *
   generalize za1 s k=tk at *
   have d9:((k:Int)==(k:Nat))=true:=by rw[beq_iff_eq]
   rcases h47 with ⟨b5,b6⟩|⟨b5,b6⟩
   case' inl =>
    go_wp2_with fail
    go_quiet (fail)
    go_wp2_with fail
    go_step3
    go_wp2_with fail
    go_step3
    go_wp2_with fail
    go_quiet (fail)
    go_wp2_with fail
    go_quiet ((go_at_call 171;first|exact zts HRM.out|exact zqw HRM.out))
    go_upto_region 12 with fail
   case' inr =>
    go_wp2_with fail
    go_quiet (fail)
    go_wp2_with fail
    go_step3
    go_wp2_with fail
    go_step3
    go_wp2_with fail
    go_quiet (fail)
    go_upto_region 12 with fail
   all_goals
    go_cut [5,6]from 60 to 71 (fun x y wx=>∃(tb:Nat) (t:Tok),x=.pointer (some ⟨tb,0,none⟩)∧y=.int .i64 (r:Nat)∧Own wx tb [.int .i64 t.kind,.string t.text,.int .i64 t.at']∧(k<r→t=tk)∧wr.heap.size≤tb∧Ext wr wx)
    case first =>
     generalize hVV:wr.drewN _=V
     have hxV:Ext wr V:=by rw[←hVV];exact Ext.drewN (Below.refl _ _) _
     have v0:=hxV.cell c0
     have v1:=hxV.cell c1
     have hcl:cb<V.heap.size:=zf v0
     have hvne:V.heap.size≠cb:=by omega
     clear hVV c0 c1 f0 f1 c2 f2
     go_region_with (go_at_call 172;refine(HTK.out _).mono ?_;rintro e w' ⟨⟨t,rfl,ht⟩,hw'⟩;simp only[Tok.vals];(try (have hb:=((own3 V (.int .i64 0) (.string ⟨#[]⟩) (.int .i64 0) 77).ext (Ext.trans (Ext.drew (Below.refl _ _)) hw'));(obtain⟨y0,z0⟩:=hb 0 _ rfl);(obtain⟨y1,z1⟩:=hb 1 _ rfl);(obtain⟨y2,z2⟩:=hb 2 _ rfl))))
     all_goals
      go_wp2_with fail
      go_meet
      first
       |exact⟨_,t,rfl,rfl,own3 w' _ _ _ _,ht,(hxV.trans ((Ext.drew (Below.refl _ _)).trans hw')).size,(hxV.trans ((Ext.drew (Below.refl _ _)).trans hw')).alloc _⟩
       |exact⟨_,t,rfl,rfl,zc8 hb _ _ _,ht,hxV.size,zz6 (hxV.trans ((((zb V _).drew)).trans hw')) hxV.size _ _ _⟩
    case rest =>
     generalize wc=V0 at hcut ⊢
     obtain⟨tb,t,rfl,rfl,htb,ht,htl,hxV⟩:=hcut
     have hoV:=ho.ext hxV
     have hmV:=hmv.trans (MvT.of_chg (T:=[cb]) (S:=S') (Chg.of_ext hxV))
     clear c0 f0 c1 f1 c2 f2 ho
     obtain⟨c0,f0⟩:=hoV 0 _ rfl
     obtain⟨c1,f1⟩:=hoV 1 _ rfl
     obtain⟨c2,f2⟩:=hoV 2 _ rfl
     obtain⟨t0,-⟩:=htb 0 _ rfl
     obtain⟨t1,-⟩:=htb 1 _ rfl
     obtain⟨t2,-⟩:=htb 2 _ rfl
     by_cases hrk:r=k
     ·have q1:((r:Int)==(k:Nat))=true:=by rw[beq_iff_eq];omega
      have HC:=Lib.hid (show zac s k=.bad 220 by rw[HCC.out,if_pos hrk])
      have HIT:=Lib.hid (show zq s 0=(pre,k,220) by rw[HEQ.out,HST.out,HC.out];simp)
      clear hrk ht
      go_wp2_with fail
      have hch:Chg [cb] wr (V0.setCell ⟨cb,2,none⟩ (.int .i64 220)):=(Chg.of_ext hxV).setCell _ (.inl (by simp))
      rw[Exit.noGoto_ret]
      go_returns
      have hnsS:=HNS.out
      exact⟨⟨_,rfl⟩,true,zx0 hmv HJR.out HJ.out hnsS hch (by rw[HIT.out]),fun _=>⟨k,by rw[HIT.out];exact hoV.set (i:=2) (by simp) _,fun _=>by rw[HIT.out]⟩⟩
     ·have hkr:k<r:=by omega
      have q1:((r:Int)==(k:Nat))=false:=by rw[beq_eq_false_iff_ne];omega
      have hcc:=HCC.out
      rw[if_neg hrk]at hcc
      have HCC2:=Lib.hid hcc
      obtain rfl:=ht hkr
      clear hcc HCC hrk ht
      have hkd:(t.kind≠6∧40<t.text.size)∨(t.kind=6∨(t.kind≠6∧¬ 40<t.text.size)):=by omega
      rcases hkd with ⟨k1,k2⟩|hkd
      ·have q2:(t.kind != 6)=true:=by rw[bne_iff_ne];exact k1
       have q3:decide ((40:Int)<(t.text.size:Nat))=true:=decide_eq_true (by omega)
       have HC:=Lib.hid (show zac s k=.bad 3 by rw[HCC2.out,if_pos ⟨k1,k2⟩])
       have HIT:=Lib.hid (show zq s 0=(pre,k,3) by rw[HEQ.out,HST.out,HC.out];simp)
       clear k1 k2
       go_wp2_with fail
       have hch:Chg [cb] wr (V0.setCell ⟨cb,2,none⟩ (.int .i64 3)):=(Chg.of_ext hxV).setCell _ (.inl (by simp))
       rw[Exit.noGoto_ret]
       go_returns
       have hnsS:=HNS.out
       exact⟨⟨_,rfl⟩,true,zx0 hmv HJR.out HJ.out hnsS hch (by rw[HIT.out]),fun _=>⟨k,by rw[HIT.out];exact hoV.set (i:=2) (by simp) _,fun _=>by rw[HIT.out]⟩⟩
      ·have HC:=Lib.hid (show zac s k=.tok t r by rw[HCC2.out,if_neg (fun h=>by rcases hkd with h1|h1;exact h.1 h1;exact h1.2 h.2)])
       have HIT:=Lib.hid (show zq s 0=(pre++t::(zq s r).1,(zq s r).2) by rw[HEQ.out,HST.out,HC.out])
       have q4:(t.kind != 6)=false∨((t.kind != 6)=true∧decide ((40:Int)<(t.text.size:Nat))=false):=by
        rcases hkd with h1|⟨h1,h2⟩
        ·exact .inl (by rw[bne_eq_false_iff_eq];exact h1)
        ·exact .inr ⟨by rw[bne_iff_ne];exact h1,decide_eq_false (by omega)⟩
       clear hkd HCC2
       have hjV:=HJ.out _ _ _ _ _ HNS.out HJR.out (Chg.of_ext hxV:Chg [cb] wr V0)
       rcases q4 with q4|⟨q4,q5⟩
       all_goals
        go_upto_region 17 with fail
        obtain⟨fn,tmps,assign,body,hyd,hRd⟩:=HR.out pre t (zq s r).1 (by rw[HIT.out]) #[.agg t.vals] V0 S' ⟨rfl,HTOK.out⟩ hjV (m-1)
        simp only[Tok.vals]at hyd hRd
        refine(wpIn_wide (n:=m)).1 ?_
        gi_wp2
        refine⟨(fun h=>(by cases h)),hRd.mono ?_⟩
        clear hRd hyd
        rintro e w6 ⟨bb,S6,rfl,hmv6,hj6⟩
        have ho6:=hoV.chg hmv6.chg (HNS.out cb (by simp))
        cases bb with
        |false =>
         have HP:=Lib.hid (show zum [cb] J S0 W [] (zq s 0).1 false w6 from zz8 hmV hmv6 (by rw[HIT.out]) hj6)
         clear hj6
         gi_wp2
         go_wp2_with fail
         rw[Exit.noGoto_ret]
         go_returns
         exact⟨⟨_,rfl⟩,false,HP.out,fun h=>by cases h⟩
        |true =>
         obtain⟨z1,y1⟩:=ho6 1 _ rfl
         have HJ6:=Lib.hid hj6
         have hmv7:MvT [cb] S0 W S6 w6:=hmV.trans (.of_mv hmv6)
         have hns6:∀x∈[cb],x∉S6:=fun x hx=>(hmv7.apart HT.out x hx).2
         have HNS6:=Lib.hid hns6
         clear hj6 hns6 c0 f0 c1 f1 c2 f2 t0 t1 t2
         gi_wp2
         go_wp2_with fail
         rw[Exit.noGoto_normal]
         go_wp2_with fail
         go_roundg (s.size+1-r)
         case measure=>have:=HG.out;go_light;omega
         case rel=>exact zoy (k':=r) (wr:=w6) rfl he2 ho6 hmv7 HNS6.out HJ6.out HJ.out (by rw[HIT.out];simp) 0
  ·have hd:decide ((k:Int)<(s.size:Nat))=false:=decide_eq_false (by omega)
   go_wp2_with fail
   go_quiet (fail)
   go_upto_region 19 with fail
   obtain⟨V,hV⟩:∃V,V=wr.drewN nq:=⟨_,rfl⟩
   have hcV:Chg [cb] wr V:=by rw[hV];exact Chg.of_ext (Ext.drewN (Below.refl _ _) nq)
   have hns:∀x∈[cb],x∉S':=fun x hx=>(hmv.apart HT.out x hx).2
   have hjV:=HJ.out _ _ _ _ _ hns HJR.out hcV
   have hoV:Own V cb [.string s,.int .i64 k,.int .i64 0]:=ho.ext (by rw[hV];exact Ext.drewN (Below.refl _ _) nq)
   have hmV:MvT [cb] S0 W S' V:=hmv.trans (.of_chg hcV)
   rw[←hV]
   clear hV c0 f0 c1 f1 c2 f2
   obtain⟨d0,e0⟩:=hoV 0 _ rfl
   have HC:=Lib.hid (show zac s k=.done by unfold zac;rw[if_pos (by omega)])
   have HIT:=Lib.hid (show zq s 0=(pre++[ze8 s],0,0) by rw[HEQ.out,HST.out,HC.out])
   obtain⟨fn,tmps,assign,body,hyd,hRd⟩:=HR.out pre (ze8 s) [] (by rw[HIT.out]) #[.agg #[.int .i64 7,.string ⟨#[]⟩,.int .i64 (s.size:Nat)]] V S' ⟨rfl,zvv (by omega)⟩ hjV (m-1)
   refine(wpIn_wide (n:=m)).1 ?_
   gi_wp2
   refine⟨(fun h=>(by cases h)),hRd.mono ?_⟩
   clear hRd hyd
   rintro e w6 ⟨b1,S6,rfl,hmv6,hj6⟩
   have HP:=Lib.hid (show zum [cb] J S0 W [] (zq s 0).1 b1 w6 from zxz hmV hmv6 (by rw[HIT.out]) hj6)
   have HL:=Lib.hid (show zxy s cb w6 from ⟨k,by rw[HIT.out];exact hoV.chg hmv6.chg (hns cb (by simp)),fun h=>by rw[HIT.out]at h;exact absurd rfl h⟩)
   clear hj6
   gi_wp2
   go_returns
   exact⟨⟨_,rfl⟩,_,HP.out,fun _=>HL.out⟩
end Go.Proofs.YtnclgkdpafhogaaGreat
