/- The reference's table, counted, exprMay, varsMay, narrow. Condition: at most 4194304 parts.
The reference's narrow, May, Check. Condition: at most 4194304 parts.
The reference's May, Check. Condition: at most 4194304 parts.
The reference's Check. Condition: at most 4194304 parts.
The reference's ExprText. Conditions: a term that may be, of at most 4194304 parts.
Plain: bytes that are put together of tokens' texts are cut into just these tokens. No condition.
Plain: the tokens of a term's, a formula's text. No condition. -/
import Derived.Test.YtnclgkdpafhogaaGreatQe14
import Derived.Test.YtnclgkdpafhogaaGreatQe1
import Derived.Test.YtnclgkdpafhogaaGreatQe3
import Derived.Test.YtnclgkdpafhogaaGreatQe13
set_option maxHeartbeats 16000000
set_option maxRecDepth 100000
namespace Go.Proofs.YtnclgkdpafhogaaGreat
open Go.ChangeShapes Go.WideShapes Go.ChangeAt Go.RowKit
theorem zko {a b:ByteArray}(h:a≠b):(a.toList==b.toList)=false:=by
 rw[beq_eq_false_iff_ne];intro he;apply h;apply ByteArray.ext;apply Array.toList_inj.1
 rw[Go.ByteArray.toList_eq,Go.ByteArray.toList_eq]at he;exact he
theorem zkp {a b:ByteArray}(h:a=b):(a.toList==b.toList)=true:=by subst h;exact beq_self_eq_true _
theorem zvy {op:Int}(h:op<1∨13≤op):za8 op=none:=by
 unfold za8
 repeat' rw[if_neg (by omega)]
def zkq (op:Int):Value:=.tuple #[.int .i64 ((za8 op).getD (0,0,0)).1,.int .i64 ((za8 op).getD (0,0,0)).2.1,.int .i64 ((za8 op).getD (0,0,0)).2.2,.bool (za8 op).isSome]
theorem zvz (op:Int) (w:World):Calls Tryz.prog 105 #[.int .i64 op] w fun e w'=>e=.returned (zkq op)∧w=w':=by
 by_cases h:op<1∨13≤op
 ·have HS:=Lib.hid (zvy h)
  have q1:(op==1)=false:=by rw[beq_eq_false_iff_ne];omega
  have q2:(op==2)=false:=by rw[beq_eq_false_iff_ne];omega
  have q3:(op==3)=false:=by rw[beq_eq_false_iff_ne];omega
  have q4:(op==4)=false:=by rw[beq_eq_false_iff_ne];omega
  have q5:(op==5)=false:=by rw[beq_eq_false_iff_ne];omega
  have q6:(op==6)=false:=by rw[beq_eq_false_iff_ne];omega
  have q7:(op==7)=false:=by rw[beq_eq_false_iff_ne];omega
  have q8:(op==8)=false:=by rw[beq_eq_false_iff_ne];omega
  have q9:(op==9)=false:=by rw[beq_eq_false_iff_ne];omega
  have q10:(op==10)=false:=by rw[beq_eq_false_iff_ne];omega
  have q11:(op==11)=false:=by rw[beq_eq_false_iff_ne];omega
  have q12:(op==12)=false:=by rw[beq_eq_false_iff_ne];omega
  clear h
  go_enter Tryz.func105,Tryz.ntmps105
  go_wp2
  exact bodyPost_ret (v:=.tuple #[.int .i64 0,.int .i64 0,.int .i64 0,.bool false]) (by simp[results,Tryz.results105,go_sem]) rfl ⟨by unfold zkq;rw[HS.out];rfl,rfl⟩
 ·have hc:op=1∨op=2∨op=3∨op=4∨op=5∨op=6∨op=7∨op=8∨op=9∨op=10∨op=11∨op=12:=by omega
  clear h
  rcases hc with rfl|rfl|rfl|rfl|rfl|rfl|rfl|rfl|rfl|rfl|rfl|rfl
  ·go_enter Tryz.func105,Tryz.ntmps105
   go_wp2
   exact bodyPost_ret (v:=.tuple #[.int .i64 0,.int .i64 0,.int .i64 0,.bool true]) (by simp[results,Tryz.results105,go_sem]) rfl ⟨rfl,rfl⟩
  ·go_enter Tryz.func105,Tryz.ntmps105
   go_wp2
   exact bodyPost_ret (v:=.tuple #[.int .i64 0,.int .i64 0,.int .i64 0,.bool true]) (by simp[results,Tryz.results105,go_sem]) rfl ⟨rfl,rfl⟩
  ·go_enter Tryz.func105,Tryz.ntmps105
   go_wp2
   exact bodyPost_ret (v:=.tuple #[.int .i64 0,.int .i64 1,.int .i64 0,.bool true]) (by simp[results,Tryz.results105,go_sem]) rfl ⟨rfl,rfl⟩
  ·go_enter Tryz.func105,Tryz.ntmps105
   go_wp2
   exact bodyPost_ret (v:=.tuple #[.int .i64 0,.int .i64 2,.int .i64 0,.bool true]) (by simp[results,Tryz.results105,go_sem]) rfl ⟨rfl,rfl⟩
  ·go_enter Tryz.func105,Tryz.ntmps105
   go_wp2
   exact bodyPost_ret (v:=.tuple #[.int .i64 0,.int .i64 0,.int .i64 1,.bool true]) (by simp[results,Tryz.results105,go_sem]) rfl ⟨rfl,rfl⟩
  ·go_enter Tryz.func105,Tryz.ntmps105
   go_wp2
   exact bodyPost_ret (v:=.tuple #[.int .i64 0,.int .i64 0,.int .i64 (-2),.bool true]) (by simp[results,Tryz.results105,go_sem]) rfl ⟨rfl,rfl⟩
  ·go_enter Tryz.func105,Tryz.ntmps105
   go_wp2
   exact bodyPost_ret (v:=.tuple #[.int .i64 0,.int .i64 0,.int .i64 (-2),.bool true]) (by simp[results,Tryz.results105,go_sem]) rfl ⟨rfl,rfl⟩
  ·go_enter Tryz.func105,Tryz.ntmps105
   go_wp2
   exact bodyPost_ret (v:=.tuple #[.int .i64 0,.int .i64 0,.int .i64 2,.bool true]) (by simp[results,Tryz.results105,go_sem]) rfl ⟨rfl,rfl⟩
  ·go_enter Tryz.func105,Tryz.ntmps105
   go_wp2
   exact bodyPost_ret (v:=.tuple #[.int .i64 0,.int .i64 0,.int .i64 2,.bool true]) (by simp[results,Tryz.results105,go_sem]) rfl ⟨rfl,rfl⟩
  ·go_enter Tryz.func105,Tryz.ntmps105
   go_wp2
   exact bodyPost_ret (v:=.tuple #[.int .i64 0,.int .i64 0,.int .i64 2,.bool true]) (by simp[results,Tryz.results105,go_sem]) rfl ⟨rfl,rfl⟩
  ·go_enter Tryz.func105,Tryz.ntmps105
   go_wp2
   exact bodyPost_ret (v:=.tuple #[.int .i64 (-1),.int .i64 0,.int .i64 1,.bool true]) (by simp[results,Tryz.results105,go_sem]) rfl ⟨rfl,rfl⟩
  ·go_enter Tryz.func105,Tryz.ntmps105
   go_wp2
   exact bodyPost_ret (v:=.tuple #[.int .i64 (-1),.int .i64 0,.int .i64 1,.bool true]) (by simp[results,Tryz.results105,go_sem]) rfl ⟨rfl,rfl⟩
theorem zeb (n:Nat) (want:Int) (_hn:n≤1073741824) (hw:-1000≤want) (hw':want≤1000) (w:World) :
  Calls Tryz.prog 106 #[.int .i64 n,.int .i64 want] w fun e w'=>e=.returned (.bool (zaw n want))∧w=w':=by
 by_cases h2:want<0
 ·have q2:decide (want<0)=true:=decide_eq_true h2
  have hneg:IntKind.i64.wrap (-want)=-want:=IntWalk.i64_in _ (by omega)
  have HR:=Lib.hid (show zaw n want=decide (-want≤n) by unfold zaw;rw[if_pos h2])
  go_enter Tryz.func106,Tryz.ntmps106
  go_wp2
  go_ret
  exact⟨ze HR.out.symm,rfl⟩
 ·have q2:decide (want<0)=false:=decide_eq_false h2
  have HR:=Lib.hid (show zaw n want=decide ((n:Int)=want) by unfold zaw;rw[if_neg h2])
  go_enter Tryz.func106,Tryz.ntmps106
  go_wp2
  go_ret
  exact⟨ze (by rw[HR.out];rw[Bool.eq_iff_iff];simp),rfl⟩
theorem zmh (t:Ex):∀(P:Nat→Prop) (w:World) (x y z:Value),IsEx P w x y z t→t.size≤4194304 →
  Calls Tryz.prog 108 #[.agg #[x,y,z]] w fun e w'=>e=.returned (.bool t.may)∧Ext w w':=by
 induction t using Ex.ind with
 |h v nm l ih =>
  intro P w x y z ht hs
  obtain⟨a,c,rfl,rfl,rfl,hn,hc1,hk⟩:=ht.form
  simp only[Ex.var,Ex.name,Ex.args]at hn hc1 hk ⊢
  simp only[Ex.size]at hs
  have hkl:=Ex.length_le_sizes l
  have HU:=Lib.hid (fun w=>zje nm hn w)
  have HN:=Lib.hid (fun w=>zd3 nm hn w)
  obtain⟨W,hW⟩:∃W,W=w.alloc (.cells #[.bool v,.string nm,.slice a l.length c] 73):=⟨_,rfl⟩
  have hx:Ext w W:=by rw[hW];exact zb _ _
  obtain⟨b0,b1,b2⟩:=znv w (.bool v) (.string nm) (.slice a l.length c) 73
  rw[←hW]at b0 b1 b2
  simp only[Ex.may]
  cases v with
  |true =>
   have hp:l.length=0∨0<l.length:=by omega
   clear hx hk ih ht b0 b1 b2 hW
   rcases hp with hp|hp
   ·have q1:((l.length:Int)==0)=true:=by rw[beq_iff_eq];omega
    have HD:=Lib.hid hp
    clear hp
    go_enter Tryz.func108,Tryz.ntmps108
    go_wp2_with (go_at_call 144;refine(HU.out _).mono ?_;rintro e w1 ⟨rfl,rfl⟩)
    go_ret
    exact⟨ze (by have h1:l=[]:=List.eq_nil_of_length_eq_zero HD.out;simp[h1]),zb _ _⟩
   ·have q1:((l.length:Int)==0)=false:=by rw[beq_eq_false_iff_ne];omega
    have HD:=Lib.hid hp
    clear hp
    go_enter Tryz.func108,Tryz.ntmps108
    go_wp2_with fail
    go_ret
    exact⟨ze (by have h1:l≠[]:=fun h=>by have:=HD.out;rw[h]at this;simp at this
                 simp[h1]),zb _ _⟩
  |false =>
   cases hnm:named nm with
   |false =>
    rw[hnm]at HN
    clear hnm hx hk ih ht b0 b1 b2 hW
    go_enter Tryz.func108,Tryz.ntmps108
    go_wp2_with (go_at_call 72;refine(HN.out _).mono ?_;rintro e w1 ⟨rfl,rfl⟩)
    go_ret
    exact⟨rfl,zb _ _⟩
   |true =>
    rw[hnm]at HN
    clear hnm ht
    go_enter Tryz.func108,Tryz.ntmps108
    go_wp2_with (rw[←hW];clear hW;go_at_call 72;refine(HN.out _).mono ?_;rintro e w1 ⟨rfl,rfl⟩)
    go_loopw [3] (fun i wr=>∃k:Nat,k≤l.length∧i=.int .i64 k∧Ext W wr∧Ex.mays (l.take k)=true) (fun i _=>l.length-(intOf i).toNat)
    case atStart=>exact⟨0,Nat.zero_le _,rfl,Below.refl _ _,rfl⟩
    case round =>
     obtain⟨k,hkk,rfl,hxr,hm⟩:=hrel
     have HM:=Lib.hid hm;clear hm
     replace b2:=hxr.cell b2
     clear b0 b1
     by_cases hlt:k<l.length
     ·obtain⟨b,o,a',c',rfl,hb,g1,g2,g3,hi⟩:=(IsExs.ext hk (hx.trans hxr)).look hlt
      have hlt':(k:Int)<l.length:=by omega
      have HE:=Lib.hid (ih _ (List.getElem_mem hlt) P wr _ _ _ hi (by have:=Ex.size_le_sizes hlt;omega))
      have hst:Ex.mays (l.take (k+1))=(Ex.mays (l.take k)&&l[k].may):=by
       rw[Ex.mays_all,Ex.mays_all,List.take_succ_eq_append_getElem hlt,List.all_append];simp
      have HST:=Lib.hid hst
      clear hst ih
      cases hmk:l[k].may with
      |true =>
       rw[hmk]at HE HST
       clear hmk
       go_wp2_with (go_at_call 108;refine(HE.out).mono ?_;rintro e w1 ⟨rfl,hx1⟩)
       go_roundw
       case rel=>exact⟨k+1,by omega,by go_num,hxr.trans hx1,by rw[HST.out,HM.out];rfl⟩
       case measure=>simp[intOf];omega
      |false =>
       rw[hmk]at HE
       have HMK:=Lib.hid hmk
       clear hmk
       go_wp2_with (go_at_call 108;refine(HE.out).mono ?_;rintro e w1 ⟨rfl,hx1⟩)
       go_ret
       have h1:Ex.mays l=false:=by
        rw[Ex.mays_all]
        cases h2:l.all Ex.may with
        |false=>rfl
        |true=>have:=List.all_eq_true.1 h2 l[k] (List.getElem_mem hlt);rw[HMK.out]at this;cases this
       exact⟨ze (by rw[h1]),hx.trans (hxr.trans hx1)⟩
     ·have hlt':¬(k:Int)<l.length:=by omega
      go_wp2_with fail
      go_ret
      have:k=l.length:=by omega
      subst this
      have h1:=HM.out
      rw[List.take_length]at h1
      exact⟨ze (by rw[h1]),hx.trans hxr⟩
theorem zmi (l:List ByteArray) (hl:l.length≤1073741824) (P:Nat→Prop) (w:World) (a:Option Addr) (c:Nat) (h:IsStrs P w a l) :
  Calls Tryz.prog 107 #[.slice a l.length c] w fun e w'=>e=.returned (.bool (zdk l))∧Ext w w':=by
 have HS:=Lib.hid (show zdk l=zdd (l.take 0) (l.drop 0) by simp[zdk])
 go_enter Tryz.func107,Tryz.ntmps107
 go_wp2_with fail
 go_loopw [3] (fun i wr=>∃k:Nat,k≤l.length∧i=.int .i64 k∧Ext w wr∧zdk l=zdd (l.take k) (l.drop k)) (fun i _=>l.length-(intOf i).toNat)
 case atStart=>exact⟨0,Nat.zero_le _,rfl,Below.refl _ _,HS.out⟩
 case round =>
  obtain⟨k,hk,rfl,hx,hv⟩:=hrel
  have HV:=Lib.hid hv
  clear hv HS
  by_cases hlt:k<l.length
  ·obtain⟨b,o,rfl,hb,g1,hsz⟩:=IsStrs.look (h.ext hx) hlt
   have hlt':(k:Int)<l.length:=by omega
   have HU:=Lib.hid (fun w=>zje l[k] hsz w)
   have HST:=Lib.hid (zh5 hlt)
   cases hu:zcg l[k] with
   |false =>
    rw[hu]at HU HST
    clear hu
    go_wp2_with (go_at_call 144;refine(HU.out _).mono ?_;rintro e w1 ⟨rfl,rfl⟩)
    go_ret
    exact⟨ze (by rw[HV.out,HST.out];rfl),hx⟩
   |true =>
    rw[hu]at HU HST
    clear hu
    go_wp2_with (go_at_call 144;refine(HU.out _).mono ?_;rintro e w1 ⟨rfl,rfl⟩)
    obtain⟨wo,rfl⟩:∃wo:World,wo=wr:=⟨_,rfl⟩
    go_loopw [4] (fun i wr=>∃j:Nat,j≤k∧i=.int .i64 j∧Ext wo wr∧((l.take j).any fun u=>decide (u=l[k]))=false) (fun i _=>k-(intOf i).toNat)
    case atStart=>exact⟨0,Nat.zero_le _,rfl,Below.refl _ _,rfl⟩
    case round =>
     obtain⟨j,hj,rfl,hx2,hany⟩:=hrel
     have HANY:=Lib.hid hany
     clear hany
     by_cases hjk:j<k
     ·have hjk':(j:Int)<k:=by omega
      have hjl:j<l.length:=by omega
      have hjl':(j:Int)<l.length:=by omega
      obtain⟨b',o',hbo,-,g2,-⟩:=IsStrs.look (h.ext (hx.trans hx2)) hjl
      injection hbo with hbo
      injection hbo with e1 e2 _
      subst e1;subst e2
      replace g1:=hx2.cell g1
      have hst:((l.take (j+1)).any fun u=>decide (u=l[k]))=(((l.take j).any fun u=>decide (u=l[k])) || decide (l[j]=l[k])):=by
       rw[List.take_succ_eq_append_getElem hjl,List.any_append];simp
      have HST2:=Lib.hid hst
      clear hst
      by_cases heq:l[k]=l[j]
      ·have q1:(l[k].toList==l[j].toList)=true:=zkp heq
       have HEQ:=Lib.hid heq
       clear heq
       go_wp2_with fail
       go_quiet (fail)
       go_wp2_with fail
       go_ret
       refine⟨ze ?_,hx.trans (Ext.drewN hx2 _)⟩
       have h1:((l.take k).any fun u=>decide (u=l[k]))=true:=List.any_eq_true.2 ⟨l[j],List.mem_take_iff_getElem.2 ⟨j,by omega,rfl⟩,by rw[HEQ.out];simp⟩
       rw[HV.out,HST.out,h1];rfl
      ·have q1:(l[k].toList==l[j].toList)=false:=zko heq
       have HEQ:=Lib.hid heq
       clear heq
       go_wp2_with fail
       go_quiet (fail)
       go_wp2_with fail
       go_roundw
       case rel=>exact⟨j+1,by omega,by go_num,Ext.drewN hx2 _,by rw[HST2.out,HANY.out,decide_eq_false (fun h=>HEQ.out h.symm)];rfl⟩
       case measure=>simp[intOf];omega
     ·have hjk':¬(j:Int)<k:=by omega
      have hj2:j=k:=by omega
      have HJ:=Lib.hid hj2
      clear hj2
      go_wp2_with fail
      go_roundw
      case rel =>
       have h1:=HANY.out
       rw[HJ.out]at h1
       exact⟨k+1,by omega,by go_num,hx.trans hx2,by rw[HV.out,HST.out,h1];rfl⟩
      case measure=>simp[intOf];omega
  ·have hlt':¬(k:Int)<l.length:=by omega
   go_wp2_with fail
   go_ret
   have:k=l.length:=by omega
   subst this
   exact⟨ze (by rw[HV.out,List.drop_length];rfl),hx⟩
theorem zhf {t:List Ex}{k:Nat}(h:k<t.length):zaz (t.take (k+1))=(zaz (t.take k)&&(decide (t[k].depth≤30)&&decide (t[k].wide≤6))):=by
 unfold zaz
 rw[List.take_succ_eq_append_getElem h,List.all_append];simp
theorem zd6 {t:List Ex}{k:Nat}(h:k<t.length) (hb:¬(t[k].depth≤30∧t[k].wide≤6)):zaz t=false:=by
 unfold zaz
 cases h2:t.all fun x=>decide (x.depth≤30)&&decide (x.wide≤6) with
 |false=>rfl
 |true=>have:=List.all_eq_true.1 h2 t[k] (List.getElem_mem h);simp only[Bool.and_eq_true,decide_eq_true_eq]at this;exact absurd this hb
theorem zpk {l:List Fm}{k:Nat}(h:k<l.length):Fm.narrows (l.take (k+1))=(Fm.narrows (l.take k)&&l[k].narrow):=by
 rw[Fm.narrows_all,Fm.narrows_all,List.take_succ_eq_append_getElem h,List.all_append];simp
theorem zrr {l:List Fm}{k:Nat}(h:k<l.length) (hb:l[k].narrow=false):Fm.narrows l=false:=by
 rw[Fm.narrows_all]
 cases h2:l.all Fm.narrow with
 |false=>rfl
 |true=>have:=List.all_eq_true.1 h2 l[k] (List.getElem_mem h);rw[hb]at this;cases this
theorem zv0 {l:List Fm}{k:Nat}(h:k<l.length):Fm.mays (l.take (k+1))=(Fm.mays (l.take k)&&l[k].may):=by
 rw[Fm.mays_all,Fm.mays_all,List.take_succ_eq_append_getElem h,List.all_append];simp
theorem zyv {l:List Fm}{k:Nat}(h:k<l.length) (hb:l[k].may=false):Fm.mays l=false:=by
 rw[Fm.mays_all]
 cases h2:l.all Fm.may with
 |false=>rfl
 |true=>have:=List.all_eq_true.1 h2 l[k] (List.getElem_mem h);rw[hb]at this;cases this
theorem zt7 (t:Fm):∀(P:Nat→Prop) (w:World) (x y z u:Value),IsFm P w x y z u t→t.size≤4194304 →
  Calls Tryz.prog 54 #[.agg #[x,y,z,u]] w fun e w'=>e=.returned (.bool t.narrow)∧Ext w w':=by
 induction t using Fm.ind with
 |h op v t l ih =>
  intro P w x y z u ht hs
  obtain⟨va,vc,ta,tc,a,c,rfl,rfl,rfl,rfl,ho1,ho2,hvl,htl,hll,hvs,hts,hls⟩:=ht.form
  simp only[Fm.op,Fm.vars,Fm.terms,Fm.args]at *
  simp only[Fm.size]at hs
  have hkl:=Fm.length_le_sizes l
  have hkt:=Ex.length_le_sizes t
  obtain⟨W,hW⟩:∃W,W=w.alloc (.cells #[.int .i64 op,.slice va v.length vc,.slice ta t.length tc,.slice a l.length c] 29):=⟨_,rfl⟩
  have hx:Ext w W:=by rw[hW];exact zb _ _
  obtain⟨b0,b1,b2,b3⟩:=zea w (.int .i64 op) (.slice va v.length vc) (.slice ta t.length tc) (.slice a l.length c) 29
  rw[←hW]at b0 b1 b2 b3
  clear b0 b1 hvs ht
  have HN:=Lib.hid (show Fm.narrow (.mk op v t l)=(zaz t&&Fm.narrows l) by simp only[Fm.narrow])
  have HIH:=Lib.hid ih
  clear ih
  go_enter Tryz.func54,Tryz.ntmps54
  go_wp2_with fail
  rw[←hW]
  clear hW
  go_loopw [3] (fun i wr=>∃k:Nat,k≤t.length∧i=.int .i64 k∧Ext W wr∧zaz (t.take k)=true) (fun i _=>t.length-(intOf i).toNat)
  case atStart=>exact⟨0,Nat.zero_le _,rfl,Below.refl _ _,rfl⟩
  case round =>
   obtain⟨k,hk,rfl,hxr,hm⟩:=hrel
   have HM:=Lib.hid hm;clear hm
   replace b2:=hxr.cell b2
   replace b3:=hxr.cell b3
   by_cases hlt:k<t.length
   ·obtain⟨b,o,a',c',rfl,hb,g1,g2,g3,hi⟩:=(IsExs.ext hts (hx.trans hxr)).look hlt
    have hlt':(k:Int)<t.length:=by omega
    have hsz:t[k].size≤4194304:=by have:=Ex.size_le_sizes hlt;omega
    have HE:=Lib.hid (zjx t[k] P wr _ _ _ hi hsz)
    have HW:=Lib.hid (fun w' (hx:Ext wr w')=>zra t[k] P w' _ _ _ (hi.ext hx) hsz)
    have HST:=Lib.hid (zhf hlt)
    by_cases hd:t[k].depth≤30
    ·have q1:decide ((30:Int)<(t[k].depth:Nat))=false:=decide_eq_false (by omega)
     by_cases hw:t[k].wide≤6
     ·have q2:decide ((6:Int)<(t[k].wide:Nat))=false:=decide_eq_false (by omega)
      go_wp2_with (first|(go_at_call 103;refine(HE.out).mono ?_;rintro e w1 ⟨rfl,hx1⟩;replace b2:=hx1.cell b2;replace g1:=hx1.cell g1;replace g2:=hx1.cell g2;replace g3:=hx1.cell g3)|(go_at_call 104;refine(HW.out _ hx1).mono ?_;rintro e w2 ⟨rfl,hx2⟩))
      go_roundw
      case rel=>exact⟨k+1,by omega,by go_num,(hxr.trans hx1).trans hx2,by rw[HST.out,HM.out,decide_eq_true hd,decide_eq_true hw];rfl⟩
      case measure=>simp[intOf];omega
     ·have q2:decide ((6:Int)<(t[k].wide:Nat))=true:=decide_eq_true (by omega)
      have HB:=Lib.hid (zd6 hlt (fun h=>hw h.2))
      clear hd hw
      go_wp2_with (first|(go_at_call 103;refine(HE.out).mono ?_;rintro e w1 ⟨rfl,hx1⟩;replace b2:=hx1.cell b2;replace g1:=hx1.cell g1;replace g2:=hx1.cell g2;replace g3:=hx1.cell g3)|(go_at_call 104;refine(HW.out _ hx1).mono ?_;rintro e w2 ⟨rfl,hx2⟩))
      go_ret
      exact⟨ze (by rw[HN.out,HB.out];rfl),hx.trans ((hxr.trans hx1).trans hx2)⟩
    ·have q1:decide ((30:Int)<(t[k].depth:Nat))=true:=decide_eq_true (by omega)
     have HB:=Lib.hid (zd6 hlt (fun h=>hd h.1))
     clear hd
     go_wp2_with (go_at_call 103;refine(HE.out).mono ?_;rintro e w1 ⟨rfl,hx1⟩)
     go_ret
     exact⟨ze (by rw[HN.out,HB.out];rfl),hx.trans (hxr.trans hx1)⟩
   ·have hlt':¬(k:Int)<t.length:=by omega
    have hkt2:k=t.length:=by omega
    have HNT:=Lib.hid (show zaz t=true by have:=HM.out;rwa [hkt2,List.take_length]at this)
    clear hkt2
    go_wp2_with fail
    obtain⟨wo,rfl⟩:∃wo:World,wo=wr:=⟨_,rfl⟩
    clear b2
    go_loopw [4] (fun i wr=>∃j:Nat,j≤l.length∧i=.int .i64 j∧Ext wo wr∧Fm.narrows (l.take j)=true) (fun i _=>l.length-(intOf i).toNat)
    case atStart=>exact⟨0,Nat.zero_le _,rfl,Below.refl _ _,rfl⟩
    case round =>
     obtain⟨j,hj,rfl,hxj,hm⟩:=hrel
     have HM2:=Lib.hid hm;clear hm
     replace b3:=hxj.cell b3
     by_cases hltj:j<l.length
     ·obtain⟨b,o,va',vc',ta',tc',a',c',rfl,hb,g1,g2,g3,g4,hi⟩:=(IsFms.ext hls ((hx.trans hxr).trans hxj)).look hltj
      have hltj':(j:Int)<l.length:=by omega
      have HE:=Lib.hid (HIH.out _ (List.getElem_mem hltj) P wr _ _ _ _ hi (by have:=Fm.size_le_sizes hltj;omega))
      have HST:=Lib.hid (zpk hltj)
      cases hnn:l[j].narrow with
      |true =>
       rw[hnn]at HE HST
       clear hnn
       go_wp2_with (go_at_call 54;refine(HE.out).mono ?_;rintro e w1 ⟨rfl,hx1⟩)
       go_roundw
       case rel=>exact⟨j+1,by omega,by go_num,hxj.trans hx1,by rw[HST.out,HM2.out];rfl⟩
       case measure=>simp[intOf];omega
      |false =>
       rw[hnn]at HE
       have HB:=Lib.hid (zrr hltj hnn)
       clear hnn
       go_wp2_with (go_at_call 54;refine(HE.out).mono ?_;rintro e w1 ⟨rfl,hx1⟩)
       go_ret
       exact⟨ze (by rw[HN.out,HB.out,Bool.and_false]),hx.trans ((hxr.trans hxj).trans hx1)⟩
     ·have hltj':¬(j:Int)<l.length:=by omega
      have hjl:j=l.length:=by omega
      have HNL:=Lib.hid (show Fm.narrows l=true by have:=HM2.out;rwa [hjl,List.take_length]at this)
      clear hjl
      go_wp2_with fail
      go_ret
      exact⟨ze (by rw[HN.out,HNT.out,HNL.out];rfl),hx.trans (hxr.trans hxj)⟩
theorem zjf {op a b c:Int}(h:za8 op=some (a,b,c)):(-1000≤a∧a≤1000)∧(-1000≤b∧b≤1000)∧(-1000≤c∧c≤1000):=by
 unfold za8 at h
 repeat' split at h
 all_goals first
  |(cases h;done)
  |(simp only[Option.some.injEq,Prod.mk.injEq]at h;omega)
def zef (op:Int) (x:Ex):Bool:=x.may&&!(decide (op=3)&&x.var)
theorem zkr {op a b c:Int}{v:List ByteArray}{t:List Ex}{n:Nat}(h:za8 op=some (a,b,c)):zh6 op v t n=(zaw v.length a&&zaw t.length b&&zaw n c&&zdk v&&t.all (zef op)):=by
 unfold zh6;rw[h];rfl
theorem zks {op:Int}{v:List ByteArray}{t:List Ex}{n:Nat}(h:za8 op=none):zh6 op v t n=false:=by
 unfold zh6;rw[h]
theorem zmy {op:Int}{t:List Ex}{k:Nat}(h:k<t.length):(t.take (k+1)).all (zef op)=((t.take k).all (zef op)&&zef op t[k]):=by
 rw[List.take_succ_eq_append_getElem h,List.all_append];simp
theorem zpl {op:Int}{t:List Ex}{k:Nat}(h:k<t.length) (hb:zef op t[k]=false):t.all (zef op)=false:=by
 cases h2:t.all (zef op) with
 |false=>rfl
 |true=>have:=List.all_eq_true.1 h2 t[k] (List.getElem_mem h);rw[hb]at this;cases this
theorem zt8 (t:Fm):∀(P:Nat→Prop) (w:World) (x y z u:Value),IsFm P w x y z u t→t.size≤4194304 →
  Calls Tryz.prog 55 #[.agg #[x,y,z,u]] w fun e w'=>e=.returned (.bool t.may)∧Ext w w':=by
 induction t using Fm.ind with
 |h op v t l ih =>
  intro P w x y z u ht hs
  obtain⟨va,vc,ta,tc,a,c,rfl,rfl,rfl,rfl,ho1,ho2,hvl,htl,hll,hvs,hts,hls⟩:=ht.form
  simp only[Fm.op,Fm.vars,Fm.terms,Fm.args]at *
  simp only[Fm.size]at hs
  have hkl:=Fm.length_le_sizes l
  have hkt:=Ex.length_le_sizes t
  obtain⟨W,hW⟩:∃W,W=w.alloc (.cells #[.int .i64 op,.slice va v.length vc,.slice ta t.length tc,.slice a l.length c] 29):=⟨_,rfl⟩
  have hx:Ext w W:=by rw[hW];exact zb _ _
  obtain⟨b0,b1,b2,b3⟩:=zea w (.int .i64 op) (.slice va v.length vc) (.slice ta t.length tc) (.slice a l.length c) 29
  rw[←hW]at b0 b1 b2 b3
  clear ht
  have HN:=Lib.hid (show Fm.may (.mk op v t l)=(zh6 op v t l.length&&Fm.mays l) by simp only[Fm.may])
  have HIH:=Lib.hid ih
  have HT:=Lib.hid (fun w=>zvz op w)
  have HV:=Lib.hid (fun w' (hx:Ext w w')=>zmi v (by omega) P w' va vc (IsStrs.ext hvs hx))
  clear ih hvs
  unfold zkq at HT
  cases hsh:za8 op with
  |none =>
   rw[hsh]at HT
   have HB:=Lib.hid (zks (v:=v) (t:=t) (n:=l.length) hsh)
   clear hsh
   simp only[Option.getD_none,Option.isSome_none]at HT
   go_enter Tryz.func55,Tryz.ntmps55
   go_wp2_with (rw[←hW];clear hW;go_at_call 105;refine(HT.out _).mono ?_;rintro e w1 ⟨rfl,rfl⟩)
   go_ret
   exact⟨ze (by rw[HN.out,HB.out];rfl),hx⟩
  |some abc =>
  obtain⟨sa,sb,sc⟩:=abc
  rw[hsh]at HT
  simp only[Option.getD_some,Option.isSome_some]at HT
  obtain⟨⟨u1,u2⟩,⟨u3,u4⟩,⟨u5,u6⟩⟩:=zjf hsh
  have HTM:=Lib.hid (zkr (v:=v) (t:=t) (n:=l.length) hsh)
  clear hsh
  have HC1:=Lib.hid (fun w=>zeb v.length sa (by omega) u1 u2 w)
  have HC2:=Lib.hid (fun w=>zeb t.length sb (by omega) u3 u4 w)
  have HC3:=Lib.hid (fun w=>zeb l.length sc (by omega) u5 u6 w)
  clear u1 u2 u3 u4 u5 u6
  cases hc1:zaw v.length sa with
  |false =>
   rw[hc1]at HC1 HTM
   clear hc1
   go_enter Tryz.func55,Tryz.ntmps55
   go_wp2_with (first|(rw[←hW];clear hW;go_at_call 105;refine(HT.out _).mono ?_;rintro e w1 ⟨rfl,rfl⟩)|(go_at_call 106;with_reducible refine(HC1.out _).mono ?_;rintro e w1 ⟨rfl,rfl⟩))
   go_ret
   exact⟨ze (by rw[HN.out,HTM.out];simp),hx⟩
  |true =>
  rw[hc1]at HC1 HTM
  clear hc1
  cases hc2:zaw t.length sb with
  |false =>
   rw[hc2]at HC2 HTM
   clear hc2
   go_enter Tryz.func55,Tryz.ntmps55
   go_wp2_with (first|(rw[←hW];clear hW;go_at_call 105;refine(HT.out _).mono ?_;rintro e w1 ⟨rfl,rfl⟩)|(go_at_call 106;with_reducible refine(HC1.out _).mono ?_;rintro e w1 ⟨rfl,rfl⟩)|(go_at_call 106;with_reducible refine(HC2.out _).mono ?_;rintro e w1 ⟨rfl,rfl⟩))
   go_ret
   exact⟨ze (by rw[HN.out,HTM.out];simp),hx⟩
  |true =>
  rw[hc2]at HC2 HTM
  clear hc2
  cases hc3:zaw l.length sc with
  |false =>
   rw[hc3]at HC3 HTM
   clear hc3
   go_enter Tryz.func55,Tryz.ntmps55
   go_wp2_with (first|(rw[←hW];clear hW;go_at_call 105;refine(HT.out _).mono ?_;rintro e w1 ⟨rfl,rfl⟩)|(go_at_call 106;with_reducible refine(HC1.out _).mono ?_;rintro e w1 ⟨rfl,rfl⟩)|(go_at_call 106;with_reducible refine(HC2.out _).mono ?_;rintro e w1 ⟨rfl,rfl⟩)|(go_at_call 106;with_reducible refine(HC3.out _).mono ?_;rintro e w1 ⟨rfl,rfl⟩))
   go_ret
   exact⟨ze (by rw[HN.out,HTM.out];simp),hx⟩
  |true =>
  rw[hc3]at HC3 HTM
  clear hc3
  cases hc4:zdk v with
  |false =>
   rw[hc4]at HV HTM
   clear hc4
   go_enter Tryz.func55,Tryz.ntmps55
   go_wp2_with (first|(rw[←hW];clear hW;go_at_call 105;refine(HT.out _).mono ?_;rintro e w1 ⟨rfl,rfl⟩)|(go_at_call 106;with_reducible refine(HC1.out _).mono ?_;rintro e w1 ⟨rfl,rfl⟩)|(go_at_call 106;with_reducible refine(HC2.out _).mono ?_;rintro e w1 ⟨rfl,rfl⟩)|(go_at_call 106;with_reducible refine(HC3.out _).mono ?_;rintro e w1 ⟨rfl,rfl⟩)|(go_at_call 107;refine(HV.out _ hx).mono ?_;rintro e wv ⟨rfl,hxv⟩))
   go_ret
   exact⟨ze (by rw[HN.out,HTM.out];simp),hx.trans hxv⟩
  |true =>
  rw[hc4]at HV HTM
  clear hc4
  simp only[Bool.true_and]at HTM
  go_enter Tryz.func55,Tryz.ntmps55
  go_wp2_with (first|(rw[←hW];clear hW;go_at_call 105;refine(HT.out _).mono ?_;rintro e w1 ⟨rfl,rfl⟩)|(go_at_call 106;with_reducible refine(HC1.out _).mono ?_;rintro e w1 ⟨rfl,rfl⟩)|(go_at_call 106;with_reducible refine(HC2.out _).mono ?_;rintro e w1 ⟨rfl,rfl⟩)|(go_at_call 106;with_reducible refine(HC3.out _).mono ?_;rintro e w1 ⟨rfl,rfl⟩)|(go_at_call 107;refine(HV.out _ hx).mono ?_;rintro e wv ⟨rfl,hxv⟩;replace b0:=hxv.cell b0;replace b2:=hxv.cell b2;replace b3:=hxv.cell b3;clear b1))
  have hxx:=hx.trans hxv
  clear HT HC1 HC2 HC3 HV
  go_loopw [7] (fun i wr=>∃k:Nat,k≤t.length∧i=.int .i64 k∧Ext wv wr∧(t.take k).all (zef op)=true) (fun i _=>t.length-(intOf i).toNat)
  case atStart=>exact⟨0,Nat.zero_le _,rfl,Below.refl _ _,rfl⟩
  case round =>
   obtain⟨k,hk,rfl,hxr,hm⟩:=hrel
   have HM:=Lib.hid hm;clear hm
   replace b0:=hxr.cell b0
   replace b2:=hxr.cell b2
   replace b3:=hxr.cell b3
   by_cases hlt:k<t.length
   ·obtain⟨b,o,a',c',rfl,hb,g1,g2,g3,hi⟩:=(IsExs.ext hts (hxx.trans hxr)).look hlt
    have hlt':(k:Int)<t.length:=by omega
    have hsz:t[k].size≤4194304:=by have:=Ex.size_le_sizes hlt;omega
    have HE:=Lib.hid (zmh t[k] P wr _ _ _ hi hsz)
    have HST:=Lib.hid (zmy (op:=op) hlt)
    have HBD:=Lib.hid (zpl (op:=op) hlt)
    have HTO:=Lib.hid (show zef op t[k]=(t[k].may&&!(decide (op=3)&&t[k].var))from rfl)
    cases hmk:t[k].may with
    |false =>
     rw[hmk]at HE HTO
     have HB:=Lib.hid (HBD.out HTO.out)
     clear hmk HBD HTO
     go_wp2_with (go_at_call 108;refine(HE.out).mono ?_;rintro e w1 ⟨rfl,hx1⟩)
     go_ret
     exact⟨ze (by rw[HN.out,HTM.out,HB.out];rfl),hxx.trans (hxr.trans hx1)⟩
    |true =>
     rw[hmk]at HE HTO
     clear hmk
     by_cases h3:op=3
     ·have q3:(op==3)=true:=by rw[beq_iff_eq];exact h3
      rw[decide_eq_true h3]at HTO
      clear h3
      cases hvk:t[k].var with
      |true =>
       rw[hvk]at g1 HTO HE
       have HB:=Lib.hid (HBD.out HTO.out)
       clear hvk HBD HTO hi
       go_wp2_with (go_at_call 108;refine(HE.out).mono ?_;rintro e w1 ⟨rfl,hx1⟩;replace b0:=hx1.cell b0;replace b2:=hx1.cell b2;replace g1:=hx1.cell g1)
       go_ret
       exact⟨ze (by rw[HN.out,HTM.out,HB.out];rfl),hxx.trans (hxr.trans hx1)⟩
      |false =>
       rw[hvk]at g1 HTO HE
       clear hvk HBD hi
       go_wp2_with (go_at_call 108;refine(HE.out).mono ?_;rintro e w1 ⟨rfl,hx1⟩;replace b0:=hx1.cell b0;replace b2:=hx1.cell b2;replace g1:=hx1.cell g1)
       go_roundw
       case rel=>exact⟨k+1,by omega,by go_num,hxr.trans hx1,by rw[HST.out,HM.out,HTO.out];rfl⟩
       case measure=>simp[intOf];omega
     ·have q3:(op==3)=false:=by rw[beq_eq_false_iff_ne];exact h3
      rw[decide_eq_false h3]at HTO
      clear h3 HBD
      go_wp2_with (go_at_call 108;refine(HE.out).mono ?_;rintro e w1 ⟨rfl,hx1⟩;replace b0:=hx1.cell b0;replace b2:=hx1.cell b2;replace g1:=hx1.cell g1)
      go_roundw
      case rel=>exact⟨k+1,by omega,by go_num,hxr.trans hx1,by rw[HST.out,HM.out,HTO.out];rfl⟩
      case measure=>simp[intOf];omega
   ·have hlt':¬(k:Int)<t.length:=by omega
    have hkt2:k=t.length:=by omega
    have HNT:=Lib.hid (show t.all (zef op)=true by have:=HM.out;rwa [hkt2,List.take_length]at this)
    clear hkt2
    go_wp2_with fail
    obtain⟨wo,rfl⟩:∃wo:World,wo=wr:=⟨_,rfl⟩
    clear b2 b0
    go_loopw [8] (fun i wr=>∃j:Nat,j≤l.length∧i=.int .i64 j∧Ext wo wr∧Fm.mays (l.take j)=true) (fun i _=>l.length-(intOf i).toNat)
    case atStart=>exact⟨0,Nat.zero_le _,rfl,Below.refl _ _,rfl⟩
    case round =>
     obtain⟨j,hj,rfl,hxj,hm⟩:=hrel
     have HM2:=Lib.hid hm;clear hm
     replace b3:=hxj.cell b3
     by_cases hltj:j<l.length
     ·obtain⟨b,o,va',vc',ta',tc',a',c',rfl,hb,g1,g2,g3,g4,hi⟩:=(IsFms.ext hls ((hxx.trans hxr).trans hxj)).look hltj
      have hltj':(j:Int)<l.length:=by omega
      have HE:=Lib.hid (HIH.out _ (List.getElem_mem hltj) P wr _ _ _ _ hi (by have:=Fm.size_le_sizes hltj;omega))
      have HST:=Lib.hid (zv0 hltj)
      cases hnn:l[j].may with
      |true =>
       rw[hnn]at HE HST
       clear hnn
       go_wp2_with (go_at_call 55;refine(HE.out).mono ?_;rintro e w1 ⟨rfl,hx1⟩)
       go_roundw
       case rel=>exact⟨j+1,by omega,by go_num,hxj.trans hx1,by rw[HST.out,HM2.out];rfl⟩
       case measure=>simp[intOf];omega
      |false =>
       rw[hnn]at HE
       have HB:=Lib.hid (zyv hltj hnn)
       clear hnn
       go_wp2_with (go_at_call 55;refine(HE.out).mono ?_;rintro e w1 ⟨rfl,hx1⟩)
       go_ret
       exact⟨ze (by rw[HN.out,HB.out,Bool.and_false]),hxx.trans ((hxr.trans hxj).trans hx1)⟩
     ·have hltj':¬(j:Int)<l.length:=by omega
      have hjl:j=l.length:=by omega
      have HNL:=Lib.hid (show Fm.mays l=true by have:=HM2.out;rwa [hjl,List.take_length]at this)
      clear hjl
      go_wp2_with fail
      go_ret
      exact⟨ze (by rw[HN.out,HTM.out,HNT.out,HNL.out];rfl),hxx.trans (hxr.trans hxj)⟩
theorem zjg (t:Fm) (P:Nat→Prop) (w:World) (x y z u:Value) (ht:IsFm P w x y z u t) (hs:t.size≤4194304) :
  Calls Tryz.prog 22 #[.agg #[x,y,z,u]] w fun e w'=>e=.returned (.int .i64 t.check)∧Ext w w':=by
 have H1:=Lib.hid (fun w' (hx:Ext w w')=>ze5 t P w' x y z u (ht.ext hx) hs)
 have H2:=Lib.hid (fun w' (hx:Ext w w')=>zg7 t P w' x y z u (ht.ext hx) hs)
 have H3:=Lib.hid (fun w' (hx:Ext w w')=>zt7 t P w' x y z u (ht.ext hx) hs)
 have H4:=Lib.hid (fun w' (hx:Ext w w')=>zt8 t P w' x y z u (ht.ext hx) hs)
 obtain⟨va,vc,ta,tc,a,c,rfl,rfl,rfl,rfl,-⟩:=ht.form
 clear ht
 obtain⟨W,hW⟩:∃W,W=w.alloc (.cells #[.int .i64 t.op,.slice va t.vars.length vc,.slice ta t.terms.length tc,.slice a t.args.length c] 29):=⟨_,rfl⟩
 have hx:Ext w W:=by rw[hW];exact zb _ _
 obtain⟨c0,c1,c2,c3⟩:=zea w (.int .i64 t.op) (.slice va t.vars.length vc) (.slice ta t.terms.length tc) (.slice a t.args.length c) 29
 rw[←hW]at c0 c1 c2 c3
 by_cases h1:300<t.size
 ·have q1:decide ((300:Int)<(t.size:Nat))=true:=decide_eq_true (by omega)
  have HR:=Lib.hid (show t.check=3 by unfold Fm.check;rw[if_pos (.inl h1)])
  clear h1
  go_enter Tryz.func22,Tryz.ntmps22
  go_wp2_with (rw[←hW];clear hW;go_at_call 25;refine(H1.out _ hx).mono ?_;rintro e w1 ⟨rfl,hx1⟩;replace c0:=hx1.cell c0;replace c1:=hx1.cell c1;replace c2:=hx1.cell c2;replace c3:=hx1.cell c3)
  go_ret
  exact⟨zm (by rw[HR.out]),hx.trans hx1⟩
 have q1:decide ((300:Int)<(t.size:Nat))=false:=decide_eq_false (by omega)
 by_cases h2:30<t.depth
 ·have q2:decide ((30:Int)<(t.depth:Nat))=true:=decide_eq_true (by omega)
  have HR:=Lib.hid (show t.check=3 by unfold Fm.check;rw[if_pos (.inr (.inl h2))])
  clear h1 h2
  go_enter Tryz.func22,Tryz.ntmps22
  go_wp2_with (first|(rw[←hW];clear hW;go_at_call 25;refine(H1.out _ hx).mono ?_;rintro e w1 ⟨rfl,hx1⟩;replace c0:=hx1.cell c0;replace c1:=hx1.cell c1;replace c2:=hx1.cell c2;replace c3:=hx1.cell c3)|(go_at_call 45;refine(H2.out _ (hx.trans hx1)).mono ?_;rintro e w2 ⟨rfl,hx2⟩;replace c0:=hx2.cell c0;replace c1:=hx2.cell c1;replace c2:=hx2.cell c2;replace c3:=hx2.cell c3))
  go_ret
  exact⟨zm (by rw[HR.out]),(hx.trans hx1).trans hx2⟩
 have q2:decide ((30:Int)<(t.depth:Nat))=false:=decide_eq_false (by omega)
 cases h3:t.narrow with
 |false =>
  have HR:=Lib.hid (show t.check=3 by unfold Fm.check;rw[if_pos (.inr (.inr h3))])
  rw[h3]at H3
  clear h1 h2 h3
  go_enter Tryz.func22,Tryz.ntmps22
  go_wp2_with (first|(rw[←hW];clear hW;go_at_call 25;refine(H1.out _ hx).mono ?_;rintro e w1 ⟨rfl,hx1⟩;replace c0:=hx1.cell c0;replace c1:=hx1.cell c1;replace c2:=hx1.cell c2;replace c3:=hx1.cell c3)|(go_at_call 45;refine(H2.out _ (hx.trans hx1)).mono ?_;rintro e w2 ⟨rfl,hx2⟩;replace c0:=hx2.cell c0;replace c1:=hx2.cell c1;replace c2:=hx2.cell c2;replace c3:=hx2.cell c3)|(go_at_call 54;refine(H3.out _ ((hx.trans hx1).trans hx2)).mono ?_;rintro e w3 ⟨rfl,hx3⟩;replace c0:=hx3.cell c0;replace c1:=hx3.cell c1;replace c2:=hx3.cell c2;replace c3:=hx3.cell c3))
  go_ret
  exact⟨zm (by rw[HR.out]),((hx.trans hx1).trans hx2).trans hx3⟩
 |true =>
  rw[h3]at H3
  have HR:=Lib.hid (show t.check=if t.may then 0 else 2 by unfold Fm.check;rw[if_neg (by rintro(h|h|h);exact h1 h;exact h2 h;rw[h3]at h;cases h)])
  clear h1 h2 h3
  cases h4:t.may with
  |false =>
   rw[h4]at H4 HR
   clear h4
   go_enter Tryz.func22,Tryz.ntmps22
   go_wp2_with (first|(rw[←hW];clear hW;go_at_call 25;refine(H1.out _ hx).mono ?_;rintro e w1 ⟨rfl,hx1⟩;replace c0:=hx1.cell c0;replace c1:=hx1.cell c1;replace c2:=hx1.cell c2;replace c3:=hx1.cell c3)|(go_at_call 45;refine(H2.out _ (hx.trans hx1)).mono ?_;rintro e w2 ⟨rfl,hx2⟩;replace c0:=hx2.cell c0;replace c1:=hx2.cell c1;replace c2:=hx2.cell c2;replace c3:=hx2.cell c3)|(go_at_call 54;refine(H3.out _ ((hx.trans hx1).trans hx2)).mono ?_;rintro e w3 ⟨rfl,hx3⟩;replace c0:=hx3.cell c0;replace c1:=hx3.cell c1;replace c2:=hx3.cell c2;replace c3:=hx3.cell c3)|(go_at_call 55;refine(H4.out _ (((hx.trans hx1).trans hx2).trans hx3)).mono ?_;rintro e w4 ⟨rfl,hx4⟩))
   go_ret
   exact⟨zm (by rw[HR.out];rfl),(((hx.trans hx1).trans hx2).trans hx3).trans hx4⟩
  |true =>
   rw[h4]at H4 HR
   clear h4
   go_enter Tryz.func22,Tryz.ntmps22
   go_wp2_with (first|(rw[←hW];clear hW;go_at_call 25;refine(H1.out _ hx).mono ?_;rintro e w1 ⟨rfl,hx1⟩;replace c0:=hx1.cell c0;replace c1:=hx1.cell c1;replace c2:=hx1.cell c2;replace c3:=hx1.cell c3)|(go_at_call 45;refine(H2.out _ (hx.trans hx1)).mono ?_;rintro e w2 ⟨rfl,hx2⟩;replace c0:=hx2.cell c0;replace c1:=hx2.cell c1;replace c2:=hx2.cell c2;replace c3:=hx2.cell c3)|(go_at_call 54;refine(H3.out _ ((hx.trans hx1).trans hx2)).mono ?_;rintro e w3 ⟨rfl,hx3⟩;replace c0:=hx3.cell c0;replace c1:=hx3.cell c1;replace c2:=hx3.cell c2;replace c3:=hx3.cell c3)|(go_at_call 55;refine(H4.out _ (((hx.trans hx1).trans hx2).trans hx3)).mono ?_;rintro e w4 ⟨rfl,hx4⟩))
   go_ret
   exact⟨zm (by rw[HR.out];rfl),(((hx.trans hx1).trans hx2).trans hx3).trans hx4⟩
theorem zn1 (a b:List UInt8):(⟨a.toArray⟩:ByteArray)++⟨b.toArray⟩=⟨(a++b).toArray⟩:=by
 apply ByteArray.ext;simp
theorem z06 (a:List UInt8) (x:UInt8):(⟨a.toArray⟩:ByteArray)++⟨#[x]⟩=⟨(a++[x]).toArray⟩:=zn1 a [x]
theorem zj3 (a:List UInt8):(⟨a.toArray⟩:ByteArray).size=a.length:=rfl
theorem zin {n:ByteArray}(h:named n=true):n.size≤40:=by unfold named at h;rw[Bool.and_eq_true,decide_eq_true_iff]at h;exact h.1.2
theorem zmz {n:ByteArray}(h:named n=true):(zay n).1.data.toList.length≤42:=by
 have h1:=zin h
 unfold zay
 rw[if_pos h]
 split
 ·simp only;have:n.data.toList.length=n.size:=by simp
  omega
 ·simp only
  have:((⟨#[39]⟩++n++⟨#[39]⟩:ByteArray)).data.toList.length=n.size+2:=by simp
  omega
theorem Ex.text_len (x:Ex):x.may=true→x.text.length+1≤50 * x.size:=by
 refine Ex.rec (motive_1:=fun x=>x.may=true→x.text.length+1≤50 * x.size) (motive_2:=fun l=>Ex.mays l=true→∀c,(Ex.texts c l).length≤50 * Ex.sizes l) ?_ ?_ ?_ x
 ·intro v n l ih hm
  have h1:(if v then n.data.toList else (zay n).1.data.toList).length≤42:=by
   cases v<;>simp only[Ex.may,if_true,Bool.false_eq_true,if_false,Bool.and_eq_true]at hm ⊢
   ·exact zmz hm.1
   ·have h:=hm.2;unfold zcg at h;rw[Bool.and_eq_true]at h
    have:=zin h.1
    have e:n.data.toList.length=n.size:=by simp
    omega
  have hms:Ex.mays l=true:=by
   cases v<;>simp only[Ex.may,if_true,Bool.false_eq_true,if_false,Bool.and_eq_true,decide_eq_true_eq]at hm
   ·exact hm.2
   ·rw[List.eq_nil_of_length_eq_zero hm.1];rfl
  have h2:=ih hms 40
  have h3:(if 0<l.length then [(41:UInt8)]else []).length≤1:=by split<;>simp
  simp only[Ex.text,Ex.size,List.length_append]
  omega
 ·intro _ c;simp[Ex.texts]
 ·intro e l h1 h2 hm c
  simp only[Ex.mays,Bool.and_eq_true]at hm
  have:=h1 hm.1
  have:=h2 hm.2 44
  simp only[Ex.texts,Ex.sizes,List.length_cons,List.length_append]
  omega
theorem Ex.texts_take:∀(l:List Ex) (c:UInt8) (k:Nat) (h:k<l.length),Ex.texts c (l.take (k+1))=Ex.texts c (l.take k)++((if k=0 then c else 44)::l[k].text)
 |[],_,_,h=>by simp at h
 |e::l,c,0,_=>by simp[Ex.texts]
 |e::l,c,k+1,h=>by
  simp only[List.take_succ_cons,Ex.texts,List.getElem_cons_succ,List.cons_append,List.append_assoc]
  rw[Ex.texts_take l 44 k (by simpa using h)]
  simp
theorem Ex.mays_at {l:List Ex}(h:Ex.mays l=true){k:Nat}(hk:k<l.length):l[k].may=true:=by
 rw[Ex.mays_all,List.all_eq_true]at h;exact h _ (List.getElem_mem hk)
theorem Ex.texts_len {l:List Ex}(h:Ex.mays l=true) (c:UInt8) (k:Nat):(Ex.texts c (l.take k)).length≤50 * Ex.sizes l:=by
 have h1:∀(l:List Ex) (c:UInt8),Ex.mays l=true→(Ex.texts c l).length≤50 * Ex.sizes l:=by
  intro l
  induction l with
  |nil=>intro c _;simp[Ex.texts]
  |cons e l ih =>
   intro c h
   simp only[Ex.mays,Bool.and_eq_true]at h
   have:=e.text_len h.1
   have:=ih 44 h.2
   simp only[Ex.texts,Ex.sizes,List.length_cons,List.length_append]
   omega
 have h2:Ex.mays (l.take k)=true:=by
  rw[Ex.mays_all,List.all_eq_true]at h ⊢
  exact fun x hx=>h x (List.take_subset _ _ hx)
 have:=h1 (l.take k) c h2
 have:=Ex.sizes_take_le l k
 omega
theorem zbw (t:Ex):t.may=true→∀(P:Nat→Prop) (w:World) (x y z:Value),IsEx P w x y z t→t.size≤4194304 →
  Calls Tryz.prog 93 #[.agg #[x,y,z]] w fun e w'=>e=.returned (.string ⟨t.text.toArray⟩)∧Ext w w':=by
 induction t using Ex.ind with
 |h v n l ih =>
  intro hm P w x y z ht hs
  obtain⟨a,c,rfl,rfl,rfl,hn,hc1,hk⟩:=ht.form
  simp only[Ex.var,Ex.name,Ex.args]at hn hc1 hk ⊢
  obtain⟨W,hW⟩:∃W,W=w.alloc (.cells #[.bool v,.string n,.slice a l.length c] 73):=⟨_,rfl⟩
  have hx:Ext w W:=by rw[hW];exact zb _ _
  have hb:Own W w.heap.size [.bool v,.string n,.slice a l.length c]:=by rw[hW];exact own3 w _ _ _ _
  obtain⟨k0,-⟩:=hb 0 _ rfl
  obtain⟨k1,-⟩:=hb 1 _ rfl
  obtain⟨k2,-⟩:=hb 2 _ rfl
  have hbl:=hb.lt
  clear ht
  cases v with
  |true =>
   simp only[Ex.may,if_true,Bool.and_eq_true,decide_eq_true_eq]at hm
   have hl:=List.eq_nil_of_length_eq_zero hm.1
   subst hl
   have HT:=Lib.hid (show(⟨(Ex.mk true n []).text.toArray⟩:ByteArray)=n by simp only[Ex.text,if_true,Ex.texts,List.length_nil,Nat.lt_irrefl,if_false,List.append_nil])
   clear hm ih
   simp only[List.length_nil]at hW
   go_enter Tryz.func93,Tryz.ntmps93
   go_upto_region 1 with fail
   rw[←hW]
   clear hW
   go_wp2
   go_ret
   exact⟨by rw[HT.out];rfl,hx⟩
  |false =>
   simp only[Ex.may,Bool.false_eq_true,if_false,Bool.and_eq_true]at hm
   obtain⟨hnm,hms⟩:=hm
   simp only[Ex.size]at hs
   have hq:=zmz hnm
   have HQ:=Lib.hid (fun w=>zha n hn w)
   have HT:=Lib.hid (show(Ex.mk false n l).text=(zay n).1.data.toList++(Ex.texts 40 l++(if 0<l.length then [41]else [])) by simp only[Ex.text,Bool.false_eq_true,if_false])
   generalize (zay n).2=qb at HQ
   generalize (zay n).1=q at HQ hq HT
   have hql:q.size≤42:=by have e:q.data.toList.length=q.size:=by simp
                          omega
   have HIH:=Lib.hid (fun (k:Nat) (h:k<l.length) w' (_:Ext w w') (a':Option Addr) (c':Nat) (hi:IsEx P w' (.bool l[k].var) (.string l[k].name) (.slice a' l[k].args.length c') l[k])=>ih _ (List.getElem_mem h) (Ex.mays_at hms h) P w' _ _ _ hi (by have:=Ex.size_le_sizes h;omega))
   clear ih hnm
   have hx0:=hx
   go_enter Tryz.func93,Tryz.ntmps93
   go_upto_region 4 with (rw[←hW];clear hW;go_at_call 78;refine(HQ.out _).mono ?_;rintro e w1 ⟨rfl,rfl⟩)
   go_wp2_with fail
   clear k0 k1
   go_loopw [3,5] (fun sv iv wr=>∃(k:Nat) (sb:ByteArray),k≤l.length∧iv=.int .i64 k∧sv=.string sb∧sb=⟨(q.data.toList++Ex.texts 40 (l.take k)).toArray⟩∧Ext W wr) (fun _ i _=>l.length-(intOf i).toNat)
   case atStart=>exact⟨0,q,Nat.zero_le _,rfl,rfl,by simp[Ex.texts],Below.refl _ _⟩
   case round =>
    obtain⟨k,sb,hkk,rfl,rfl,hsb,hxr⟩:=hrel
    have hkl:=Ex.length_le_sizes l
    have htl:=Ex.texts_len hms 40 k
    have hsz:sb.size≤42+50 * Ex.sizes l:=by rw[hsb,zj3,List.length_append];omega
    have Hsb:=Lib.hid hsb;clear hsb
    have b2:=hxr.cell k2
    have hwl:w.heap.size<wr.heap.size:=zf b2
    by_cases hlt:k<l.length
    ·have hk1:(k:Int)<l.length:=by omega
     have hst:=Ex.texts_take l 40 k hlt
     have hte:=l[k].text_len (Ex.mays_at hms hlt)
     have hss:=Ex.size_le_sizes hlt
     have Hst:=Lib.hid hst;clear hst
     obtain⟨b',o',a',c',rfl,-,g1,g2,g3,hi⟩:=(IsExs.ext hk (hx0.trans hxr)).look hlt
     have Hi:=Lib.hid (HIH.out k hlt wr (hx0.trans hxr) a' c' hi)
     have hq2:sb.size+1+(l[k].text).length≤9223372036854775807:=by omega
     have hq1:sb.size+1≤9223372036854775807:=by omega
     have hq3:¬ 9223372036854775807<sb.size+1+(l[k].text).length:=Nat.not_lt.2 hq2
     clear hi
     by_cases hz:k=0
     ·have hzb:((k:Int)==0)=true:=by simp[hz]
      have Hcb:=Lib.hid (show(if k=0 then (40:UInt8)else 44)=40 by rw[if_pos hz])
      clear hz
      go_wp2_with (go_at_call 93;refine(Hi.out).mono ?_;rintro e w2 ⟨rfl,hx2⟩)
      go_roundw
      case rel=>exact⟨k+1,_,by omega,by go_num,rfl,by rw[Hsb.out,Hst.out,Hcb.out];simp only[zn1];simp,hxr.trans hx2⟩
      case measure=>simp[intOf];omega
     ·have hzb:((k:Int)==0)=false:=by rw[beq_eq_false_iff_ne];omega
      have Hcb:=Lib.hid (show(if k=0 then (40:UInt8)else 44)=44 by rw[if_neg hz])
      clear hz
      go_wp2_with (go_at_call 93;refine(Hi.out).mono ?_;rintro e w2 ⟨rfl,hx2⟩)
      go_roundw
      case rel=>exact⟨k+1,_,by omega,by go_num,rfl,by rw[Hsb.out,Hst.out,Hcb.out];simp only[zn1];simp,hxr.trans hx2⟩
      case measure=>simp[intOf];omega
    ·have hk1:¬(k:Int)<l.length:=by omega
     have hke:k=l.length:=by omega
     have HS:=Lib.hid (show sb=⟨(q.data.toList++Ex.texts 40 l).toArray⟩ by rw[Hsb.out,hke,List.take_length])
     have hq1:sb.size+1≤9223372036854775807:=by omega
     clear hke htl
     by_cases h0:0<l.length
     ·have hd0:decide ((0:Int)<(l.length:Nat))=true:=decide_eq_true (by omega)
      have h0':(0:Int)<(l.length:Nat):=by omega
      replace HT:=Lib.hid (show(⟨(Ex.mk false n l).text.toArray⟩:ByteArray)=⟨(q.data.toList++(Ex.texts 40 l++[41])).toArray⟩ by rw[HT.out,if_pos h0])
      clear h0
      go_wp2_with fail
      go_ret
      exact⟨by rw[HT.out,HS.out,←List.append_assoc];exact congrArg (fun b=>Ending.returned (.string b)) (z06 _ _),hx0.trans hxr⟩
     ·have hd0:decide ((0:Int)<(l.length:Nat))=false:=decide_eq_false (by omega)
      have h0':¬(0:Int)<(l.length:Nat):=by omega
      replace HT:=Lib.hid (show(⟨(Ex.mk false n l).text.toArray⟩:ByteArray)=⟨(q.data.toList++Ex.texts 40 l).toArray⟩ by rw[HT.out,if_neg h0,List.append_nil])
      clear h0
      go_wp2_with fail
      go_ret
      exact⟨by rw[HT.out,HS.out];rfl,hx0.trans hxr⟩
def Tok.kt (t:Tok):Int×List UInt8:=(t.kind,t.text.data.toList)
def zdp (l:List UInt8):Prop:=∀c,l.head?=some c→zp c=false
def z10 (c:UInt8):Bool:=c.toNat∈[40,41,91,93,44,46,58,38,124,126,61,33,63,60]
inductive Lex:List UInt8→List (Int×List UInt8)→Prop
 |nil:Lex [] []
 |blank {l:List UInt8}{ts:List (Int×List UInt8)}(h:Lex l ts):Lex (32::l) ts
 |line {l:List UInt8}{ts:List (Int×List UInt8)}(h:Lex l ts):Lex (10::l) ts
 |low {c:UInt8}{w l:List UInt8}{ts:List (Int×List UInt8)}(hc:97≤c.toNat∧c.toNat≤122) (hw:∀x∈w,zp x=true) (hn:w.length+1≤40) (hs:zdp l) (h:Lex l ts):Lex (c::(w++l)) ((1,c::w)::ts)
 |up {c:UInt8}{w l:List UInt8}{ts:List (Int×List UInt8)}(hc:65≤c.toNat∧c.toNat≤90) (hw:∀x∈w,zp x=true) (hn:w.length+1≤40) (hs:zdp l) (h:Lex l ts):Lex (c::(w++l)) ((2,c::w)::ts)
 |dollar {c:UInt8}{w l:List UInt8}{ts:List (Int×List UInt8)}(hc:97≤c.toNat∧c.toNat≤122) (hw:∀x∈w,zp x=true) (hn:w.length+2≤40) (hs:zdp l) (h:Lex l ts):Lex (36::c::(w++l)) ((3,36::c::w)::ts)
 |quote {w l:List UInt8}{ts:List (Int×List UInt8)}(h0:0<w.length) (hw:∀x∈w,zb6 x=true) (hn:w.length≤40) (h:Lex l ts):Lex (39::(w++39::l)) ((4,w)::ts)
 |sign {c:UInt8}{w l:List UInt8}{ts:List (Int×List UInt8)}(hc:z10 c=true) (hs:zdx (c::(w++l))=w.length+1) (h:Lex l ts):Lex (c::(w++l)) ((6,c::w)::ts)
theorem zc9 {s:ByteArray}{k:Nat}{c:UInt8}{l:List UInt8}(h:s.data.toList.drop k=c::l):k<s.size∧byt s k=(c.toNat:Int)∧s.data.toList.drop (k+1)=l:=by
 have hk:k<s.size:=by
  rcases Nat.lt_or_ge k s.size with h1|h1
  ·exact h1
  ·rw[List.drop_eq_nil_of_le (by simpa using h1)]at h;cases h
 rw[List.drop_eq_getElem_cons (by simpa using hk)]at h
 injection h with h1 h2
 refine⟨hk,?_,h2⟩
 rw[zbs hk,←h1];rfl
theorem zge {p:UInt8→Bool}:∀ {w l:List UInt8},(∀x∈w,p x=true)→(∀c,l.head?=some c→p c=false)→(w++l).takeWhile p=w
 |[],[],_,_=>rfl
 |[],c::l,_,h=>by rw[List.nil_append,List.takeWhile_cons,h c rfl];rfl
 |x::w,l,hw,h=>by rw[List.cons_append,List.takeWhile_cons,hw x (by simp),if_pos rfl,zge (fun y hy=>hw y (by simp[hy])) h]
theorem zfz {p:UInt8→Bool}{s:ByteArray}{k:Nat}{w l:List UInt8}(h:s.data.toList.drop k=w++l) (hw:∀x∈w,p x=true) (hs:∀c,l.head?=some c→p c=false):zaj p s k=k+w.length:=by
 unfold zaj;rw[h,zge hw hs]
theorem zhg {s:ByteArray}{k n:Nat}{w l:List UInt8}(h:s.data.toList.drop k=w++l) (hn:w.length=n):s.data.toList.drop (k+n)=l∧(k≤s.size→k+n≤s.size):=by
 subst hn
 refine⟨by rw[←List.drop_drop,h,List.drop_left],fun hk=>?_⟩
 have h1:=congrArg List.length h
 have e:s.data.toList.length=s.size:=by simp
 rw[List.length_drop,List.length_append,e]at h1
 omega
def zkt (s:ByteArray) (k:Nat) (ts:List (Int×List UInt8)):Prop:=(zq s k).2.2=0∧(zq s k).1.map Tok.kt=ts
theorem zku {s:ByteArray}{k n:Nat}{kd:Int}{w:List UInt8}{ts:List (Int×List UInt8)}(hk:k<s.size) (hb:¬(byt s k=32∨byt s k=9∨byt s k=10∨byt s k=13)) (h1:byt s k≠37) (h2:byt s k≠47)
  (ho:z8 s k=(kd,k+n)) (hn:0<n) (ht:(za1 s k).text.data.toList=w) (hw:kd≠6→w.length≤40) (hr:zkt s (k+n) ts):zkt s k ((kd,w)::ts):=by
 have he:zbk s k=k+n:=by unfold zbk;rw[ho]
 have hkd:(za1 s k).kind=kd:=by unfold za1;rw[ho]
 have hsz:(za1 s k).text.size=w.length:=by rw[←ht];simp
 have hc:zac s k=.tok (za1 s k) (k+n):=by
  unfold zac
  rw[if_neg (by omega),if_neg hb,ze9 h1 h2,if_neg (fun h=>h rfl),he,if_neg (by omega),if_neg (by rintro⟨h3,h4⟩;rw[hkd]at h3;have:=hw h3;omega)]
 obtain⟨r1,r2⟩:=hr
 unfold zkt
 rw[zc1 (by omega),hc]
 refine⟨r1,?_⟩
 simp only[List.map_cons,r2]
 unfold Tok.kt
 rw[hkd,ht]
theorem zkv {s:ByteArray}{i n:Nat}{w l:List UInt8}(h:s.data.toList.drop i=w++l) (hn:w.length=n):(s.extract i (i+n)).data.toList=w:=by
 subst hn
 rw[Lib.extract_data,h,show i+w.length-i=w.length by omega,List.take_left]
theorem z07 {b:List UInt8}{ts:List (Int×List UInt8)}(h:Lex b ts):∀(s:ByteArray) (k:Nat),k≤s.size→s.data.toList.drop k=b→zkt s k (ts++[(7,[])]):=by
 induction h with
 |nil =>
  intro s k hk hd
  have he:s.size≤k:=by
   have h1:=congrArg List.length hd
   have e:s.data.toList.length=s.size:=by simp
   rw[List.length_drop,e]at h1
   simp at h1;omega
  unfold zkt
  rw[zc1 hk,show zac s k=.done by unfold zac;rw[if_pos he]]
  exact⟨rfl,rfl⟩
 |blank h ih =>
  intro s k hk hd
  obtain⟨h1,h2,h3⟩:=zc9 hd
  have hc:zac s k=.skip (k+1):=by unfold zac;rw[if_neg (by omega),if_pos (.inl h2)]
  have:=ih s (k+1) (by omega) h3
  unfold zkt at this ⊢
  rw[zc1 hk,hc]
  exact this
 |line h ih =>
  intro s k hk hd
  obtain⟨h1,h2,h3⟩:=zc9 hd
  have hc:zac s k=.skip (k+1):=by unfold zac;rw[if_neg (by omega),if_pos (.inr (.inr (.inl h2)))]
  have:=ih s (k+1) (by omega) h3
  unfold zkt at this ⊢
  rw[zc1 hk,hc]
  exact this
 |@low c w l ts hc hw hn hs h ih =>
  intro s k hk hd
  obtain⟨h1,h2,h3⟩:=zc9 hd
  have hr:zaj zp s k=k+(w.length+1):=zfz (w:=c::w) hd (fun x hx=>by rcases List.mem_cons.1 hx with rfl|hx;(unfold zp;rw[decide_eq_true_iff];omega);exact hw x hx) hs
  obtain⟨g1,g2⟩:=zhg (w:=c::w) (n:=w.length+1) hd rfl
  have ho:z8 s k=(1,k+(w.length+1)):=by unfold z8;rw[if_pos (by omega),hr]
  refine zku h1 (by omega) (by omega) (by omega) ho (by omega) ?_ (fun _=>hn) (ih s _ (g2 hk) g1)
  rw[(zbu ho (by decide)).2]
  exact zkv (w:=c::w) hd rfl
 |@up c w l ts hc hw hn hs h ih =>
  intro s k hk hd
  obtain⟨h1,h2,h3⟩:=zc9 hd
  have hr:zaj zp s k=k+(w.length+1):=zfz (w:=c::w) hd (fun x hx=>by rcases List.mem_cons.1 hx with rfl|hx;(unfold zp;rw[decide_eq_true_iff];omega);exact hw x hx) hs
  obtain⟨g1,g2⟩:=zhg (w:=c::w) (n:=w.length+1) hd rfl
  have ho:z8 s k=(2,k+(w.length+1)):=by unfold z8;rw[if_neg (by omega),if_pos (by omega),hr]
  refine zku h1 (by omega) (by omega) (by omega) ho (by omega) ?_ (fun _=>hn) (ih s _ (g2 hk) g1)
  rw[(zbu ho (by decide)).2]
  exact zkv (w:=c::w) hd rfl
 |@dollar c w l ts hc hw hn hs h ih =>
  intro s k hk hd
  obtain⟨h1,h2,h3⟩:=zc9 hd
  obtain⟨f1,f2,f3⟩:=zc9 h3
  have h2:byt s k=36:=h2
  have hr:zaj zp s (k+1)=k+(w.length+2):=by
   rw[zfz (w:=c::w) (l:=l) h3 (fun x hx=>by rcases List.mem_cons.1 hx with rfl|hx;(unfold zp;rw[decide_eq_true_iff];omega);exact hw x hx) hs]
   simp only[List.length_cons];omega
  obtain⟨g1,g2⟩:=zhg (w:=36::c::w) (n:=w.length+2) hd rfl
  have ho:z8 s k=(3,k+(w.length+2)):=by unfold z8;rw[if_neg (by omega),if_neg (by omega),if_neg (by omega),if_pos h2,if_pos (by omega),hr]
  refine zku h1 (by omega) (by omega) (by omega) ho (by omega) ?_ (fun _=>hn) (ih s _ (g2 hk) g1)
  rw[(zbu ho (by decide)).2]
  exact zkv (w:=36::c::w) hd rfl
 |@quote w l ts h0 hw hn h ih =>
  intro s k hk hd
  obtain⟨h1,h2,h3⟩:=zc9 hd
  have h2:byt s k=39:=h2
  have hr:zaj zb6 s (k+1)=k+1+w.length:=zfz h3 hw (fun c hc=>by simp only[List.head?_cons,Option.some.injEq]at hc;subst hc;decide)
  obtain⟨g1,g2⟩:=zhg (n:=w.length) h3 rfl
  obtain⟨f1,f2,f3⟩:=zc9 g1
  have f2:byt s (k+1+w.length)=39:=f2
  have hq:zak s k=k+(w.length+2):=by unfold zak;rw[hr,if_neg (by omega)];omega
  have ho:z8 s k=(4,k+(w.length+2)):=by unfold z8;rw[if_neg (by omega),if_neg (by omega),if_neg (by omega),if_neg (by omega),if_pos h2,hq]
  refine zku h1 (by omega) (by omega) (by omega) ho (by omega) ?_ (fun _=>hn) (ih s _ (by omega) (by rw[show k+(w.length+2)=k+1+w.length+1 by omega];exact f3))
  rw[(zgr ho).2]
  simp only
  rw[show k+(w.length+2)-1=k+1+w.length by omega]
  exact zkv h3 rfl
 |@sign c w l ts hc hs h ih =>
  intro s k hk hd
  obtain⟨h1,h2,h3⟩:=zc9 hd
  obtain⟨g1,g2⟩:=zhg (w:=c::w) (n:=w.length+1) hd rfl
  have hb:byt s k=40∨byt s k=41∨byt s k=91∨byt s k=93∨byt s k=44∨byt s k=46∨byt s k=58∨byt s k=38∨byt s k=124∨byt s k=126∨byt s k=61∨byt s k=33∨byt s k=63∨byt s k=60:=by
   unfold z10 at hc;simp at hc;omega
  have ho:z8 s k=(6,k+(w.length+1)):=by unfold z8;rw[if_neg (by omega),if_neg (by omega),if_neg (by omega),if_neg (by omega),if_neg (by omega),hd,hs]
  refine zku h1 (by omega) (by omega) (by omega) ho (by omega) ?_ (fun h=>absurd rfl h) (ih s _ (g2 hk) g1)
  rw[(zbu ho (by decide)).2]
  exact zkv (w:=c::w) hd rfl
def sg (w:List UInt8):Int×List UInt8:=(6,w)
def zcy (v:Bool) (n:ByteArray):Int×List UInt8:=if v then (2,n.data.toList)else if 97≤byt n 0∧byt n 0≤122 then (1,n.data.toList)else (4,n.data.toList)
mutual
def Ex.toks:Ex→List (Int×List UInt8)
 |.mk v n l=>zcy v n::(Ex.toksA 40 l++(if 0<l.length then [sg [41]]else []))
def Ex.toksA (c:UInt8):List Ex→List (Int×List UInt8)
 |[]=>[]
 |e::l=>sg [c]::(e.toks++Ex.toksA 44 l)
end
def zv1:List Ex→List (Int×List UInt8)
 |[]=>[]
 |x::_=>x.toks
def eqKT (sep:List (Int×List UInt8)):List Ex→List (Int×List UInt8)
 |x::y::_=>x.toks++(sep++y.toks)
 |_=>[]
def zfb (op:Int):List (Int×List UInt8):=if op=6 then [sg [38]]else if op=7 then [sg [124]]else if op=8 then [sg [61,62]]else if op=9 then [sg [60,61,62]]else if op=10 then [sg [60,126,62]]else if op=11 then [sg [33],sg [91]]else [sg [63],sg [91]]
def zkw (op:Int) (s:List (Int×List UInt8)):List (Int×List UInt8):=if 6≤op∧op≤10 then sg [40]::(s++[sg [41]])else s
def zez:Bool→List ByteArray→List (Int×List UInt8)
 |_,[]=>[]
 |first,v::l=>(if first then []else [sg [44]])++((2,v.data.toList)::zez false l)
mutual
def Fm.toks:Fm→List (Int×List UInt8)
 |.mk op v t l =>
  if op=1 then [(3,zni)]
  else if op=2 then [(3,zix)]
  else if op=3 then zv1 t
  else if op=4 then eqKT [sg [61]] t
  else if op=5 then (if (l.head?.map Fm.op)=some 4 then eqKT [sg [33,61]] ((l.head?.map Fm.terms).getD [])else sg [126]::Fm.unitsKT true [] l)
  else if op≤10 then Fm.unitsKT true (zfb op) l
  else zfb op++(zez true v++(sg [93]::sg [58]::Fm.unitsKT true [] l))
def Fm.unitsKT (first:Bool) (sep:List (Int×List UInt8)):List Fm→List (Int×List UInt8)
 |[]=>[]
 |e::l=>(if first then []else sep)++(zkw e.op e.toks++Fm.unitsKT false sep l)
end
theorem zbb {c:UInt8}{l:List UInt8}(h:zp c=false):zdp (c::l):=fun d hd=>by
 simp only[List.head?_cons,Option.some.injEq]at hd;subst hd;exact h
theorem zpm {n:ByteArray}(h:named n=true):∃c w,n.data.toList=c::w∧byt n 0=(c.toNat:Int)∧w.length+1≤40∧zp c=true∧∀x∈w,zp x=true:=by
 unfold named zfx at h
 rw[Bool.and_eq_true,decide_eq_true_iff]at h
 obtain⟨⟨h1,h2⟩,h3⟩:=h
 have hl:n.data.toList.length=n.size:=by simp
 cases hd:n.data.toList with
 |nil=>rw[hd]at hl;simp at hl;omega
 |cons c w =>
  obtain⟨g1,g2,g3⟩:=zc9 (s:=n) (k:=0) (c:=c) (l:=w) (by rw[List.drop_zero];exact hd)
  rw[hd]at hl h3
  rw[List.all_cons,Bool.and_eq_true]at h3
  refine⟨c,w,rfl,g2,by simp at hl;omega,h3.1,fun x hx=>List.all_eq_true.1 h3.2 x hx⟩
theorem zpn {c:UInt8}(h:zp c=true):zb6 c=true:=by
 unfold zp at h;unfold zb6
 rw[decide_eq_true_iff]at h ⊢;omega
theorem zn2 {v:Bool}{n:ByteArray}(h:(if v then zcg n else named n)=true){rest:List UInt8}{ts:List (Int×List UInt8)}(hs:zdp rest) (hr:Lex rest ts) :
  Lex ((if v then n.data.toList else (zay n).1.data.toList)++rest) (zcy v n::ts):=by
 cases v with
 |true =>
  simp only[if_true]at h
  unfold zcg at h
  rw[Bool.and_eq_true,decide_eq_true_iff]at h
  obtain⟨c,w,h1,h2,h3,h4,h5⟩:=zpm h.1
  simp only[if_true,zcy,h1,List.cons_append]
  exact Lex.up (by have:=h.2;omega) h5 h3 hs hr
 |false =>
  simp only[Bool.false_eq_true,if_false]at h
  obtain⟨c,w,h1,h2,h3,h4,h5⟩:=zpm h
  by_cases hsm:97≤byt n 0∧byt n 0≤122
  ·have hq:zay n=(n,true):=by unfold zay;rw[if_pos h,if_pos hsm]
   simp only[Bool.false_eq_true,if_false,hq,zcy]
   rw[if_pos hsm,h1,List.cons_append]
   exact Lex.low (by omega) h5 h3 hs hr
  ·have hq:zay n=(⟨#[39]⟩++n++⟨#[39]⟩,true):=by unfold zay;rw[if_pos h,if_neg hsm]
   have hd:((⟨#[39]⟩++n++⟨#[39]⟩:ByteArray)).data.toList=39::(n.data.toList++[39]):=by simp
   simp only[Bool.false_eq_true,if_false,hq,zcy]
   rw[if_neg hsm,hd,List.cons_append,List.append_assoc]
   exact Lex.quote (by rw[h1];simp) (fun x hx=>zpn (by rw[h1]at hx;rcases List.mem_cons.1 hx with rfl|hx;exact h4;exact h5 x hx)) (by rw[h1];simpa using h3) hr
section
variable {l:List UInt8}{ts:List (Int×List UInt8)}
theorem z08 (h:Lex l ts):Lex (40::l) (sg [40]::ts):=Lex.sign (c:=40) (w:=[]) (by decide) (by rfl) h
theorem z09 (h:Lex l ts):Lex (41::l) (sg [41]::ts):=Lex.sign (c:=41) (w:=[]) (by decide) (by rfl) h
theorem zyw (h:Lex l ts):Lex (44::l) (sg [44]::ts):=Lex.sign (c:=44) (w:=[]) (by decide) (by rfl) h
theorem z11 (h:Lex l ts):Lex (91::l) (sg [91]::ts):=Lex.sign (c:=91) (w:=[]) (by decide) (by rfl) h
theorem z2e (h:Lex l ts):Lex (93::l) (sg [93]::ts):=Lex.sign (c:=93) (w:=[]) (by decide) (by rfl) h
theorem z2f (h:Lex l ts):Lex (58::l) (sg [58]::ts):=Lex.sign (c:=58) (w:=[]) (by decide) (by rfl) h
theorem z2g (h:Lex l ts):Lex (46::l) (sg [46]::ts):=Lex.sign (c:=46) (w:=[]) (by decide) (by rfl) h
theorem z12 (h:Lex l ts):Lex (bNot++l) (sg [126]::ts):=Lex.sign (c:=126) (w:=[]) (by decide) (by rfl) (.blank h)
theorem z2h (h:Lex l ts):Lex (bEq++l) (sg [61]::ts):=.blank (Lex.sign (c:=61) (w:=[]) (by decide) (by rfl) (.blank h))
theorem z2i (h:Lex l ts):Lex (bNe++l) (sg [33,61]::ts):=.blank (Lex.sign (c:=33) (w:=[61]) (by decide) (by rfl) (.blank h))
theorem z2j (h:Lex l ts):Lex (bOf++l) (sg [93]::sg [58]::ts):=z2e (.blank (z2f (.blank h)))
theorem zrs {op:Int}(_h1:6≤op) (_h2:op≤12) (h:Lex l ts):Lex (ze3 op++l) (zfb op++ts):=by
 unfold ze3 zfb
 split
 ·exact .blank (Lex.sign (c:=38) (w:=[]) (by decide) (by rfl) (.blank h))
 ·split
  ·exact .blank (Lex.sign (c:=124) (w:=[]) (by decide) (by rfl) (.blank h))
  ·split
   ·exact .blank (Lex.sign (c:=61) (w:=[62]) (by decide) (by rfl) (.blank h))
   ·split
    ·exact .blank (Lex.sign (c:=60) (w:=[61,62]) (by decide) (by rfl) (.blank h))
    ·split
     ·exact .blank (Lex.sign (c:=60) (w:=[126,62]) (by decide) (by rfl) (.blank h))
     ·split
      ·exact Lex.sign (c:=33) (w:=[]) (by decide) (by rfl) (.blank (z11 h))
      ·exact Lex.sign (c:=63) (w:=[]) (by decide) (by rfl) (.blank (z11 h))
theorem zpo {op:Int}(h1:6≤op) (h2:op≤10) (l:List UInt8):zdp (ze3 op++l):=by
 unfold ze3
 split
 ·exact zbb (by decide)
 ·split
  ·exact zbb (by decide)
  ·split
   ·exact zbb (by decide)
   ·split
    ·exact zbb (by decide)
    ·split
     ·exact zbb (by decide)
     ·omega
end
theorem zm0 {c:UInt8}(hc:c=40∨c=44) (l:List Ex){rest:List UInt8}(hs:zdp rest):zdp (Ex.texts c l++rest):=by
 cases l with
 |nil=>simpa[Ex.texts]using hs
 |cons e l=>simp only[Ex.texts,List.cons_append];rcases hc with rfl|rfl<;>exact zbb (by decide)
theorem zv2 (x:Ex):x.may=true→∀(rest:List UInt8) (ts:List (Int×List UInt8)),zdp rest→Lex rest ts→Lex (x.text++rest) (x.toks++ts):=by
 refine Ex.rec (motive_1:=fun x=>x.may=true→∀(rest:List UInt8) (ts:List (Int×List UInt8)),zdp rest→Lex rest ts→Lex (x.text++rest) (x.toks++ts))
  (motive_2:=fun l=>Ex.mays l=true→∀(c:UInt8),(c=40∨c=44)→∀(rest:List UInt8) (ts:List (Int×List UInt8)),zdp rest→Lex rest ts→Lex (Ex.texts c l++rest) (Ex.toksA c l++ts)) ?_ ?_ ?_ x
 ·intro v n l ih hm rest ts hs hr
  have hname:(if v then zcg n else named n)=true:=by
   cases v<;>simp only[Ex.may,if_true,Bool.false_eq_true,if_false,Bool.and_eq_true]at hm ⊢
   ·exact hm.1
   ·exact hm.2
  have hms:Ex.mays l=true:=by
   cases v<;>simp only[Ex.may,if_true,Bool.false_eq_true,if_false,Bool.and_eq_true,decide_eq_true_eq]at hm
   ·exact hm.2
   ·rw[List.eq_nil_of_length_eq_zero hm.1];rfl
  simp only[Ex.text,Ex.toks,List.append_assoc,List.cons_append]
  have key:∀(rest:List UInt8) (ts:List (Int×List UInt8)),zdp rest→Lex rest ts→Lex ((if v then n.data.toList else (zay n).1.data.toList)++(Ex.texts 40 l++rest)) (zcy v n::(Ex.toksA 40 l++ts)) :=
   fun rest ts hs hr=>zn2 hname (zm0 (.inl rfl) l hs) (ih hms 40 (.inl rfl) rest ts hs hr)
  by_cases h0:0<l.length
  ·rw[if_pos h0,if_pos h0]
   exact key _ _ (zbb (by decide)) (z09 hr)
  ·rw[if_neg h0,if_neg h0]
   exact key _ _ hs hr
 ·intro _ c _ rest ts _ hr
  simpa[Ex.texts,Ex.toksA]using hr
 ·intro e l ih1 ih2 hm c hc rest ts hs hr
  simp only[Ex.mays,Bool.and_eq_true]at hm
  simp only[Ex.texts,Ex.toksA,List.cons_append,List.append_assoc]
  have:=ih1 hm.1 _ _ (zm0 (.inr rfl) l hs) (ih2 hm.2 44 (.inr rfl) rest ts hs hr)
  rcases hc with rfl|rfl
  ·exact z08 this
  ·exact zyw this
theorem za6 {o:Int}{v:List ByteArray}{t:List Ex}{n:Nat}(h:zh6 o v t n=true):zdk v=true∧(∀x∈t,x.may=true)∧(o=3→∀x∈t,x.var=false) ∧
  (((o=1∨o=2)∧v=[]∧t=[]∧n=0)∨(o=3∧v=[]∧t.length=1∧n=0)∨(o=4∧v=[]∧t.length=2∧n=0)∨(o=5∧v=[]∧t=[]∧n=1)∨((o=6∨o=7)∧v=[]∧t=[]∧2≤n) ∨
    ((o=8∨o=9∨o=10)∧v=[]∧t=[]∧n=2)∨((o=11∨o=12)∧1≤v.length∧t=[]∧n=1)):=by
 unfold zh6 at h
 cases hs:za8 o with
 |none=>rw[hs]at h;cases h
 |some p =>
  obtain⟨a,b,c⟩:=p
  rw[hs]at h
  simp only[Bool.and_eq_true,List.all_eq_true,Bool.not_eq_true',Bool.and_eq_false_iff,decide_eq_false_iff_not]at h
  obtain⟨⟨⟨⟨h1,h2⟩,h3⟩,h4⟩,h5⟩:=h
  refine⟨h4,fun x hx=>(h5 x hx).1,fun ho x hx=>by rcases(h5 x hx).2 with h6|h6;exact absurd ho h6;exact h6,?_⟩
  unfold zaw at h1 h2 h3
  have z:∀ {α:Type}(l:List α),l.length=0→l=[]:=fun l h=>List.eq_nil_of_length_eq_zero h
  unfold za8 at hs
  repeat' (split at hs)
  all_goals first
   |(cases hs;done)
   |(injection hs with hs;injection hs with e1 e2;injection e2 with e2 e3;subst e1;subst e2;subst e3;simp at h1 h2 h3;rename_i ho;simp_all<;>omega)
theorem zfc:∀(l:List Fm),(∀e∈l,∀(rest:List UInt8) (ts:List (Int×List UInt8)),zdp rest→Lex rest ts→Lex (e.text++rest) (e.toks++ts)) →
  ∀(first:Bool) (sep:List UInt8) (sepK:List (Int×List UInt8)),(∀(rest:List UInt8) (ts:List (Int×List UInt8)),Lex rest ts→Lex (sep++rest) (sepK++ts))→((∀x,zdp (sep++x))∨l.length≤1)→∀(rest:List UInt8) (ts:List (Int×List UInt8)),zdp rest→Lex rest ts →
  Lex (Fm.units first sep l++rest) (Fm.unitsKT first sepK l++ts)
 |[],_,first,sep,sepK,_,_,rest,ts,_,hr=>by simpa[Fm.units,Fm.unitsKT]using hr
 |e::l,he,first,sep,sepK,hsep,hst,rest,ts,hs,hr=>by
  simp only[Fm.units,Fm.unitsKT,List.append_assoc]
  have hst2:zdp (Fm.units false sep l++rest):=by
   cases l with
   |nil=>simpa[Fm.units]using hs
   |cons e2 l =>
    rcases hst with h|h
    ·simp only[Fm.units,Bool.false_eq_true,if_false,List.append_assoc];exact h _
    ·simp at h
  have h2:=zfc l (fun x hx=>he x (by simp[hx])) false sep sepK hsep (hst.imp id fun h=>by simp at h;simp[h]) rest ts hs hr
  have h3:Lex (zbe e.op e.text++(Fm.units false sep l++rest)) (zkw e.op e.toks++(Fm.unitsKT false sepK l++ts)):=by
   unfold zbe zkw
   split
   ·simp only[List.cons_append,List.append_assoc,List.nil_append]
    exact z08 (he e (by simp) _ _ (zbb (by decide)) (z09 h2))
   ·exact he e (by simp) _ _ hst2 h2
  cases first with
  |true=>simpa using h3
  |false=>simpa using hsep _ _ h3
theorem zb7:∀ {l pre:List ByteArray},zdd pre l=true→∀v∈l,zcg v=true
 |[],_,_,v,hv=>by cases hv
 |u::l,pre,h,v,hv=>by
  simp only[zdd,Bool.and_eq_true]at h
  rcases List.mem_cons.1 hv with rfl|hv
  ·exact h.1.1
  ·exact zb7 h.2 v hv
theorem zs0:∀(l:List ByteArray),(∀v∈l,zcg v=true)→∀(first:Bool) (rest:List UInt8) (ts:List (Int×List UInt8)),zdp rest→Lex rest ts→Lex (zaa first l++rest) (zez first l++ts)
 |[],_,first,rest,ts,_,hr=>by simpa[zaa,zez]using hr
 |v::l,hv,first,rest,ts,hs,hr=>by
  simp only[zaa,zez,List.append_assoc,List.cons_append]
  have hst:zdp (zaa false l++rest):=by
   cases l with
   |nil=>simpa[zaa]using hs
   |cons u l=>simp only[zaa,Bool.false_eq_true,if_false,List.cons_append,List.nil_append];exact zbb (by decide)
  have h2:=zs0 l (fun x hx=>hv x (by simp[hx])) false rest ts hs hr
  have h3:=zn2 (v:=true) (n:=v) (by simpa using hv v (by simp)) hst h2
  simp only[if_true,zcy]at h3
  cases first with
  |true=>simpa using h3
  |false=>simp only[Bool.false_eq_true,if_false,List.cons_append,List.nil_append];exact zyw h3
theorem z01 {t:List Ex}(ht:t.length=2) (hm:∀x∈t,x.may=true){sep:List UInt8}{sepK:List (Int×List UInt8)}(hsep:∀(rest:List UInt8) (ts:List (Int×List UInt8)),Lex rest ts→Lex (sep++rest) (sepK++ts)) (hst:∀x,zdp (sep++x))
  {rest:List UInt8}{ts:List (Int×List UInt8)}(hs:zdp rest) (hr:Lex rest ts):Lex (ze2 sep t++rest) (eqKT sepK t++ts):=by
 match t,ht with
 |[x,y],_ =>
  simp only[ze2,eqKT,List.append_assoc]
  exact zv2 x (hm x (by simp)) _ _ (hst _) (hsep _ _ (zv2 y (hm y (by simp)) _ _ hs hr))
section
variable {o:Int}{v:List ByteArray}{t:List Ex}{l:List Fm}
theorem Fm.text1:(Fm.mk 1 v t l).text=zni∧(Fm.mk 1 v t l).toks=[(3,zni)]:=⟨by simp[Fm.text],by simp[Fm.toks]⟩
theorem Fm.text2:(Fm.mk 2 v t l).text=zix∧(Fm.mk 2 v t l).toks=[(3,zix)]:=⟨by simp[Fm.text],by simp[Fm.toks]⟩
theorem Fm.text3:(Fm.mk 3 v t l).text=zop t∧(Fm.mk 3 v t l).toks=zv1 t:=⟨by simp[Fm.text],by simp[Fm.toks]⟩
theorem Fm.text4:(Fm.mk 4 v t l).text=ze2 bEq t∧(Fm.mk 4 v t l).toks=eqKT [sg [61]] t:=⟨by simp[Fm.text],by simp[Fm.toks]⟩
theorem Fm.text5:(Fm.mk 5 v t l).text=(if (l.head?.map Fm.op)=some 4 then ze2 bNe ((l.head?.map Fm.terms).getD [])else bNot++Fm.units true [] l) ∧
  (Fm.mk 5 v t l).toks=(if (l.head?.map Fm.op)=some 4 then eqKT [sg [33,61]] ((l.head?.map Fm.terms).getD [])else sg [126]::Fm.unitsKT true [] l):=⟨by simp[Fm.text],by simp[Fm.toks]⟩
theorem Fm.text6 (h1:6≤o) (h2:o≤10):(Fm.mk o v t l).text=Fm.units true (ze3 o) l∧(Fm.mk o v t l).toks=Fm.unitsKT true (zfb o) l:=by
 constructor
 ·rw[Fm.text,if_neg (by omega),if_neg (by omega),if_neg (by omega),if_neg (by omega),if_neg (by omega),if_pos (by omega)]
 ·rw[Fm.toks,if_neg (by omega),if_neg (by omega),if_neg (by omega),if_neg (by omega),if_neg (by omega),if_pos (by omega)]
theorem Fm.text11 (h1:11≤o):(Fm.mk o v t l).text=ze3 o++(zaa true v++(bOf++Fm.units true [] l))∧(Fm.mk o v t l).toks=zfb o++(zez true v++(sg [93]::sg [58]::Fm.unitsKT true [] l)):=by
 constructor
 ·rw[Fm.text,if_neg (by omega),if_neg (by omega),if_neg (by omega),if_neg (by omega),if_neg (by omega),if_neg (by omega)]
 ·rw[Fm.toks,if_neg (by omega),if_neg (by omega),if_neg (by omega),if_neg (by omega),if_neg (by omega),if_neg (by omega)]
end
theorem z13 (f:Fm):f.may=true→∀(rest:List UInt8) (ts:List (Int×List UInt8)),zdp rest→Lex rest ts→Lex (f.text++rest) (f.toks++ts):=by
 induction f using Fm.ind with
 |h o v t l ih =>
  intro hm rest ts hs hr
  simp only[Fm.may,Bool.and_eq_true]at hm
  obtain⟨hm,hms⟩:=hm
  rw[Fm.mays_all,List.all_eq_true]at hms
  obtain⟨hv,ht,ht3,hc⟩:=za6 hm
  have ih':∀e∈l,∀(rest:List UInt8) (ts:List (Int×List UInt8)),zdp rest→Lex rest ts→Lex (e.text++rest) (e.toks++ts):=fun e he=>ih e he (hms e he)
  rcases hc with ⟨ho,rfl,rfl,hn⟩|⟨rfl,rfl,h1,hn⟩|⟨rfl,rfl,h1,hn⟩|⟨rfl,rfl,rfl,hn⟩|⟨ho,rfl,rfl,hn⟩|⟨ho,rfl,rfl,hn⟩|⟨ho,h1,rfl,hn⟩
  ·rcases ho with rfl|rfl
   ·rw[Fm.text1.1,Fm.text1.2]
    exact Lex.dollar (c:=116) (w:=[114,117,101]) (by decide) (by decide) (by decide) hs hr
   ·rw[Fm.text2.1,Fm.text2.2]
    exact Lex.dollar (c:=102) (w:=[97,108,115,101]) (by decide) (by decide) (by decide) hs hr
  ·rw[Fm.text3.1,Fm.text3.2]
   match t,h1 with
   |[x],_=>exact zv2 x (ht x (by simp)) _ _ hs hr
  ·rw[Fm.text4.1,Fm.text4.2]
   exact z01 h1 ht (fun _ _ h=>z2h h) (fun _=>zbb (by decide)) hs hr
  ·match l,hn with
   |[g],_ =>
   rw[Fm.text5.1,Fm.text5.2]
   by_cases hg:(List.head? [g]).map Fm.op=some 4
   ·rw[if_pos hg,if_pos hg]
    have hgm:=hms g (by simp)
    obtain⟨og,vg,tg,lg⟩:=g
    simp only[List.head?_cons,Option.map_some,Option.some.injEq,Fm.op]at hg
    subst hg
    simp only[Fm.may,Bool.and_eq_true]at hgm
    obtain⟨-,ht',-,hc'⟩:=za6 hgm.1
    simp only[List.head?_cons,Option.map_some,Fm.terms,Option.getD_some]
    exact z01 (by omega) ht' (fun _ _ h=>z2i h) (fun _=>zbb (by decide)) hs hr
   ·rw[if_neg hg,if_neg hg]
    simp only[List.append_assoc,List.cons_append]
    exact z12 (zfc [g] ih' true [] [] (fun _ _ h=>h) (.inr (by simp)) rest ts hs hr)
  ·rw[(Fm.text6 (by omega) (by omega)).1,(Fm.text6 (by omega) (by omega)).2]
   exact zfc l ih' true _ _ (fun _ _ h=>zrs (by omega) (by omega) h) (.inl (zpo (by omega) (by omega))) rest ts hs hr
  ·rw[(Fm.text6 (by omega) (by omega)).1,(Fm.text6 (by omega) (by omega)).2]
   exact zfc l ih' true _ _ (fun _ _ h=>zrs (by omega) (by omega) h) (.inl (zpo (by omega) (by omega))) rest ts hs hr
  ·rw[(Fm.text11 (by omega)).1,(Fm.text11 (by omega)).2]
   simp only[List.append_assoc,List.cons_append]
   exact zrs (by omega) (by omega) (zs0 v (zb7 hv) true _ _ (zbb (by decide)) (z2j (zfc l ih' true [] [] (fun _ _ h=>h) (.inr (by omega)) rest ts hs hr)))
end Go.Proofs.YtnclgkdpafhogaaGreat
