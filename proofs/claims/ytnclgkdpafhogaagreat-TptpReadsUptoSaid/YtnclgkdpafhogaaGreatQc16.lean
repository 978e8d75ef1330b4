/- The reference's narrow, May, Check. Condition: at most 4194304 parts.
The reference's May, Check. Condition: at most 4194304 parts.
The reference's Check. Condition: at most 4194304 parts.
The reference's SameExpr. Condition: at most 4194304 parts.
The reference's Same. Condition: at most 4194304 parts. -/
import Derived.Test.YtnclgkdpafhogaaGreatQc15
import Derived.StillTailTactics
set_option maxHeartbeats 16000000
set_option maxRecDepth 100000
namespace Go.Proofs.YtnclgkdpafhogaaGreat
open Go.ChangeShapes Go.WideShapes Go.ChangeAt Go.RowKit
theorem zgt {t:List Ex}{k:Nat}(h:k<t.length):zbg (t.take (k+1))=(zbg (t.take k)&&(decide (t[k].depth≤30)&&decide (t[k].wide≤6))):=by
 unfold zbg
 rw[List.take_succ_eq_append_getElem h,List.all_append];simp
theorem zdy {t:List Ex}{k:Nat}(h:k<t.length) (hb:¬(t[k].depth≤30∧t[k].wide≤6)):zbg t=false:=by
 unfold zbg
 cases h2:t.all fun x=>decide (x.depth≤30)&&decide (x.wide≤6) with
 |false=>rfl
 |true=>have:=List.all_eq_true.1 h2 t[k] (List.getElem_mem h);simp only[Bool.and_eq_true,decide_eq_true_eq]at this;exact absurd this hb
theorem zoc {l:List Fm}{k:Nat}(h:k<l.length):Fm.narrows (l.take (k+1))=(Fm.narrows (l.take k)&&l[k].narrow):=by
 rw[Fm.narrows_all,Fm.narrows_all,List.take_succ_eq_append_getElem h,List.all_append];simp
theorem zra {l:List Fm}{k:Nat}(h:k<l.length) (hb:l[k].narrow=false):Fm.narrows l=false:=by
 rw[Fm.narrows_all]
 cases h2:l.all Fm.narrow with
 |false=>rfl
 |true=>have:=List.all_eq_true.1 h2 l[k] (List.getElem_mem h);rw[hb]at this;cases this
theorem zvk {l:List Fm}{k:Nat}(h:k<l.length):Fm.mays (l.take (k+1))=(Fm.mays (l.take k)&&l[k].may):=by
 rw[Fm.mays_all,Fm.mays_all,List.take_succ_eq_append_getElem h,List.all_append];simp
theorem zxo {l:List Fm}{k:Nat}(h:k<l.length) (hb:l[k].may=false):Fm.mays l=false:=by
 rw[Fm.mays_all]
 cases h2:l.all Fm.may with
 |false=>rfl
 |true=>have:=List.all_eq_true.1 h2 l[k] (List.getElem_mem h);rw[hb]at this;cases this
theorem ztx (t:Fm):∀(P:Nat→Prop) (w:World) (x y z u:Value),IsFm P w x y z u t→t.size≤4194304 →
  Calls Tryz.prog 54 #[.agg #[x,y,z,u]] w fun e w'=>e=.returned (.bool t.narrow)∧Ext w w':=by
 induction t using Fm.ind with
 |h op v t l ih =>
  intro P w x y z u ht hs
  obtain⟨va,vc,ta,tc,a,c,rfl,rfl,rfl,rfl,ho1,ho2,hvl,htl,hll,hvs,hts,hls⟩:=ht.form
  simp only[Fm.op,Fm.vars,Fm.terms,Fm.args]at *
  simp only[Fm.size]at hs
  have hkl:=Fm.length_le_sizes l
  have hkt:=Ex.length_le_sizes t
  obtain⟨W,hW⟩:∃W,W=w.alloc (.cells #[.int .i64 op,.slice va v.length vc,.slice ta t.length tc,.slice a l.length c] 29):=⟨_,rfl⟩
  have hx:Ext w W:=by rw[hW];exact zd _ _
  obtain⟨b0,b1,b2,b3⟩:=zeo w (.int .i64 op) (.slice va v.length vc) (.slice ta t.length tc) (.slice a l.length c) 29
  rw[←hW]at b0 b1 b2 b3
  clear b0 b1 hvs ht
  have HN:=Lib.hid (show Fm.narrow (.mk op v t l)=(zbg t&&Fm.narrows l) by simp only[Fm.narrow])
  have HIH:=Lib.hid ih
  clear ih
  go_enter Tryz.func54,Tryz.ntmps54
  go_wp2_with fail
  rw[←hW]
  clear hW
  go_loopw [3] (fun i wr=>∃k:Nat,k≤t.length∧i=.int .i64 k∧Ext W wr∧zbg (t.take k)=true) (fun i _=>t.length-(intOf i).toNat)
  case atStart=>exact⟨0,Nat.zero_le _,rfl,Below.refl _ _,rfl⟩
  case round =>
   obtain⟨k,hk,rfl,hxr,hm⟩:=hrel
   have HM:=Lib.hid hm;clear hm
   replace b2:=hxr.cell b2
   replace b3:=hxr.cell b3
   by_cases hlt:k<t.length
   ·obtain⟨b,o,a',c',rfl,hb,g1,g2,g3,hi⟩:=(IsExs.ext hts (hx.trans hxr)).look hlt
    have hlt':(k:Int)<t.length:=by omega
    have hsz:t[k].size≤4194304:=by have:=Ex.size_le_sizes hlt;omega
    have HE:=Lib.hid (zix t[k] P wr _ _ _ hi hsz)
    have HW:=Lib.hid (fun w' (hx:Ext wr w')=>zqp t[k] P w' _ _ _ (hi.ext hx) hsz)
    have HST:=Lib.hid (zgt hlt)
    by_cases hd:t[k].depth≤30
    ·have q1:decide ((30:Int)<(t[k].depth:Nat))=false:=decide_eq_false (by omega)
     by_cases hw:t[k].wide≤6
     ·have q2:decide ((6:Int)<(t[k].wide:Nat))=false:=decide_eq_false (by omega)
      go_wp2_with (first|(go_at_call 103;refine(HE.out).mono ?_;rintro e w1 ⟨rfl,hx1⟩;replace b2:=hx1.cell b2;replace g1:=hx1.cell g1;replace g2:=hx1.cell g2;replace g3:=hx1.cell g3)|(go_at_call 104;refine(HW.out _ hx1).mono ?_;rintro e w2 ⟨rfl,hx2⟩))
      go_roundw
      case rel=>exact⟨k+1,by omega,by go_num,(hxr.trans hx1).trans hx2,by rw[HST.out,HM.out,decide_eq_true hd,decide_eq_true hw];rfl⟩
      case measure=>simp[intOf];omega
     ·have q2:decide ((6:Int)<(t[k].wide:Nat))=true:=decide_eq_true (by omega)
      have HB:=Lib.hid (zdy hlt (fun h=>hw h.2))
      clear hd hw
      go_wp2_with (first|(go_at_call 103;refine(HE.out).mono ?_;rintro e w1 ⟨rfl,hx1⟩;replace b2:=hx1.cell b2;replace g1:=hx1.cell g1;replace g2:=hx1.cell g2;replace g3:=hx1.cell g3)|(go_at_call 104;refine(HW.out _ hx1).mono ?_;rintro e w2 ⟨rfl,hx2⟩))
      go_ret
      exact⟨ze (by rw[HN.out,HB.out];rfl),hx.trans ((hxr.trans hx1).trans hx2)⟩
    ·have q1:decide ((30:Int)<(t[k].depth:Nat))=true:=decide_eq_true (by omega)
     have HB:=Lib.hid (zdy hlt (fun h=>hd h.1))
     clear hd
     go_wp2_with (go_at_call 103;refine(HE.out).mono ?_;rintro e w1 ⟨rfl,hx1⟩)
     go_ret
     exact⟨ze (by rw[HN.out,HB.out];rfl),hx.trans (hxr.trans hx1)⟩
   ·have hlt':¬(k:Int)<t.length:=by omega
    have hkt2:k=t.length:=by omega
    have HNT:=Lib.hid (show zbg t=true by have:=HM.out;rwa [hkt2,List.take_length]at this)
    clear hkt2
    go_wp2_with fail
    obtain⟨wo,rfl⟩:∃wo:World,wo=wr:=⟨_,rfl⟩
    clear b2
    go_loopw [4] (fun i wr=>∃j:Nat,j≤l.length∧i=.int .i64 j∧Ext wo wr∧Fm.narrows (l.take j)=true) (fun i _=>l.length-(intOf i).toNat)
    case atStart=>exact⟨0,Nat.zero_le _,rfl,Below.refl _ _,rfl⟩
    case round =>
     obtain⟨j,hj,rfl,hxj,hm⟩:=hrel
     have HM2:=Lib.hid hm;clear hm
     replace b3:=hxj.cell b3
     by_cases hltj:j<l.length
     ·obtain⟨b,o,va',vc',ta',tc',a',c',rfl,hb,g1,g2,g3,g4,hi⟩:=(IsFms.ext hls ((hx.trans hxr).trans hxj)).look hltj
      have hltj':(j:Int)<l.length:=by omega
      have HE:=Lib.hid (HIH.out _ (List.getElem_mem hltj) P wr _ _ _ _ hi (by have:=Fm.size_le_sizes hltj;omega))
      have HST:=Lib.hid (zoc hltj)
      cases hnn:l[j].narrow with
      |true =>
       rw[hnn]at HE HST
       clear hnn
       go_wp2_with (go_at_call 54;refine(HE.out).mono ?_;rintro e w1 ⟨rfl,hx1⟩)
       go_roundw
       case rel=>exact⟨j+1,by omega,by go_num,hxj.trans hx1,by rw[HST.out,HM2.out];rfl⟩
       case measure=>simp[intOf];omega
      |false =>
       rw[hnn]at HE
       have HB:=Lib.hid (zra hltj hnn)
       clear hnn
       go_wp2_with (go_at_call 54;refine(HE.out).mono ?_;rintro e w1 ⟨rfl,hx1⟩)
       go_ret
       exact⟨ze (by rw[HN.out,HB.out,Bool.and_false]),hx.trans ((hxr.trans hxj).trans hx1)⟩
     ·have hltj':¬(j:Int)<l.length:=by omega
      have hjl:j=l.length:=by omega
      have HNL:=Lib.hid (show Fm.narrows l=true by have:=HM2.out;rwa [hjl,List.take_length]at this)
      clear hjl
      go_wp2_with fail
      go_ret
      exact⟨ze (by rw[HN.out,HNT.out,HNL.out];rfl),hx.trans (hxr.trans hxj)⟩
theorem zii {op a b c:Int}(h:zby op=some (a,b,c)):(-1000≤a∧a≤1000)∧(-1000≤b∧b≤1000)∧(-1000≤c∧c≤1000):=by
 unfold zby at h
 repeat' split at h
 all_goals first
  |(cases h;done)
  |(simp only[Option.some.injEq,Prod.mk.injEq]at h;omega)
def zea (op:Int) (x:Ex):Bool:=x.may&&!(decide (op=3)&&x.var)
theorem zjo {op a b c:Int}{v:List ByteArray}{t:List Ex}{n:Nat}(h:zby op=some (a,b,c)):zke op v t n=(za7 v.length a&&za7 t.length b&&za7 n c&&zds v&&t.all (zea op)):=by
 unfold zke;rw[h];rfl
theorem zjp {op:Int}{v:List ByteArray}{t:List Ex}{n:Nat}(h:zby op=none):zke op v t n=false:=by
 unfold zke;rw[h]
theorem zll {op:Int}{t:List Ex}{k:Nat}(h:k<t.length):(t.take (k+1)).all (zea op)=((t.take k).all (zea op)&&zea op t[k]):=by
 rw[List.take_succ_eq_append_getElem h,List.all_append];simp
theorem zod {op:Int}{t:List Ex}{k:Nat}(h:k<t.length) (hb:zea op t[k]=false):t.all (zea op)=false:=by
 cases h2:t.all (zea op) with
 |false=>rfl
 |true=>have:=List.all_eq_true.1 h2 t[k] (List.getElem_mem h);rw[hb]at this;cases this
theorem zty (t:Fm):∀(P:Nat→Prop) (w:World) (x y z u:Value),IsFm P w x y z u t→t.size≤4194304 →
  Calls Tryz.prog 55 #[.agg #[x,y,z,u]] w fun e w'=>e=.returned (.bool t.may)∧Ext w w':=by
 induction t using Fm.ind with
 |h op v t l ih =>
  intro P w x y z u ht hs
  obtain⟨va,vc,ta,tc,a,c,rfl,rfl,rfl,rfl,ho1,ho2,hvl,htl,hll,hvs,hts,hls⟩:=ht.form
  simp only[Fm.op,Fm.vars,Fm.terms,Fm.args]at *
  simp only[Fm.size]at hs
  have hkl:=Fm.length_le_sizes l
  have hkt:=Ex.length_le_sizes t
  obtain⟨W,hW⟩:∃W,W=w.alloc (.cells #[.int .i64 op,.slice va v.length vc,.slice ta t.length tc,.slice a l.length c] 29):=⟨_,rfl⟩
  have hx:Ext w W:=by rw[hW];exact zd _ _
  obtain⟨b0,b1,b2,b3⟩:=zeo w (.int .i64 op) (.slice va v.length vc) (.slice ta t.length tc) (.slice a l.length c) 29
  rw[←hW]at b0 b1 b2 b3
  clear ht
  have HN:=Lib.hid (show Fm.may (.mk op v t l)=(zke op v t l.length&&Fm.mays l) by simp only[Fm.may])
  have HIH:=Lib.hid ih
  have HT:=Lib.hid (fun w=>zvj op w)
  have HV:=Lib.hid (fun w' (hx:Ext w w')=>zk7 v (by omega) P w' va vc (IsStrs.ext hvs hx))
  clear ih hvs
  unfold zjn at HT
  cases hsh:zby op with
  |none =>
   rw[hsh]at HT
   have HB:=Lib.hid (zjp (v:=v) (t:=t) (n:=l.length) hsh)
   clear hsh
   simp only[Option.getD_none,Option.isSome_none]at HT
   go_enter Tryz.func55,Tryz.ntmps55
   go_wp2_with (rw[←hW];clear hW;go_at_call 105;refine(HT.out _).mono ?_;rintro e w1 ⟨rfl,rfl⟩)
   go_ret
   exact⟨ze (by rw[HN.out,HB.out];rfl),hx⟩
  |some abc =>
  obtain⟨sa,sb,sc⟩:=abc
  rw[hsh]at HT
  simp only[Option.getD_some,Option.isSome_some]at HT
  obtain⟨⟨u1,u2⟩,⟨u3,u4⟩,⟨u5,u6⟩⟩:=zii hsh
  have HTM:=Lib.hid (zjo (v:=v) (t:=t) (n:=l.length) hsh)
  clear hsh
  have HC1:=Lib.hid (fun w=>zd6 v.length sa (by omega) u1 u2 w)
  have HC2:=Lib.hid (fun w=>zd6 t.length sb (by omega) u3 u4 w)
  have HC3:=Lib.hid (fun w=>zd6 l.length sc (by omega) u5 u6 w)
  clear u1 u2 u3 u4 u5 u6
  cases hc1:za7 v.length sa with
  |false =>
   rw[hc1]at HC1 HTM
   clear hc1
   go_enter Tryz.func55,Tryz.ntmps55
   go_wp2_with (first|(rw[←hW];clear hW;go_at_call 105;refine(HT.out _).mono ?_;rintro e w1 ⟨rfl,rfl⟩)|(go_at_call 106;with_reducible refine(HC1.out _).mono ?_;rintro e w1 ⟨rfl,rfl⟩))
   go_ret
   exact⟨ze (by rw[HN.out,HTM.out];simp),hx⟩
  |true =>
  rw[hc1]at HC1 HTM
  clear hc1
  cases hc2:za7 t.length sb with
  |false =>
   rw[hc2]at HC2 HTM
   clear hc2
   go_enter Tryz.func55,Tryz.ntmps55
   go_wp2_with (first|(rw[←hW];clear hW;go_at_call 105;refine(HT.out _).mono ?_;rintro e w1 ⟨rfl,rfl⟩)|(go_at_call 106;with_reducible refine(HC1.out _).mono ?_;rintro e w1 ⟨rfl,rfl⟩)|(go_at_call 106;with_reducible refine(HC2.out _).mono ?_;rintro e w1 ⟨rfl,rfl⟩))
   go_ret
   exact⟨ze (by rw[HN.out,HTM.out];simp),hx⟩
  |true =>
  rw[hc2]at HC2 HTM
  clear hc2
  cases hc3:za7 l.length sc with
  |false =>
   rw[hc3]at HC3 HTM
   clear hc3
   go_enter Tryz.func55,Tryz.ntmps55
   go_wp2_with (first|(rw[←hW];clear hW;go_at_call 105;refine(HT.out _).mono ?_;rintro e w1 ⟨rfl,rfl⟩)|(go_at_call 106;with_reducible refine(HC1.out _).mono ?_;rintro e w1 ⟨rfl,rfl⟩)|(go_at_call 106;with_reducible refine(HC2.out _).mono ?_;rintro e w1 ⟨rfl,rfl⟩)|(go_at_call 106;with_reducible refine(HC3.out _).mono ?_;rintro e w1 ⟨rfl,rfl⟩))
   go_ret
   exact⟨ze (by rw[HN.out,HTM.out];simp),hx⟩
  |true =>
  rw[hc3]at HC3 HTM
  clear hc3
  cases hc4:zds v with
  |false =>
   rw[hc4]at HV HTM
   clear hc4
   go_enter Tryz.func55,Tryz.ntmps55
   go_wp2_with (first|(rw[←hW];clear hW;go_at_call 105;refine(HT.out _).mono ?_;rintro e w1 ⟨rfl,rfl⟩)|(go_at_call 106;with_reducible refine(HC1.out _).mono ?_;rintro e w1 ⟨rfl,rfl⟩)|(go_at_call 106;with_reducible refine(HC2.out _).mono ?_;rintro e w1 ⟨rfl,rfl⟩)|(go_at_call 106;with_reducible refine(HC3.out _).mono ?_;rintro e w1 ⟨rfl,rfl⟩)|(go_at_call 107;refine(HV.out _ hx).mono ?_;rintro e wv ⟨rfl,hxv⟩))
   go_ret
   exact⟨ze (by rw[HN.out,HTM.out];simp),hx.trans hxv⟩
  |true =>
  rw[hc4]at HV HTM
  clear hc4
  simp only[Bool.true_and]at HTM
  go_enter Tryz.func55,Tryz.ntmps55
  go_wp2_with (first|(rw[←hW];clear hW;go_at_call 105;refine(HT.out _).mono ?_;rintro e w1 ⟨rfl,rfl⟩)|(go_at_call 106;with_reducible refine(HC1.out _).mono ?_;rintro e w1 ⟨rfl,rfl⟩)|(go_at_call 106;with_reducible refine(HC2.out _).mono ?_;rintro e w1 ⟨rfl,rfl⟩)|(go_at_call 106;with_reducible refine(HC3.out _).mono ?_;rintro e w1 ⟨rfl,rfl⟩)|(go_at_call 107;refine(HV.out _ hx).mono ?_;rintro e wv ⟨rfl,hxv⟩;replace b0:=hxv.cell b0;replace b2:=hxv.cell b2;replace b3:=hxv.cell b3;clear b1))
  have hxx:=hx.trans hxv
  clear HT HC1 HC2 HC3 HV
  go_loopw [7] (fun i wr=>∃k:Nat,k≤t.length∧i=.int .i64 k∧Ext wv wr∧(t.take k).all (zea op)=true) (fun i _=>t.length-(intOf i).toNat)
  case atStart=>exact⟨0,Nat.zero_le _,rfl,Below.refl _ _,rfl⟩
  case round =>
   obtain⟨k,hk,rfl,hxr,hm⟩:=hrel
   have HM:=Lib.hid hm;clear hm
   replace b0:=hxr.cell b0
   replace b2:=hxr.cell b2
   replace b3:=hxr.cell b3
   by_cases hlt:k<t.length
   ·obtain⟨b,o,a',c',rfl,hb,g1,g2,g3,hi⟩:=(IsExs.ext hts (hxx.trans hxr)).look hlt
    have hlt':(k:Int)<t.length:=by omega
    have hsz:t[k].size≤4194304:=by have:=Ex.size_le_sizes hlt;omega
    have HE:=Lib.hid (zk6 t[k] P wr _ _ _ hi hsz)
    have HST:=Lib.hid (zll (op:=op) hlt)
    have HBD:=Lib.hid (zod (op:=op) hlt)
    have HTO:=Lib.hid (show zea op t[k]=(t[k].may&&!(decide (op=3)&&t[k].var))from rfl)
    cases hmk:t[k].may with
    |false =>
     rw[hmk]at HE HTO
     have HB:=Lib.hid (HBD.out HTO.out)
     clear hmk HBD HTO
     go_wp2_with (go_at_call 108;refine(HE.out).mono ?_;rintro e w1 ⟨rfl,hx1⟩)
     go_ret
     exact⟨ze (by rw[HN.out,HTM.out,HB.out];rfl),hxx.trans (hxr.trans hx1)⟩
    |true =>
     rw[hmk]at HE HTO
     clear hmk
     by_cases h3:op=3
     ·have q3:(op==3)=true:=by rw[beq_iff_eq];exact h3
      rw[decide_eq_true h3]at HTO
      clear h3
      cases hvk:t[k].var with
      |true =>
       rw[hvk]at g1 HTO HE
       have HB:=Lib.hid (HBD.out HTO.out)
       clear hvk HBD HTO hi
       go_wp2_with (go_at_call 108;refine(HE.out).mono ?_;rintro e w1 ⟨rfl,hx1⟩;replace b0:=hx1.cell b0;replace b2:=hx1.cell b2;replace g1:=hx1.cell g1)
       go_ret
       exact⟨ze (by rw[HN.out,HTM.out,HB.out];rfl),hxx.trans (hxr.trans hx1)⟩
      |false =>
       rw[hvk]at g1 HTO HE
       clear hvk HBD hi
       go_wp2_with (go_at_call 108;refine(HE.out).mono ?_;rintro e w1 ⟨rfl,hx1⟩;replace b0:=hx1.cell b0;replace b2:=hx1.cell b2;replace g1:=hx1.cell g1)
       go_roundw
       case rel=>exact⟨k+1,by omega,by go_num,hxr.trans hx1,by rw[HST.out,HM.out,HTO.out];rfl⟩
       case measure=>simp[intOf];omega
     ·have q3:(op==3)=false:=by rw[beq_eq_false_iff_ne];exact h3
      rw[decide_eq_false h3]at HTO
      clear h3 HBD
      go_wp2_with (go_at_call 108;refine(HE.out).mono ?_;rintro e w1 ⟨rfl,hx1⟩;replace b0:=hx1.cell b0;replace b2:=hx1.cell b2;replace g1:=hx1.cell g1)
      go_roundw
      case rel=>exact⟨k+1,by omega,by go_num,hxr.trans hx1,by rw[HST.out,HM.out,HTO.out];rfl⟩
      case measure=>simp[intOf];omega
   ·have hlt':¬(k:Int)<t.length:=by omega
    have hkt2:k=t.length:=by omega
    have HNT:=Lib.hid (show t.all (zea op)=true by have:=HM.out;rwa [hkt2,List.take_length]at this)
    clear hkt2
    go_wp2_with fail
    obtain⟨wo,rfl⟩:∃wo:World,wo=wr:=⟨_,rfl⟩
    clear b2 b0
    go_loopw [8] (fun i wr=>∃j:Nat,j≤l.length∧i=.int .i64 j∧Ext wo wr∧Fm.mays (l.take j)=true) (fun i _=>l.length-(intOf i).toNat)
    case atStart=>exact⟨0,Nat.zero_le _,rfl,Below.refl _ _,rfl⟩
    case round =>
     obtain⟨j,hj,rfl,hxj,hm⟩:=hrel
     have HM2:=Lib.hid hm;clear hm
     replace b3:=hxj.cell b3
     by_cases hltj:j<l.length
     ·obtain⟨b,o,va',vc',ta',tc',a',c',rfl,hb,g1,g2,g3,g4,hi⟩:=(IsFms.ext hls ((hxx.trans hxr).trans hxj)).look hltj
      have hltj':(j:Int)<l.length:=by omega
      have HE:=Lib.hid (HIH.out _ (List.getElem_mem hltj) P wr _ _ _ _ hi (by have:=Fm.size_le_sizes hltj;omega))
      have HST:=Lib.hid (zvk hltj)
      cases hnn:l[j].may with
      |true =>
       rw[hnn]at HE HST
       clear hnn
       go_wp2_with (go_at_call 55;refine(HE.out).mono ?_;rintro e w1 ⟨rfl,hx1⟩)
       go_roundw
       case rel=>exact⟨j+1,by omega,by go_num,hxj.trans hx1,by rw[HST.out,HM2.out];rfl⟩
       case measure=>simp[intOf];omega
      |false =>
       rw[hnn]at HE
       have HB:=Lib.hid (zxo hltj hnn)
       clear hnn
       go_wp2_with (go_at_call 55;refine(HE.out).mono ?_;rintro e w1 ⟨rfl,hx1⟩)
       go_ret
       exact⟨ze (by rw[HN.out,HB.out,Bool.and_false]),hxx.trans ((hxr.trans hxj).trans hx1)⟩
     ·have hltj':¬(j:Int)<l.length:=by omega
      have hjl:j=l.length:=by omega
      have HNL:=Lib.hid (show Fm.mays l=true by have:=HM2.out;rwa [hjl,List.take_length]at this)
      clear hjl
      go_wp2_with fail
      go_ret
      exact⟨ze (by rw[HN.out,HTM.out,HNT.out,HNL.out];rfl),hxx.trans (hxr.trans hxj)⟩
theorem zoe (t:Fm) (P:Nat→Prop) (w:World) (x y z u:Value) (ht:IsFm P w x y z u t) (hs:t.size≤4194304) :
  Calls Tryz.prog 22 #[.agg #[x,y,z,u]] w fun e w'=>e=.returned (.int .i64 t.check)∧Ext w w':=by
 have H1:=Lib.hid (fun w' (hx:Ext w w')=>znr t P w' x y z u (ht.ext hx) hs)
 have H2:=Lib.hid (fun w' (hx:Ext w w')=>zmd t P w' x y z u (ht.ext hx) hs)
 have H3:=Lib.hid (fun w' (hx:Ext w w')=>ztx t P w' x y z u (ht.ext hx) hs)
 have H4:=Lib.hid (fun w' (hx:Ext w w')=>zty t P w' x y z u (ht.ext hx) hs)
 obtain⟨va,vc,ta,tc,a,c,rfl,rfl,rfl,rfl,-⟩:=ht.form
 clear ht
 obtain⟨W,hW⟩:∃W,W=w.alloc (.cells #[.int .i64 t.op,.slice va t.vars.length vc,.slice ta t.terms.length tc,.slice a t.args.length c] 29):=⟨_,rfl⟩
 have hx:Ext w W:=by rw[hW];exact zd _ _
 obtain⟨c0,c1,c2,c3⟩:=zeo w (.int .i64 t.op) (.slice va t.vars.length vc) (.slice ta t.terms.length tc) (.slice a t.args.length c) 29
 rw[←hW]at c0 c1 c2 c3
 by_cases h1:300<t.size
 ·have q1:decide ((300:Int)<(t.size:Nat))=true:=decide_eq_true (by omega)
  have HR:=Lib.hid (show t.check=3 by unfold Fm.check;rw[if_pos (.inl h1)])
  clear h1
  go_enter Tryz.func22,Tryz.ntmps22
  go_wp2_with (rw[←hW];clear hW;go_at_call 25;refine(H1.out _ hx).mono ?_;rintro e w1 ⟨rfl,hx1⟩;replace c0:=hx1.cell c0;replace c1:=hx1.cell c1;replace c2:=hx1.cell c2;replace c3:=hx1.cell c3)
  go_ret
  exact⟨zm (by rw[HR.out]),hx.trans hx1⟩
 have q1:decide ((300:Int)<(t.size:Nat))=false:=decide_eq_false (by omega)
 by_cases h2:30<t.depth
 ·have q2:decide ((30:Int)<(t.depth:Nat))=true:=decide_eq_true (by omega)
  have HR:=Lib.hid (show t.check=3 by unfold Fm.check;rw[if_pos (.inr (.inl h2))])
  clear h1 h2
  go_enter Tryz.func22,Tryz.ntmps22
  go_wp2_with (first|(rw[←hW];clear hW;go_at_call 25;refine(H1.out _ hx).mono ?_;rintro e w1 ⟨rfl,hx1⟩;replace c0:=hx1.cell c0;replace c1:=hx1.cell c1;replace c2:=hx1.cell c2;replace c3:=hx1.cell c3)|(go_at_call 45;refine(H2.out _ (hx.trans hx1)).mono ?_;rintro e w2 ⟨rfl,hx2⟩;replace c0:=hx2.cell c0;replace c1:=hx2.cell c1;replace c2:=hx2.cell c2;replace c3:=hx2.cell c3))
  go_ret
  exact⟨zm (by rw[HR.out]),(hx.trans hx1).trans hx2⟩
 have q2:decide ((30:Int)<(t.depth:Nat))=false:=decide_eq_false (by omega)
 cases h3:t.narrow with
 |false =>
  have HR:=Lib.hid (show t.check=3 by unfold Fm.check;rw[if_pos (.inr (.inr h3))])
  rw[h3]at H3
  clear h1 h2 h3
  go_enter Tryz.func22,Tryz.ntmps22
  go_wp2_with (first|(rw[←hW];clear hW;go_at_call 25;refine(H1.out _ hx).mono ?_;rintro e w1 ⟨rfl,hx1⟩;replace c0:=hx1.cell c0;replace c1:=hx1.cell c1;replace c2:=hx1.cell c2;replace c3:=hx1.cell c3)|(go_at_call 45;refine(H2.out _ (hx.trans hx1)).mono ?_;rintro e w2 ⟨rfl,hx2⟩;replace c0:=hx2.cell c0;replace c1:=hx2.cell c1;replace c2:=hx2.cell c2;replace c3:=hx2.cell c3)|(go_at_call 54;refine(H3.out _ ((hx.trans hx1).trans hx2)).mono ?_;rintro e w3 ⟨rfl,hx3⟩;replace c0:=hx3.cell c0;replace c1:=hx3.cell c1;replace c2:=hx3.cell c2;replace c3:=hx3.cell c3))
  go_ret
  exact⟨zm (by rw[HR.out]),((hx.trans hx1).trans hx2).trans hx3⟩
 |true =>
  rw[h3]at H3
  have HR:=Lib.hid (show t.check=if t.may then 0 else 2 by unfold Fm.check;rw[if_neg (by rintro(h|h|h);exact h1 h;exact h2 h;rw[h3]at h;cases h)])
  clear h1 h2 h3
  cases h4:t.may with
  |false =>
   rw[h4]at H4 HR
   clear h4
   go_enter Tryz.func22,Tryz.ntmps22
   go_wp2_with (first|(rw[←hW];clear hW;go_at_call 25;refine(H1.out _ hx).mono ?_;rintro e w1 ⟨rfl,hx1⟩;replace c0:=hx1.cell c0;replace c1:=hx1.cell c1;replace c2:=hx1.cell c2;replace c3:=hx1.cell c3)|(go_at_call 45;refine(H2.out _ (hx.trans hx1)).mono ?_;rintro e w2 ⟨rfl,hx2⟩;replace c0:=hx2.cell c0;replace c1:=hx2.cell c1;replace c2:=hx2.cell c2;replace c3:=hx2.cell c3)|(go_at_call 54;refine(H3.out _ ((hx.trans hx1).trans hx2)).mono ?_;rintro e w3 ⟨rfl,hx3⟩;replace c0:=hx3.cell c0;replace c1:=hx3.cell c1;replace c2:=hx3.cell c2;replace c3:=hx3.cell c3)|(go_at_call 55;refine(H4.out _ (((hx.trans hx1).trans hx2).trans hx3)).mono ?_;rintro e w4 ⟨rfl,hx4⟩))
   go_ret
   exact⟨zm (by rw[HR.out];rfl),(((hx.trans hx1).trans hx2).trans hx3).trans hx4⟩
  |true =>
   rw[h4]at H4 HR
   clear h4
   go_enter Tryz.func22,Tryz.ntmps22
   go_wp2_with (first|(rw[←hW];clear hW;go_at_call 25;refine(H1.out _ hx).mono ?_;rintro e w1 ⟨rfl,hx1⟩;replace c0:=hx1.cell c0;replace c1:=hx1.cell c1;replace c2:=hx1.cell c2;replace c3:=hx1.cell c3)|(go_at_call 45;refine(H2.out _ (hx.trans hx1)).mono ?_;rintro e w2 ⟨rfl,hx2⟩;replace c0:=hx2.cell c0;replace c1:=hx2.cell c1;replace c2:=hx2.cell c2;replace c3:=hx2.cell c3)|(go_at_call 54;refine(H3.out _ ((hx.trans hx1).trans hx2)).mono ?_;rintro e w3 ⟨rfl,hx3⟩;replace c0:=hx3.cell c0;replace c1:=hx3.cell c1;replace c2:=hx3.cell c2;replace c3:=hx3.cell c3)|(go_at_call 55;refine(H4.out _ (((hx.trans hx1).trans hx2).trans hx3)).mono ?_;rintro e w4 ⟨rfl,hx4⟩))
   go_ret
   exact⟨zm (by rw[HR.out];rfl),(((hx.trans hx1).trans hx2).trans hx3).trans hx4⟩
theorem Ex.same_false {a b:Ex}(h:a≠b):Ex.same a b=false:=by
 cases hs:Ex.same a b with
 |false=>rfl
 |true=>exact absurd ((Ex.same_iff a b).1 hs) h
theorem Ex.same_true {a b:Ex}(h:a=b):Ex.same a b=true:=(Ex.same_iff a b).2 h
theorem zjq (t:Ex):∀(u:Ex) (P Q:Nat→Prop) (w:World) (x y z x' y' z':Value),IsEx P w x y z t→IsEx Q w x' y' z' u→t.size≤4194304 →
  Calls Tryz.prog 42 #[.agg #[x,y,z],.agg #[x',y',z']] w fun e w'=>e=.returned (.bool (Ex.same t u))∧Ext w w':=by
 induction t using Ex.ind with
 |h v nm l ih =>
  intro u P Q w x y z x' y' z' ht hu hs
  obtain⟨v',nm',l'⟩:=u
  obtain⟨a,c,rfl,rfl,rfl,hn,hc1,hk⟩:=ht.form
  obtain⟨a',c',rfl,rfl,rfl,hn',hc1',hk'⟩:=hu.form
  simp only[Ex.var,Ex.name,Ex.args]at hn hc1 hk hn' hc1' hk' ⊢
  simp only[Ex.size]at hs
  have hkl:=Ex.length_le_sizes l
  have HIH:=Lib.hid ih
  clear ih ht hu
  by_cases hv:v=v'
  case neg =>
   have q1:(v != v')=true:=by rw[bne_iff_ne];exact hv
   have HR:=Lib.hid (Ex.same_false (a:=.mk v nm l) (b:=.mk v' nm' l') (fun h=>hv (by injection h)))
   have hvf:(v==v')=false:=by rw[beq_eq_false_iff_ne];exact hv
   go_enter Tryz.func42,Tryz.ntmps42
   go_wp2_with fail
   go_ret
   exact⟨ze (by rw[HR.out]),(zd _ _).alloc _⟩
  subst hv
  by_cases hnm:nm=nm'
  case neg =>
   have q2:(nm.toList==nm'.toList)=false:=ze3 hnm
   have HR:=Lib.hid (Ex.same_false (a:=.mk v nm l) (b:=.mk v nm' l') (fun h=>hnm (by injection h)))
   clear hnm
   go_enter Tryz.func42,Tryz.ntmps42
   go_wp2_with fail
   go_ret
   exact⟨ze (by rw[HR.out]),(zd _ _).alloc _⟩
  subst hnm
  have q2:(nm.toList==nm.toList)=true:=ze4 rfl
  by_cases hll:l.length=l'.length
  case neg =>
   have q3:((l.length:Int) != (l'.length:Nat))=true:=by rw[bne_iff_ne];omega
   have HR:=Lib.hid (Ex.same_false (a:=.mk v nm l) (b:=.mk v nm l') (fun h=>hll (by injection h with _ _ h;rw[h])))
   clear hll
   go_enter Tryz.func42,Tryz.ntmps42
   go_wp2_with fail
   go_ret
   exact⟨ze (by rw[HR.out]),(zd _ _).alloc _⟩
  have q3:((l.length:Int) != (l'.length:Nat))=false:=by rw[bne_eq_false_iff_eq];omega
  have HLL:=Lib.hid hll
  have hle:l.length≤l'.length:=by omega
  clear hll
  go_enter Tryz.func42,Tryz.ntmps42
  go_wp2_with fail
  obtain⟨W,hW⟩:∃W,W=(w.alloc (.cells #[.bool v,.string nm,.slice a l.length c] 73)).alloc (.cells #[.bool v,.string nm,.slice a' l'.length c'] 73):=⟨_,rfl⟩
  have hx:Ext w W:=by rw[hW];exact(zd _ _).alloc _
  have b2:W.cell? ⟨w.heap.size,2,none⟩=some (.slice a l.length c):=by rw[hW];exact(zd _ _).cell (own3 w _ _ _ _ 2 _ rfl).1
  have d2:W.cell? ⟨w.heap.size+1,2,none⟩=some (.slice a' l'.length c'):=by
   rw[hW]
   have:=(own3 (w.alloc (.cells #[.bool v,.string nm,.slice a l.length c] 73)) (.bool v) (.string nm) (.slice a' l'.length c') 73 2 _ rfl).1
   rw[World.size_alloc]at this;exact this
  rw[←hW]
  clear hW
  go_loopw [5] (fun i wr=>∃k:Nat,k≤l.length∧i=.int .i64 k∧Ext W wr∧l.take k=l'.take k) (fun i _=>l.length-(intOf i).toNat)
  case atStart=>exact⟨0,Nat.zero_le _,rfl,Below.refl _ _,rfl⟩
  case round =>
   obtain⟨k,hkk,rfl,hxr,hm⟩:=hrel
   have HM:=Lib.hid hm
   clear hm
   replace b2:=hxr.cell b2
   replace d2:=hxr.cell d2
   by_cases hlt:k<l.length
   ·obtain⟨b,o,aa,cc,rfl,hb,g1,g2,g3,hi⟩:=(IsExs.ext hk (hx.trans hxr)).look hlt
    have hlt2:k<l'.length:=by omega
    obtain⟨bb,oo,aa',cc',rfl,hbb,j1,j2,j3,hi'⟩:=(IsExs.ext hk' (hx.trans hxr)).look hlt2
    have hlt':(k:Int)<l.length:=by omega
    have hlt2':(k:Int)<l'.length:=by omega
    have HE:=Lib.hid (fun w' (hx:Ext wr w')=>HIH.out _ (List.getElem_mem hlt) l'[k] P Q w' _ _ _ _ _ _ (hi.ext hx) (hi'.ext hx) (by have:=Ex.size_le_sizes hlt;omega))
    have HST:=Lib.hid (show l.take (k+1)=l.take k++[l[k]]from List.take_succ_eq_append_getElem hlt)
    have HST':=Lib.hid (show l'.take (k+1)=l'.take k++[l'[k]]from List.take_succ_eq_append_getElem hlt2)
    go_wp2_with fail
    go_still_tail 10,(by kernel_rfl)
    change wpList _ _ _ _ _ wr.drew
    by_cases he:l[k]=l'[k]
    ·have HS:=Lib.hid (Ex.same_true he)
     rw[HS.out]at HE
     have HEQ:=Lib.hid he
     clear he
     go_wp2_with (go_at_call 42;refine(HE.out _ (Ext.drew (Below.refl _ _))).mono ?_;rintro e w1 ⟨rfl,hx1⟩)
     go_roundw
     case rel=>exact⟨k+1,by omega,by go_num,hxr.trans ((Ext.drew (Below.refl _ wr)).trans hx1),by rw[HST.out,HST'.out,HM.out,HEQ.out]⟩
     case measure=>simp[intOf];omega
    ·have HS:=Lib.hid (Ex.same_false he)
     rw[HS.out]at HE
     have HR:=Lib.hid (Ex.same_false (a:=.mk v nm l) (b:=.mk v nm l') (fun h=>he (by injection h with _ _ h;subst h;rfl)))
     clear he
     go_wp2_with (go_at_call 42;refine(HE.out _ (Ext.drew (Below.refl _ _))).mono ?_;rintro e w1 ⟨rfl,hx1⟩)
     go_ret
     exact⟨ze (by rw[HR.out]),(hx.trans hxr).trans ((Ext.drew (Below.refl _ wr)).trans hx1)⟩
   ·have hlt':¬(k:Int)<l.length:=by omega
    have hke:k=l.length:=by omega
    have HR:=Lib.hid (Ex.same_true (a:=.mk v nm l) (b:=.mk v nm l') (by
     have h1:=HM.out
     rw[hke,List.take_length,HLL.out,List.take_length]at h1
     rw[h1]))
    clear hke
    go_wp2_with fail
    go_ret
    exact⟨ze (by rw[HR.out]),hx.trans hxr⟩
theorem Fm.same_false {a b:Fm}(h:a≠b):Fm.same a b=false:=by
 cases hs:Fm.same a b with
 |false=>rfl
 |true=>exact absurd ((Fm.same_iff a b).1 hs) h
theorem Fm.same_true {a b:Fm}(h:a=b):Fm.same a b=true:=(Fm.same_iff a b).2 h
theorem zrb (f:Fm):∀(g:Fm) (P Q:Nat→Prop) (w:World) (x y z u x' y' z' u':Value),IsFm P w x y z u f→IsFm Q w x' y' z' u' g→f.size≤4194304 →
  Calls Tryz.prog 14 #[.agg #[x,y,z,u],.agg #[x',y',z',u']] w fun e w'=>e=.returned (.bool (Fm.same f g))∧Ext w w':=by
 induction f using Fm.ind with
 |h op v t l ih =>
  intro g P Q w x y z u x' y' z' u' hf hg hs
  obtain⟨op',v',t',l'⟩:=g
  obtain⟨va,vc,ta,tc,a,c,rfl,rfl,rfl,rfl,ho1,ho2,hvl,htl,hll0,hvs,hts,hls⟩:=hf.form
  obtain⟨va',vc',ta',tc',a',c',rfl,rfl,rfl,rfl,ho1',ho2',hvl',htl',hll0',hvs',hts',hls'⟩:=hg.form
  simp only[Fm.op,Fm.vars,Fm.terms,Fm.args]at *
  simp only[Fm.size]at hs
  have hkl:=Fm.length_le_sizes l
  have hkt:=Ex.length_le_sizes t
  have HIH:=Lib.hid ih
  clear ih hf hg
  by_cases hop:op=op'
  case neg =>
   have q1:(op != op')=true:=by rw[bne_iff_ne];exact hop
   have HR:=Lib.hid (Fm.same_false (a:=.mk op v t l) (b:=.mk op' v' t' l') (fun h=>hop (by injection h)))
   clear hop
   go_enter Tryz.func14,Tryz.ntmps14
   go_wp2_with fail
   go_ret
   exact⟨ze (by rw[HR.out]),(zd _ _).alloc _⟩
  subst hop
  have q1:(op != op)=false:=by rw[bne_eq_false_iff_eq]
  by_cases hvv:v.length=v'.length
  case neg =>
   have q2:((v.length:Int) != (v'.length:Nat))=true:=by rw[bne_iff_ne];omega
   have HR:=Lib.hid (Fm.same_false (a:=.mk op v t l) (b:=.mk op v' t' l') (fun h=>hvv (by injection h with _ h;rw[h])))
   clear hvv
   go_enter Tryz.func14,Tryz.ntmps14
   go_wp2_with fail
   go_ret
   exact⟨ze (by rw[HR.out]),(zd _ _).alloc _⟩
  have q2:((v.length:Int) != (v'.length:Nat))=false:=by rw[bne_eq_false_iff_eq];omega
  have HL2:=Lib.hid hvv
  have hle2:v.length≤v'.length:=by omega
  clear hvv
  by_cases htt:t.length=t'.length
  case neg =>
   have q3:((t.length:Int) != (t'.length:Nat))=true:=by rw[bne_iff_ne];omega
   have HR:=Lib.hid (Fm.same_false (a:=.mk op v t l) (b:=.mk op v' t' l') (fun h=>htt (by injection h with _ _ h;rw[h])))
   clear htt
   go_enter Tryz.func14,Tryz.ntmps14
   go_wp2_with fail
   go_ret
   exact⟨ze (by rw[HR.out]),(zd _ _).alloc _⟩
  have q3:((t.length:Int) != (t'.length:Nat))=false:=by rw[bne_eq_false_iff_eq];omega
  have HL3:=Lib.hid htt
  have hle3:t.length≤t'.length:=by omega
  clear htt
  by_cases hll:l.length=l'.length
  case neg =>
   have q4:((l.length:Int) != (l'.length:Nat))=true:=by rw[bne_iff_ne];omega
   have HR:=Lib.hid (Fm.same_false (a:=.mk op v t l) (b:=.mk op v' t' l') (fun h=>hll (by injection h with _ _ _ h;rw[h])))
   clear hll
   go_enter Tryz.func14,Tryz.ntmps14
   go_wp2_with fail
   go_ret
   exact⟨ze (by rw[HR.out]),(zd _ _).alloc _⟩
  have q4:((l.length:Int) != (l'.length:Nat))=false:=by rw[bne_eq_false_iff_eq];omega
  have HL4:=Lib.hid hll
  have hle4:l.length≤l'.length:=by omega
  clear hll
  go_enter Tryz.func14,Tryz.ntmps14
  go_wp2_with fail
  obtain⟨W,hW⟩:∃W,W=(w.alloc (.cells #[.int .i64 op,.slice va v.length vc,.slice ta t.length tc,.slice a l.length c] 29)).alloc (.cells #[.int .i64 op,.slice va' v'.length vc',.slice ta' t'.length tc',.slice a' l'.length c'] 29):=⟨_,rfl⟩
  have hx:Ext w W:=by rw[hW];exact(zd _ _).alloc _
  have hO1:Own W w.heap.size [.int .i64 op,.slice va v.length vc,.slice ta t.length tc,.slice a l.length c]:=by rw[hW];exact(own4 w _ _ _ _ _).ext (zd _ _)
  have hO2:Own W (w.heap.size+1) [.int .i64 op,.slice va' v'.length vc',.slice ta' t'.length tc',.slice a' l'.length c']:=by
   rw[hW]
   have:=own4 (w.alloc (.cells #[.int .i64 op,.slice va v.length vc,.slice ta t.length tc,.slice a l.length c] 29)) (.int .i64 op) (.slice va' v'.length vc') (.slice ta' t'.length tc') (.slice a' l'.length c') 29
   rw[World.size_alloc]at this;exact this
  rw[←hW]
  clear hW
  go_loopw [5] (fun i wr=>∃k:Nat,k≤v.length∧i=.int .i64 k∧Ext W wr∧v.take k=v'.take k) (fun i _=>v.length-(intOf i).toNat)
  case atStart=>exact⟨0,Nat.zero_le _,rfl,Below.refl _ _,rfl⟩
  case round =>
   obtain⟨k,hkk,rfl,hxr,hm⟩:=hrel
   have HM:=Lib.hid hm
   clear hm
   have b1:=(hO1.ext hxr 1 _ rfl).1
   have d1:=(hO2.ext hxr 1 _ rfl).1
   by_cases hlt:k<v.length
   ·obtain⟨b,o,rfl,hb,g1,-⟩:=IsStrs.look (hvs.ext (hx.trans hxr)) hlt
    have hlt2:k<v'.length:=by omega
    obtain⟨bb,oo,rfl,hbb,j1,-⟩:=IsStrs.look (hvs'.ext (hx.trans hxr)) hlt2
    have hlt':(k:Int)<v.length:=by omega
    have hlt2':(k:Int)<v'.length:=by omega
    have HST:=Lib.hid (show v.take (k+1)=v.take k++[v[k]]from List.take_succ_eq_append_getElem hlt)
    have HST':=Lib.hid (show v'.take (k+1)=v'.take k++[v'[k]]from List.take_succ_eq_append_getElem hlt2)
    by_cases he:v[k]=v'[k]
    ·have p1:(v[k].toList==v'[k].toList)=true:=ze4 he
     have HEQ:=Lib.hid he
     clear he
     go_wp2_with fail
     go_quiet (fail)
     go_wp2_with fail
     go_roundw
     case rel=>exact⟨k+1,by omega,by go_num,Ext.drewN hxr _,by rw[HST.out,HST'.out,HM.out,HEQ.out]⟩
     case measure=>simp[intOf];omega
    ·have p1:(v[k].toList==v'[k].toList)=false:=ze3 he
     have HR:=Lib.hid (Fm.same_false (a:=.mk op v t l) (b:=.mk op v' t' l') (fun h=>he (by injection h with _ h;subst h;rfl)))
     clear he
     go_wp2_with fail
     go_quiet (fail)
     go_wp2_with fail
     go_ret
     exact⟨ze (by rw[HR.out]),Ext.drewN (hx.trans hxr) _⟩
   ·have hlt':¬(k:Int)<v.length:=by omega
    have HV:=Lib.hid (show v=v' by
     have h1:=HM.out
     have hke:k=v.length:=by omega
     rw[hke,List.take_length,HL2.out,List.take_length]at h1
     exact h1)
    go_wp2_with fail
    obtain⟨wo,rfl⟩:∃wo:World,wo=wr:=⟨_,rfl⟩
    have hO1':=hO1.ext hxr
    have hO2':=hO2.ext hxr
    have hxx:=hx.trans hxr
    clear b1 d1 hO1 hO2 hvs hvs' HM
    go_loopw [6] (fun i wr=>∃k:Nat,k≤t.length∧i=.int .i64 k∧Ext wo wr∧t.take k=t'.take k) (fun i _=>t.length-(intOf i).toNat)
    case atStart=>exact⟨0,Nat.zero_le _,rfl,Below.refl _ _,rfl⟩
    case round =>
     obtain⟨k,hkk,rfl,hxr2,hm⟩:=hrel
     have HM:=Lib.hid hm
     clear hm
     have b2:=(hO1'.ext hxr2 2 _ rfl).1
     have d2:=(hO2'.ext hxr2 2 _ rfl).1
     by_cases hlt:k<t.length
     ·obtain⟨b,o,aa,cc,rfl,hb,g1,g2,g3,hi⟩:=(IsExs.ext hts (hxx.trans hxr2)).look hlt
      have hlt2:k<t'.length:=by omega
      obtain⟨bb,oo,aa',cc',rfl,hbb,j1,j2,j3,hi'⟩:=(IsExs.ext hts' (hxx.trans hxr2)).look hlt2
      have hlt':(k:Int)<t.length:=by omega
      have hlt2':(k:Int)<t'.length:=by omega
      have HE:=Lib.hid (fun w' (hx:Ext wr w')=>zjq t[k] t'[k] P Q w' _ _ _ _ _ _ (hi.ext hx) (hi'.ext hx) (by have:=Ex.size_le_sizes hlt;omega))
      have HST:=Lib.hid (show t.take (k+1)=t.take k++[t[k]]from List.take_succ_eq_append_getElem hlt)
      have HST':=Lib.hid (show t'.take (k+1)=t'.take k++[t'[k]]from List.take_succ_eq_append_getElem hlt2)
      go_wp2_with fail
      go_still_tail 10,(by kernel_rfl)
      change wpList _ _ _ _ _ wr.drew
      by_cases he:t[k]=t'[k]
      ·have HS:=Lib.hid (Ex.same_true he)
       rw[HS.out]at HE
       have HEQ:=Lib.hid he
       clear he
       go_wp2_with (go_at_call 42;refine(HE.out _ (Ext.drew (Below.refl _ _))).mono ?_;rintro e w1 ⟨rfl,hx1⟩)
       go_roundw
       case rel=>exact⟨k+1,by omega,by go_num,hxr2.trans ((Ext.drew (Below.refl _ wr)).trans hx1),by rw[HST.out,HST'.out,HM.out,HEQ.out]⟩
       case measure=>simp[intOf];omega
      ·have HS:=Lib.hid (Ex.same_false he)
       rw[HS.out]at HE
       have HR:=Lib.hid (Fm.same_false (a:=.mk op v t l) (b:=.mk op v' t' l') (fun h=>he (by injection h with _ _ h;subst h;rfl)))
       clear he
       go_wp2_with (go_at_call 42;refine(HE.out _ (Ext.drew (Below.refl _ _))).mono ?_;rintro e w1 ⟨rfl,hx1⟩)
       go_ret
       exact⟨ze (by rw[HR.out]),(hxx.trans hxr2).trans ((Ext.drew (Below.refl _ wr)).trans hx1)⟩
     ·have hlt':¬(k:Int)<t.length:=by omega
      have HTT:=Lib.hid (show t=t' by
       have h1:=HM.out
       have hke:k=t.length:=by omega
       rw[hke,List.take_length,HL3.out,List.take_length]at h1
       exact h1)
      go_wp2_with fail
      obtain⟨wp,rfl⟩:∃wp:World,wp=wr:=⟨_,rfl⟩
      have hO1'':=hO1'.ext hxr2
      have hO2'':=hO2'.ext hxr2
      have hxy:=hxx.trans hxr2
      clear b2 d2 hO1' hO2' hts hts' HM
      go_loopw [7] (fun i wr=>∃k:Nat,k≤l.length∧i=.int .i64 k∧Ext wp wr∧l.take k=l'.take k) (fun i _=>l.length-(intOf i).toNat)
      case atStart=>exact⟨0,Nat.zero_le _,rfl,Below.refl _ _,rfl⟩
      case round =>
       obtain⟨k,hkk,rfl,hxr3,hm⟩:=hrel
       have HM:=Lib.hid hm
       clear hm
       have b3:=(hO1''.ext hxr3 3 _ rfl).1
       have d3:=(hO2''.ext hxr3 3 _ rfl).1
       by_cases hlt:k<l.length
       ·obtain⟨b,o,y1,y2,y3,y4,aa,cc,rfl,hb,g1,g2,g3,g4,hi⟩:=(IsFms.ext hls (hxy.trans hxr3)).look hlt
        have hlt2:k<l'.length:=by omega
        obtain⟨bb,oo,y1',y2',y3',y4',aa',cc',rfl,hbb,j1,j2,j3,j4,hi'⟩:=(IsFms.ext hls' (hxy.trans hxr3)).look hlt2
        have hlt':(k:Int)<l.length:=by omega
        have hlt2':(k:Int)<l'.length:=by omega
        have HE:=Lib.hid (fun w' (hx:Ext wr w')=>HIH.out _ (List.getElem_mem hlt) l'[k] P Q w' _ _ _ _ _ _ _ _ (hi.ext hx) (hi'.ext hx) (by have:=Fm.size_le_sizes hlt;omega))
        have HST:=Lib.hid (show l.take (k+1)=l.take k++[l[k]]from List.take_succ_eq_append_getElem hlt)
        have HST':=Lib.hid (show l'.take (k+1)=l'.take k++[l'[k]]from List.take_succ_eq_append_getElem hlt2)
        go_wp2_with fail
        go_still_tail 10,(by kernel_rfl)
        change wpList _ _ _ _ _ wr.drew
        by_cases he:l[k]=l'[k]
        ·have HS:=Lib.hid (Fm.same_true he)
         rw[HS.out]at HE
         have HEQ:=Lib.hid he
         clear he
         go_wp2_with (go_at_call 14;refine(HE.out _ (Ext.drew (Below.refl _ _))).mono ?_;rintro e w1 ⟨rfl,hx1⟩)
         go_roundw
         case rel=>exact⟨k+1,by omega,by go_num,hxr3.trans ((Ext.drew (Below.refl _ wr)).trans hx1),by rw[HST.out,HST'.out,HM.out,HEQ.out]⟩
         case measure=>simp[intOf];omega
        ·have HS:=Lib.hid (Fm.same_false he)
         rw[HS.out]at HE
         have HR:=Lib.hid (Fm.same_false (a:=.mk op v t l) (b:=.mk op v' t' l') (fun h=>he (by injection h with _ _ _ h;subst h;rfl)))
         clear he
         go_wp2_with (go_at_call 14;refine(HE.out _ (Ext.drew (Below.refl _ _))).mono ?_;rintro e w1 ⟨rfl,hx1⟩)
         go_ret
         exact⟨ze (by rw[HR.out]),(hxy.trans hxr3).trans ((Ext.drew (Below.refl _ wr)).trans hx1)⟩
       ·have hlt':¬(k:Int)<l.length:=by omega
        have HR:=Lib.hid (Fm.same_true (a:=.mk op v t l) (b:=.mk op v' t' l') (by
         have h1:=HM.out
         have hke:k=l.length:=by omega
         rw[hke,List.take_length,HL4.out,List.take_length]at h1
         rw[h1,HV.out,HTT.out]))
        go_wp2_with fail
        go_ret
        exact⟨ze (by rw[HR.out]),hxy.trans hxr3⟩
end Go.Proofs.YtnclgkdpafhogaaGreat
