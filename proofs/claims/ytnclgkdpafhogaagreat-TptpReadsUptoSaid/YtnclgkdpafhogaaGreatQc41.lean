/- The walk of the law TptpReads. Conditions: texts of at most 1048576 bytes, at most 2^20 files; bytealg.MaxLen holds some integer. -/
import Derived.Test.YtnclgkdpafhogaaGreatQc37
import Derived.Test.YtnclgkdpafhogaaGreatQc33
import Derived.Test.YtnclgkdpafhogaaGreatQc0
import Derived.Test.YtnclgkdpafhogaaGreatQc39
import Derived.Test.YtnclgkdpafhogaaGreatQc40
set_option maxHeartbeats 16000000
set_option maxRecDepth 100000
namespace Go.Proofs.YtnclgkdpafhogaaGreat
open Go.ChangeShapes Go.WideShapes Go.ChangeAt Go.RowKit
def zl8 (l:List (ByteArray×ByteArray)):Nat:=(l.map fun f=>f.2.size).sum
theorem zsg {l:List (ByteArray×ByteArray)}{k:Nat}(h:k<l.length):zl8 (l.take (k+1))=zl8 (l.take k)+l[k].2.size:=by
 unfold zl8
 rw[List.take_succ_eq_append_getElem h,List.map_append,List.sum_append]
 simp
def zlc (l:List (ByteArray×ByteArray)):Bool:=decide (20<l.length) || decide (32768<zl8 l)
theorem zyt {files:List (ByteArray×ByteArray)}(hfl:files.length≤1048576) (htx:∀f∈files,f.2.size≤1048576){P:Nat→Prop}{w:World}{fa:Option Addr}{fc:Nat}(hf:IsFiles P w fa files) :
  Calls Tryz.prog 26 #[.slice fa files.length fc] w fun e w'=>e=.returned (.bool (zlc files))∧w=w':=by
 have HF:=Lib.hid hf
 clear hf
 go_enter Tryz.func26,Tryz.ntmps26
 go_wp2_with fail
 go_loopw [3,4] (fun n i wr=>∃k m:Nat,k≤files.length∧i=.int .i64 k∧n=.int .i64 m∧m≤k * 1048576∧zl8 (files.take k)=m∧Ext w wr∧w=wr) (fun _ i _=>files.length-(intOf i).toNat)
 case atStart=>exact⟨0,0,Nat.zero_le _,rfl,rfl,by omega,rfl,Below.refl _ _,rfl⟩
 case round =>
  obtain⟨k,m,hkk,rfl,hn,hm,hsum,-,hw⟩:=hrel
  generalize u3=n at hn ⊢
  subst hn
  subst hw
  have HS:=Lib.hid hsum
  clear hsum
  have hm2:m≤1099511627776:=by omega
  by_cases hkl:k<files.length
  ·have hkl':decide ((k:Int)<files.length)=true:=decide_eq_true (by omega)
   have hkl2:(k:Int)<files.length:=by omega
   by_cases h20:k≤20
   ·have h20':decide ((k:Int)≤20)=true:=decide_eq_true (by omega)
    have h20'':(k:Int)≤20:=by omega
    obtain⟨b,o,rfl,-,-,t1,-⟩:=IsFiles.look HF.out hkl
    have hz:=htx _ (List.getElem_mem hkl)
    have HST:=Lib.hid (zsg hkl)
    generalize files[k].2=tx at *
    go_wp2_with fail
    go_roundw
    case rel=>exact⟨k+1,m+tx.size,by omega,by go_num,by go_num,by omega,by rw[HST.out,HS.out],Below.refl _ _,trivial⟩
    case measure=>simp[intOf];omega
   ·have h20':decide ((k:Int)≤20)=false:=decide_eq_false (by omega)
    have h20'':¬(k:Int)≤20:=by omega
    have hq1:decide ((20:Int)<files.length)=true:=decide_eq_true (by omega)
    have HB:=Lib.hid (show zlc files=true by unfold zlc;rw[decide_eq_true (by omega)];rfl)
    go_wp2_with fail
    go_ret
    exact⟨ze HB.out.symm,rfl⟩
  ·have hkl':decide ((k:Int)<files.length)=false:=decide_eq_false (by omega)
   have hkl2:¬(k:Int)<files.length:=by omega
   have hm3:zl8 files=m:=by
    have:=HS.out
    rw[List.take_of_length_le (by omega)]at this
    exact this
   cases hq1:decide ((20:Int)<files.length) with
   |true =>
    have HB:=Lib.hid (show zlc files=true by unfold zlc;rw[decide_eq_true (by have:=of_decide_eq_true hq1;omega)];rfl)
    clear hm3
    go_wp2_with fail
    go_ret
    exact⟨ze HB.out.symm,rfl⟩
   |false =>
    cases hq2:decide ((32768:Int)<m) with
    |true =>
     have HB:=Lib.hid (show zlc files=true by unfold zlc;rw[hm3,decide_eq_true (p:=32768<m) (by have:=of_decide_eq_true hq2;omega),Bool.or_true])
     clear hm3
     go_wp2_with fail
     go_ret
     exact⟨ze HB.out.symm,rfl⟩
    |false =>
     have HB:=Lib.hid (show zlc files=false by unfold zlc;rw[hm3,decide_eq_false (p:=32768<m) (by have:=of_decide_eq_false hq2;omega),decide_eq_false (p:=20<files.length) (by have:=of_decide_eq_false hq1;omega)];rfl)
     clear hm3
     go_wp2_with fail
     go_ret
     exact⟨ze HB.out.symm,rfl⟩
theorem zhq:∀ {l:List (ByteArray×ByteArray)}{f:ByteArray×ByteArray},f∈l→f.2.size≤zel l
 |a::l,f,h=>by
  unfold zel
  rcases List.mem_cons.1 h with rfl|h
  ·omega
  ·have:=zhq h;omega
theorem zl9 {l:List Ent}{w w1 w2:World}(hs:(∀x∈l,x.form.size≤16002)∧l.length≤200){a b:Option Addr}{c d:Nat}{P Q:Nat→Prop}(ha:IsEnts P w1 a l) (hb:IsEnts Q w2 b l) (hx:Ext w1 w) (hy:Ext w2 w) :
  Calls Tryz.prog 30 #[.slice a l.length c,.slice b l.length d] w fun e w'=>e=.returned (.bool true)∧Ext w w' :=
 zut (by have:=hs.2;omega) (fun x hx=>by have:=hs.1 x hx;omega) (ha.ext hx) (hb.ext hy)
theorem znl (s:ByteArray) (hs:s.size≤1048576){files:List (ByteArray×ByteArray)}(hfl:files.length≤1048576) (htx:∀f∈files,f.2.size≤1048576){P:Nat→Prop}{w:World}{fa:Option Addr}{fc:Nat}(hf:IsFiles P w fa files) (hc:files.length≤fc) (m:Int) (hm:w.cell? ⟨0,0,none⟩=some (.int .i64 m)) :
  Calls Tryz.prog 7 #[.string s,.slice fa files.length fc] w fun e w'=>e=.returned (.bool true)∧Ext w w':=by
 have HW:=Lib.hid (fun w' (hx:Ext w w')=>zsd w' m (hx.cell hm))
 have HG:=Lib.hid (zyt hfl htx hf (fc:=fc))
 have P1:=Lib.hid (zfl hfl htx s hs hf hc hm)
 have P2:=Lib.hid (fun (S:World) (hS:Ext w S)=>zqd hfl htx s hs (hf.ext hS) hc)
 have hsp:=zzi
 have hsm:=fun l h=>zsa (files:=files) (s:=s) (l:=l) h
 clear hf hc hm
 unfold zla at P1 P2
 cases hb:zlc files with
 |true =>
  rw[hb]at HG
  clear hb hsm P1 P2
  go_enter Tryz.func7,Tryz.ntmps7
  go_wp2_with (first
   |(go_at_call 26;refine(HG.out).mono ?_;rintro e w1 ⟨rfl,hw1⟩;subst hw1)
   |(go_at_call 27;refine(HW.out _ (Below.refl _ _)).mono ?_;rintro e w6 ⟨rfl,hx6⟩))
  go_ret
  exact⟨rfl,hx6⟩
 |false =>
 rw[hb]at HG
 clear hb
 cases hr:zf2 files s with
 |flt t =>
  rw[hr]at P1 P2
  have HS:=Lib.hid (fun (S:World)=>zl9 (l:=[]) (w:=S) (w1:=S) (w2:=S) (by simp) (a:=none) (b:=none) (c:=0) (d:=0) (P:=fun _=>True) (Q:=fun _=>True) trivial trivial (Below.refl _ _) (Below.refl _ _))
  clear hr hsm
  simp only[List.length_nil]at HS
  go_enter Tryz.func7,Tryz.ntmps7
  go_upto_region 5 with (first
   |(go_at_call 29;with_reducible refine(P2.out _ hxA).mono ?_;rintro e w3 ⟨rfl,hx3⟩;have hxB:=(hxA.trans hx3).alloc (.cells #[.int .i64 t.file,.int .i64 t.at'] 47);(have tB:=zaq w3 #[.int .i64 t.file,.int .i64 t.at'] 47);(have hx3':=hx3.trans (zd w3 (.cells #[.int .i64 t.file,.int .i64 t.at'] 47))))
   |(go_at_call 28;with_reducible refine(P1.out).mono ?_;rintro e w2 ⟨rfl,hx2⟩;have hxA:=hx2.alloc (.cells #[.int .i64 t.file,.int .i64 t.at'] 47);(have tA:=zaq w2 #[.int .i64 t.file,.int .i64 t.at'] 47))
   |(go_at_call 26;refine(HG.out).mono ?_;rintro e w1 ⟨rfl,hw1⟩;subst hw1))
  have tA3:=tA.ext hx3'
  obtain⟨a0,-⟩:=tA3 0 _ rfl
  obtain⟨a1,-⟩:=tA3 1 _ rfl
  obtain⟨b0,-⟩:=tB 0 _ rfl
  obtain⟨b1,-⟩:=tB 1 _ rfl
  have l1:=zf a0
  have l2:=zf b0
  clear tA tA3 tB
  go_wp2_with (first
   |(go_at_call 27;refine(HW.out _ (hxB.trans hx4)).mono ?_;rintro e w6 ⟨rfl,hx6⟩)
   |(go_at_call 30;refine(HS.out _).mono ?_;rintro e w5 ⟨rfl,hx4⟩))
  go_ret
  exact⟨rfl,(hxB.trans hx4).trans hx6⟩
 |ok l =>
  have HSM:=Lib.hid (hsm l hr)
  rw[hr]at P1 P2
  clear hr hsm
  go_enter Tryz.func7,Tryz.ntmps7
  go_upto_region 5 with (first
   |(go_at_call 29;with_reducible refine(P2.out _ hxA).mono ?_;rintro e w3 ⟨⟨aB,cB,rfl,hcB,hB⟩,hx3⟩;have hxB:=(hxA.trans hx3).alloc (.cells #[.int .i64 0,.int .i64 0] 47);(have tB:=zaq w3 #[.int .i64 0,.int .i64 0] 47);(have hx3':=hx3.trans (zd w3 (.cells #[.int .i64 0,.int .i64 0] 47))))
   |(go_at_call 28;with_reducible refine(P1.out).mono ?_;rintro e w2 ⟨⟨aA,cA,rfl,hcA,hA⟩,hx2⟩;have hxA:=hx2.alloc (.cells #[.int .i64 0,.int .i64 0] 47);(have tA:=zaq w2 #[.int .i64 0,.int .i64 0] 47);(have hx2':=zd w2 (.cells #[.int .i64 0,.int .i64 0] 47)))
   |(go_at_call 26;refine(HG.out).mono ?_;rintro e w1 ⟨rfl,hw1⟩;subst hw1))
  have tA3:=tA.ext hx3'
  obtain⟨a0,-⟩:=tA3 0 _ rfl
  obtain⟨a1,-⟩:=tA3 1 _ rfl
  obtain⟨b0,-⟩:=tB 0 _ rfl
  obtain⟨b1,-⟩:=tB 1 _ rfl
  have l1:=zf a0
  have l2:=zf b0
  have HS:=Lib.hid (zl9 (c:=cA) (d:=cB) HSM.out hA hB (hx2'.trans hx3') (zd w3 (.cells #[.int .i64 0,.int .i64 0] 47)))
  clear tA tA3 tB hA hB
  go_wp2_with (first
   |(go_at_call 27;refine(HW.out _ (hxB.trans hx4)).mono ?_;rintro e w6 ⟨rfl,hx6⟩)
   |(go_at_call 30;refine(HS.out).mono ?_;rintro e w5 ⟨rfl,hx4⟩))
  go_ret
  exact⟨rfl,(hxB.trans hx4).trans hx6⟩
end Go.Proofs.YtnclgkdpafhogaaGreat
