/- Names in quotes; where quoted tokens, remarks end: token.Quote, quoted, remark; the reference's Name, Quote, word, quoted, remark. Condition: a text of at most 2^30 bytes.
The reference's Named, Name, Quote. Condition: a text of at most 2^30 bytes. -/
import Derived.Test.YtnclgkdpafhogaaGreatQc0
import Derived.Test.YtnclgkdpafhogaaGreatQc3
import Derived.Test.YtnclgkdpafhogaaGreatQc12
set_option maxHeartbeats 16000000
set_option maxRecDepth 100000
namespace Go.Proofs.YtnclgkdpafhogaaGreat
open Go.ChangeShapes Go.WideShapes Go.ChangeAt Go.RowKit
theorem znw {s:ByteArray}(h:named s=true):1≤s.size∧s.size≤40:=by
 unfold named at h
 rw[Bool.and_eq_true]at h
 exact of_decide_eq_true h.1
theorem znx (c:UInt8):zt c=(zi9 c || zbm c || ((c.toNat:Int)==95)):=by
 have e:((c.toNat:Int)==95)=decide (c.toNat=95):=by rw[Bool.eq_iff_iff];simp;omega
 rw[e]
 unfold zt zi9 zbm
 rw[Bool.eq_iff_iff];simp;omega
theorem zgf (s:ByteArray) (hs:s.size≤1073741824) (k:Nat) (hk:k≤s.size) (w:World) :
  Calls Tryz.prog 173 #[.string s,.int .i64 k] w fun e w'=>e=.returned (.int .i64 (zab zt s k:Nat))∧w=w':=by
 go_enter Tryz.func173,Tryz.ntmps173
 go_wp2_with fail
 go_loop [1] (fun i=>∃j:Nat,j≤s.size∧i=.int .i64 j∧zab zt s k=zab zt s j) (fun i=>s.size-(intOf i).toNat)
 case atStart=>exact⟨k,hk,rfl,rfl⟩
 case round =>
  obtain⟨j,hj,rfl,heq⟩:=hrel
  have Heq:=Lib.hid heq;clear heq
  by_cases hlt:j<s.size
  ·have hlt':decide ((j:Int)<(s.size:Nat))=true:=decide_eq_true (by omega)
   have Hst:=Lib.hid (zcj (p:=zt) hlt)
   have Hsp:=Lib.hid (znx s[j])
   have hcl:=s[j].toNat_lt
   cases hl:zi9 s[j]<;>cases hd:zbm s[j]<;>cases hu:((s[j].toNat:Int)==95)
   all_goals
    go_wp2_with (first
     |((with_reducible refine(zma _ _).mono ?_);rintro e w' ⟨rfl,rfl⟩)
     |((with_reducible refine(za4 _ _).mono ?_);rintro e w' ⟨rfl,rfl⟩))
    first
     |(go_ret
       have h1:=Hst.out
       rw[Hsp.out,hl,hd,hu,if_neg (by decide)]at h1
       exact⟨zm (by rw[Heq.out,h1]),rfl⟩)
     |(go_round
       case rel =>
         have h1:=Hst.out
         rw[Hsp.out,hl,hd,hu,if_pos (by decide)]at h1
         exact⟨j+1,by omega,by go_num,by rw[Heq.out,h1]⟩
       case measure=>simp[intOf];omega)
  ·have hlt':decide ((j:Int)<(s.size:Nat))=false:=decide_eq_false (by omega)
   go_wp2_with fail
   have:j=s.size:=by omega
   subst this
   go_ret
   exact⟨zm (by rw[Heq.out,zdo (Nat.le_refl _)]),rfl⟩
def zw (s:ByteArray) (k:Nat):Nat:=if zab zbq s (k+1)=k+1∨byt s (zab zbq s (k+1))≠39 then k else zab zbq s (k+1)+1
theorem zgo (s:ByteArray) (hs:s.size≤1073741824) (k:Nat) (hk:k<s.size) (w:World) :
  Calls Tryz.prog 190 #[.string s,.int .i64 k] w fun e w'=>e=.returned (.int .i64 (zw s k:Nat))∧w=w':=by
 have H:=Lib.hid (fun w=>zk1 s hs (k+1) (by omega) w)
 have h1:=zbu zbq s (k+1)
 have h2:zab zbq s (k+1)≤s.size:=zbv (by omega)
 unfold zw
 generalize zab zbq s (k+1)=r at H h1 h2
 have hw:IntKind.i64.wrap ((k:Int)+1)=(k:Int)+1:=IntWalk.i64_in _ (by omega)
 have hke:((k+1:Nat):Int)=(k:Int)+1:=by omega
 rw[hke]at H
 clear hke
 by_cases c1:r=k+1
 ·subst c1
  rw[if_pos (.inl rfl)]
  have d1:(((k+1:Nat):Int)==(k:Int)+1)=true:=by rw[beq_iff_eq];omega
  go_enter Tryz.func190,Tryz.ntmps190
  go_wp2_with (refine(H.out _).mono ?_;rintro e w' ⟨rfl,rfl⟩)
  go_ret
  exact⟨rfl,rfl⟩
 ·have d1:((r:Int)==(k:Int)+1)=false:=by rw[beq_eq_false_iff_ne];omega
  by_cases c2:r=s.size
  ·rw[if_pos (.inr (by rw[zci (by omega)];omega))]
   have d2:((r:Int)==(s.size:Nat))=true:=by rw[beq_iff_eq];omega
   clear c2
   go_enter Tryz.func190,Tryz.ntmps190
   go_wp2_with (refine(H.out _).mono ?_;rintro e w' ⟨rfl,rfl⟩)
   go_ret
   exact⟨rfl,rfl⟩
  ·have hr:r<s.size:=by omega
   have d2:((r:Int)==(s.size:Nat))=false:=by rw[beq_eq_false_iff_ne];omega
   rw[zaj hr]
   have hr':(r:Int)<(s.size:Nat):=by omega
   by_cases c3:((s[r].toNat:Nat):Int)=39
   ·rw[if_neg (by rintro(h|h);exact c1 h;exact h c3)]
    have d3:((s[r].toNat:Int) != 39)=false:=by rw[bne_eq_false_iff_eq];exact c3
    clear c1 c2 c3
    go_enter Tryz.func190,Tryz.ntmps190
    go_wp2_with (refine(H.out _).mono ?_;rintro e w' ⟨rfl,rfl⟩)
    go_ret
    exact⟨zm (by omega),rfl⟩
   ·rw[if_pos (.inr c3)]
    have d3:((s[r].toNat:Int) != 39)=true:=by rw[bne_iff_ne];exact c3
    clear c1 c2 c3
    go_enter Tryz.func190,Tryz.ntmps190
    go_wp2_with (refine(H.out _).mono ?_;rintro e w' ⟨rfl,rfl⟩)
    go_ret
    exact⟨rfl,rfl⟩
theorem zme (s:ByteArray) (w:World) (hs:s.size≤1073741824) :
  Calls Tryz.prog 125 #[.string s] w fun e w'=>e=.returned (.bool (named s))∧w=w':=by
 by_cases hsz:1≤s.size∧s.size≤40
 ·obtain⟨h1,h2⟩:=hsz
  go_enter Tryz.func125,Tryz.ntmps125
  go_wp2_with fail
  go_loop [3] (fun i=>∃k:Nat,k≤s.size∧i=.int .i64 k∧(s.data.toList.take k).all zt=true) (fun i=>s.size-(intOf i).toNat)
  case atStart=>exact⟨0,Nat.zero_le _,rfl,rfl⟩
  case round =>
   obtain⟨k,hk,rfl,hall⟩:=hrel
   have Hall:=Lib.hid hall;clear hall
   by_cases hlt:k<s.size
   ·have Hst:=Lib.hid (zxi zt s k hlt)
    go_wp2_with fail
    all_goals (try simp only[Bool.not_eq_eq_eq_not,Bool.not_true,Bool.not_false,beq_eq_false_iff_ne,beq_iff_eq,decide_eq_false_iff_not,decide_eq_true_eq,ne_eq]at *)
    all_goals first
     |(have hf:zt s[k]=false:=by unfold zt;rw[decide_eq_false_iff_not];omega
       go_ret
       refine⟨?_,rfl⟩
       have h1:=Hst.out
       rw[hf,Bool.and_false]at h1
       simp[named,show ziz s=false from zu5 _ _ _ h1];done)
     |(have hf:zt s[k]=true:=by unfold zt;rw[decide_eq_true_iff];omega
       go_round
       case rel=>exact⟨k+1,by omega,by go_num,by rw[Hst.out,Hall.out,hf];rfl⟩
       case measure=>simp[intOf];omega)
   ·go_wp2_with fail
    have:k=s.size:=by omega
    subst this
    go_ret
    have h3:=Hall.out
    rw[List.take_of_length_le (by simp)]at h3
    exact⟨by simp[named,h1,h2,show ziz s=true from h3],rfl⟩
 ·go_enter Tryz.func125,Tryz.ntmps125
  go_wp2_with fail
  all_goals
   go_ret
   exact⟨by simp[named,hsz],rfl⟩
theorem zex (s:ByteArray) (hs:s.size≤1073741824) (w:World) :
  Calls Tryz.prog 72 #[.string s] w fun e w'=>e=.returned (.bool (named s))∧w=w':=by
 go_enter Tryz.func72,Tryz.ntmps72
 go_wp2_with (refine(zme s _ hs).mono ?_;rintro e w' ⟨rfl,rfl⟩)
 go_ret
 exact⟨rfl,rfl⟩
end Go.Proofs.YtnclgkdpafhogaaGreat
