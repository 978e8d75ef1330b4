/- Names in quotes; where quoted tokens, remarks end: token.Quote, quoted, remark; the reference's Name, Quote, word, quoted, remark. Condition: a text of at most 2^30 bytes.
The reference's Named, Name, Quote. Condition: a text of at most 2^30 bytes. -/
import Derived.Test.YtnclgkdpafhogaaGreatQe0
import Derived.Test.YtnclgkdpafhogaaGreatQe3
import Derived.Test.YtnclgkdpafhogaaGreatQe12
set_option maxHeartbeats 16000000
set_option maxRecDepth 100000
namespace Go.Proofs.YtnclgkdpafhogaaGreat
open Go.ChangeShapes Go.WideShapes Go.ChangeAt Go.RowKit
theorem zee {s:ByteArray}(h:named s=true):1≤s.size∧s.size≤40:=by
 unfold named at h
 rw[Bool.and_eq_true]at h
 exact of_decide_eq_true h.1
theorem zi9 (s:ByteArray) (hs:s.size≤1073741824) (w:World) :
  Calls Tryz.prog 75 #[.string s] w fun e w'=>e=.returned (.tuple #[.string (zay s).1,.bool (zay s).2])∧w=w':=by
 have H:=Lib.hid (fun w=>zdw s hs w)
 unfold zay
 cases hn:named s with
 |false =>
  rw[hn]at H
  go_enter Tryz.func75,Tryz.ntmps75
  go_wp2_with (refine(H.out _).mono ?_;rintro e w' ⟨rfl,rfl⟩)
  go_ret2
  exact⟨rfl,rfl⟩
 |true =>
  rw[hn]at H
  obtain⟨h1,h2⟩:=zee hn
  have h0:0<s.size:=by omega
  rw[if_pos rfl,zbs h0]
  have H2:=Lib.hid (fun w=>zaf s[0] w)
  clear hn
  cases hb:zg6 s[0] with
  |true =>
   rw[hb]at H2
   rw[if_pos (by unfold zg6 at hb;have:=of_decide_eq_true hb;omega)]
   clear hb
   go_enter Tryz.func75,Tryz.ntmps75
   go_wp2_with (first|(go_at_call 69;refine(H.out _).mono ?_;rintro e w' ⟨rfl,rfl⟩)|(go_at_call 127;refine(H2.out _).mono ?_;rintro e w' ⟨rfl,rfl⟩))
   go_ret2
   exact⟨rfl,rfl⟩
  |false =>
   rw[hb]at H2
   rw[if_neg (by unfold zg6 at hb;have:=of_decide_eq_false hb;omega)]
   clear hb
   go_enter Tryz.func75,Tryz.ntmps75
   go_wp2_with (first|(go_at_call 69;refine(H.out _).mono ?_;rintro e w' ⟨rfl,rfl⟩)|(go_at_call 127;refine(H2.out _).mono ?_;rintro e w' ⟨rfl,rfl⟩))
   go_ret2
   exact⟨rfl,rfl⟩
def zak (s:ByteArray) (k:Nat):Nat:=if zaj zb6 s (k+1)=k+1∨byt s (zaj zb6 s (k+1))≠39 then k else zaj zb6 s (k+1)+1
theorem zg9 (s:ByteArray) (hs:s.size≤1073741824) (k:Nat) (hk:k<s.size) (w:World) :
  Calls Tryz.prog 190 #[.string s,.int .i64 k] w fun e w'=>e=.returned (.int .i64 (zak s k:Nat))∧w=w':=by
 have H:=Lib.hid (fun w=>zmg s hs (k+1) (by omega) w)
 have h1:=zb9 zb6 s (k+1)
 have h2:zaj zb6 s (k+1)≤s.size:=zca (by omega)
 unfold zak
 generalize zaj zb6 s (k+1)=r at H h1 h2
 have hw:IntKind.i64.wrap ((k:Int)+1)=(k:Int)+1:=IntWalk.i64_in _ (by omega)
 have hke:((k+1:Nat):Int)=(k:Int)+1:=by omega
 rw[hke]at H
 clear hke
 by_cases c1:r=k+1
 ·subst c1
  rw[if_pos (.inl rfl)]
  have d1:(((k+1:Nat):Int)==(k:Int)+1)=true:=by rw[beq_iff_eq];omega
  go_enter Tryz.func190,Tryz.ntmps190
  go_wp2_with (refine(H.out _).mono ?_;rintro e w' ⟨rfl,rfl⟩)
  go_ret
  exact⟨rfl,rfl⟩
 ·have d1:((r:Int)==(k:Int)+1)=false:=by rw[beq_eq_false_iff_ne];omega
  by_cases c2:r=s.size
  ·rw[if_pos (.inr (by rw[zds (by omega)];omega))]
   have d2:((r:Int)==(s.size:Nat))=true:=by rw[beq_iff_eq];omega
   clear c2
   go_enter Tryz.func190,Tryz.ntmps190
   go_wp2_with (refine(H.out _).mono ?_;rintro e w' ⟨rfl,rfl⟩)
   go_ret
   exact⟨rfl,rfl⟩
  ·have hr:r<s.size:=by omega
   have d2:((r:Int)==(s.size:Nat))=false:=by rw[beq_eq_false_iff_ne];omega
   rw[zbs hr]
   have hr':(r:Int)<(s.size:Nat):=by omega
   by_cases c3:((s[r].toNat:Nat):Int)=39
   ·rw[if_neg (by rintro(h|h);exact c1 h;exact h c3)]
    have d3:((s[r].toNat:Int) != 39)=false:=by rw[bne_eq_false_iff_eq];exact c3
    clear c1 c2 c3
    go_enter Tryz.func190,Tryz.ntmps190
    go_wp2_with (refine(H.out _).mono ?_;rintro e w' ⟨rfl,rfl⟩)
    go_ret
    exact⟨zm (by omega),rfl⟩
   ·rw[if_pos (.inr c3)]
    have d3:((s[r].toNat:Int) != 39)=true:=by rw[bne_iff_ne];exact c3
    clear c1 c2 c3
    go_enter Tryz.func190,Tryz.ntmps190
    go_wp2_with (refine(H.out _).mono ?_;rintro e w' ⟨rfl,rfl⟩)
    go_ret
    exact⟨rfl,rfl⟩
theorem znw (s:ByteArray) (w:World) (hs:s.size≤1073741824) :
  Calls Tryz.prog 125 #[.string s] w fun e w'=>e=.returned (.bool (named s))∧w=w':=by
 by_cases hsz:1≤s.size∧s.size≤40
 ·obtain⟨h1,h2⟩:=hsz
  go_enter Tryz.func125,Tryz.ntmps125
  go_wp2_with fail
  go_loop [3] (fun i=>∃k:Nat,k≤s.size∧i=.int .i64 k∧(s.data.toList.take k).all zp=true) (fun i=>s.size-(intOf i).toNat)
  case atStart=>exact⟨0,Nat.zero_le _,rfl,rfl⟩
  case round =>
   obtain⟨k,hk,rfl,hall⟩:=hrel
   have Hall:=Lib.hid hall;clear hall
   by_cases hlt:k<s.size
   ·have Hst:=Lib.hid (zyo zp s k hlt)
    go_wp2_with fail
    all_goals (try simp only[Bool.not_eq_eq_eq_not,Bool.not_true,Bool.not_false,beq_eq_false_iff_ne,beq_iff_eq,decide_eq_false_iff_not,decide_eq_true_eq,ne_eq]at *)
    all_goals first
     |(have hf:zp s[k]=false:=by unfold zp;rw[decide_eq_false_iff_not];omega
       go_ret
       refine⟨?_,rfl⟩
       have h1:=Hst.out
       rw[hf,Bool.and_false]at h1
       simp[named,show zfx s=false from zvi _ _ _ h1];done)
     |(have hf:zp s[k]=true:=by unfold zp;rw[decide_eq_true_iff];omega
       go_round
       case rel=>exact⟨k+1,by omega,by go_num,by rw[Hst.out,Hall.out,hf];rfl⟩
       case measure=>simp[intOf];omega)
   ·go_wp2_with fail
    have:k=s.size:=by omega
    subst this
    go_ret
    have h3:=Hall.out
    rw[List.take_of_length_le (by simp)]at h3
    exact⟨by simp[named,h1,h2,show zfx s=true from h3],rfl⟩
 ·go_enter Tryz.func125,Tryz.ntmps125
  go_wp2_with fail
  all_goals
   go_ret
   exact⟨by simp[named,hsz],rfl⟩
theorem zd3 (s:ByteArray) (hs:s.size≤1073741824) (w:World) :
  Calls Tryz.prog 72 #[.string s] w fun e w'=>e=.returned (.bool (named s))∧w=w':=by
 go_enter Tryz.func72,Tryz.ntmps72
 go_wp2_with (refine(znw s _ hs).mono ?_;rintro e w' ⟨rfl,rfl⟩)
 go_ret
 exact⟨rfl,rfl⟩
theorem zha (s:ByteArray) (hs:s.size≤1073741824) (w:World) :
  Calls Tryz.prog 78 #[.string s] w fun e w'=>e=.returned (.tuple #[.string (zay s).1,.bool (zay s).2])∧w=w':=by
 have H:=Lib.hid (fun w=>zd3 s hs w)
 unfold zay
 cases hn:named s with
 |false =>
  rw[hn]at H
  go_enter Tryz.func78,Tryz.ntmps78
  go_wp2_with (refine(H.out _).mono ?_;rintro e w' ⟨rfl,rfl⟩)
  go_ret2
  exact⟨rfl,rfl⟩
 |true =>
  rw[hn]at H
  obtain⟨h1,h2⟩:=zee hn
  have h0:0<s.size:=by omega
  rw[if_pos rfl,zbs h0]
  clear hn
  have hc:=s[0].toNat_lt
  by_cases hb:(97:Int)≤(s[0].toNat:Nat)∧((s[0].toNat:Nat):Int)≤122
  ·rw[if_pos hb]
   obtain⟨b1,b2⟩:=hb
   have d1:decide ((97:Int)≤(s[0].toNat:Nat))=true:=decide_eq_true b1
   have d2:decide ((s[0].toNat:Int)≤122)=true:=decide_eq_true b2
   go_enter Tryz.func78,Tryz.ntmps78
   go_wp2_with (refine(H.out _).mono ?_;rintro e w' ⟨rfl,rfl⟩)
   go_ret2
   exact⟨rfl,rfl⟩
  ·rw[if_neg hb]
   by_cases b1:(97:Int)≤(s[0].toNat:Nat)
   ·have d1:decide ((97:Int)≤(s[0].toNat:Nat))=true:=decide_eq_true b1
    have d2:decide ((s[0].toNat:Int)≤122)=false:=decide_eq_false (fun h=>hb ⟨b1,h⟩)
    clear hb
    go_enter Tryz.func78,Tryz.ntmps78
    go_wp2_with (refine(H.out _).mono ?_;rintro e w' ⟨rfl,rfl⟩)
    go_ret2
    exact⟨rfl,rfl⟩
   ·have d1:decide ((97:Int)≤(s[0].toNat:Nat))=false:=decide_eq_false b1
    clear hb
    go_enter Tryz.func78,Tryz.ntmps78
    go_wp2_with (refine(H.out _).mono ?_;rintro e w' ⟨rfl,rfl⟩)
    go_ret2
    exact⟨rfl,rfl⟩
end Go.Proofs.YtnclgkdpafhogaaGreat
