/- The token at a place: the reference's one. Condition: a text of at most 2^30 bytes.
Plain: how a text is cut into tokens, step by step. No condition.
The reference's Tokens. Condition: a text of at most 1048576 bytes.
The reference's Cut. Condition: a text of at most 1048576 bytes.
Plain: a reading leaves the last token, if it is an end; a text read as a formula. No condition.
formula.counts, Upper, mayExpr. Condition: at most 4194304 parts.
The reference's table, counted, exprMay, varsMay, narrow. Condition: at most 4194304 parts. -/
import Derived.Test.YtnclgkdpafhogaaGreatQc14
import Derived.Test.YtnclgkdpafhogaaGreatQc3
import Derived.Deep.Light
import Derived.Test.YtnclgkdpafhogaaGreatQc13
import Derived.Test.YtnclgkdpafhogaaGreatQc1
set_option maxHeartbeats 16000000
set_option maxRecDepth 100000
namespace Go.Proofs.YtnclgkdpafhogaaGreat
open Go.ChangeShapes Go.WideShapes Go.ChangeAt Go.RowKit
theorem zn1 (s:ByteArray) (hs:s.size≤1073741824) (k:Nat) (hk:k<s.size) (w:World) (c1:97≤byt s k∧byt s k≤122) :
  Calls Tryz.prog 139 #[.string s,.int .i64 k] w (zx s k w):=by
 have hk':(k:Int)<(s.size:Nat):=by omega
 have hwk:IntKind.i64.wrap ((k:Int)+1)=(k:Int)+1:=IntWalk.i64_in _ (by omega)
 have hcl:=s[k].toNat_lt
 have hb:=zaj hk
 have q1:decide ((97:Int)≤(s[k].toNat:Nat))=true:=decide_eq_true (by omega)
 have q2:decide (((s[k].toNat:Nat):Int)≤122)=true:=decide_eq_true (by omega)
 have HW:=Lib.hid (fun w=>zgf s hs k (by omega) w)
 have h1:=zbu zt s k
 have h2:=zbv (p:=zt) (s:=s) (k:=k) (by omega)
 have HO:=Lib.hid (zbj (s:=s) (k:=k) (r:=zab zt s k) (n:=1) (by unfold zas;rw[if_pos c1]) (by decide))
 unfold zx
 generalize zab zt s k=r at HW h1 h2 HO
 have h1':(k:Int)≤(r:Nat):=by omega
 have h2':(r:Int)≤(s.size:Nat):=by omega
 clear hb
 go_enter Tryz.func139,Tryz.ntmps139
 go_wp2_with (refine(HW.out _).mono ?_;rintro e w' ⟨rfl,rfl⟩)
 refine bodyPost_ret (v:=.tuple #[.agg #[.int .i64 1,.string (s.extract k r),.int .i64 k],.int .i64 r]) (by simp[results,Tryz.results139,go_sem]) rfl ?_
 exact⟨⟨⟨1,s.extract k r,k⟩,by rw[HO.out.1];rfl,fun _=>HO.out.2.symm⟩,by go_grown⟩
theorem zn2 (s:ByteArray) (hs:s.size≤1073741824) (k:Nat) (hk:k<s.size) (w:World) (c1:¬(97≤byt s k∧byt s k≤122)) (c2:65≤byt s k∧byt s k≤90) :
  Calls Tryz.prog 139 #[.string s,.int .i64 k] w (zx s k w):=by
 have hk':(k:Int)<(s.size:Nat):=by omega
 have hwk:IntKind.i64.wrap ((k:Int)+1)=(k:Int)+1:=IntWalk.i64_in _ (by omega)
 have hcl:=s[k].toNat_lt
 have hb:=zaj hk
 have q3:decide ((65:Int)≤(s[k].toNat:Nat))=true:=decide_eq_true (by omega)
 have q4:decide (((s[k].toNat:Nat):Int)≤90)=true:=decide_eq_true (by omega)
 have q1:decide ((97:Int)≤(s[k].toNat:Nat))=false:=decide_eq_false (by omega)
 have HW:=Lib.hid (fun w=>zgf s hs k (by omega) w)
 have h1:=zbu zt s k
 have h2:=zbv (p:=zt) (s:=s) (k:=k) (by omega)
 have HO:=Lib.hid (zbj (s:=s) (k:=k) (r:=zab zt s k) (n:=2) (by unfold zas;rw[if_neg c1,if_pos c2]) (by decide))
 unfold zx
 generalize zab zt s k=r at HW h1 h2 HO
 have h1':(k:Int)≤(r:Nat):=by omega
 have h2':(r:Int)≤(s.size:Nat):=by omega
 clear hb
 go_enter Tryz.func139,Tryz.ntmps139
 go_wp2_with (refine(HW.out _).mono ?_;rintro e w' ⟨rfl,rfl⟩)
 refine bodyPost_ret (v:=.tuple #[.agg #[.int .i64 2,.string (s.extract k r),.int .i64 k],.int .i64 r]) (by simp[results,Tryz.results139,go_sem]) rfl ?_
 exact⟨⟨⟨2,s.extract k r,k⟩,by rw[HO.out.1];rfl,fun _=>HO.out.2.symm⟩,by go_grown⟩
theorem zn3 (s:ByteArray) (hs:s.size≤1073741824) (k:Nat) (hk:k<s.size) (w:World) (c1:¬(97≤byt s k∧byt s k≤122)) (c2:¬(65≤byt s k∧byt s k≤90)) (c3:48≤byt s k∧byt s k≤57) :
  Calls Tryz.prog 139 #[.string s,.int .i64 k] w (zx s k w):=by
 have hk':(k:Int)<(s.size:Nat):=by omega
 have hwk:IntKind.i64.wrap ((k:Int)+1)=(k:Int)+1:=IntWalk.i64_in _ (by omega)
 have hcl:=s[k].toNat_lt
 have hb:=zaj hk
 have HD:=Lib.hid (fun w=>za4 s[k] w)
 rw[za5 s k hk]at HD
 have hq:(decide ((97:Int)≤(s[k].toNat:Nat))=false∨(decide ((97:Int)≤(s[k].toNat:Nat))=true∧decide (((s[k].toNat:Nat):Int)≤122)=false))∧(decide ((65:Int)≤(s[k].toNat:Nat))=false∨(decide ((65:Int)≤(s[k].toNat:Nat))=true∧decide (((s[k].toNat:Nat):Int)≤90)=false)):=by
  rw[hb]at c1 c2
  simp only[decide_eq_false_iff_not,decide_eq_true_eq]
  omega
 rw[decide_eq_true c3]at HD
 have HO:=Lib.hid (zbj (s:=s) (k:=k) (r:=zab zbm s k) (n:=5) (by unfold zas;rw[if_neg c1,if_neg c2,if_pos c3]) (by decide))
 have d4:((s[k].toNat:Int)==36)=false:=by rw[beq_eq_false_iff_ne,←hb];omega
 clear c1 c2 c3 hb
 obtain⟨hq1,hq2⟩:=hq
 unfold zx
 rcases hq1 with hq1|⟨hq1,hq1'⟩<;>rcases hq2 with hq2|⟨hq2,hq2'⟩
 all_goals
  go_enter Tryz.func139,Tryz.ntmps139
  go_wp2_with (first|(go_at_call 174;refine(HD.out _).mono ?_;rintro e w' ⟨rfl,rfl⟩))
  go_loopw [8] (fun i wr=>∃j:Nat,k≤j∧j≤s.size∧i=.int .i64 j∧zab zbm s k=zab zbm s j∧wr=w.alloc (.cells #[.int .i64 0,.string ⟨#[]⟩,.int .i64 0] 77)) (fun i _=>s.size-(intOf i).toNat)
  case atStart=>exact⟨k,Nat.le_refl _,by omega,rfl,rfl,rfl⟩
  case round =>
   obtain⟨j,hkj,hj,rfl,heq,rfl⟩:=hrel
   have Heq:=Lib.hid heq;clear heq
   by_cases hlt:j<s.size
   ·have hlt':decide ((j:Int)<(s.size:Nat))=true:=decide_eq_true (by omega)
    have Hst:=Lib.hid (zcj (p:=zbm) hlt)
    cases hl:zbm s[j] with
    |false =>
     have Hj:=Lib.hid (show zab zbm s k=j by rw[Heq.out,Hst.out,hl,if_neg (by decide)])
     have hkj':(k:Int)≤(j:Nat):=by omega
     have hj':(j:Int)≤(s.size:Nat):=by omega
     have HDj:=Lib.hid (fun w=>za4 s[j] w)
     rw[hl]at HDj
     clear hl
     go_wp2_with (go_at_call 174;refine(HDj.out _).mono ?_;rintro e w' ⟨rfl,rfl⟩)
     refine bodyPost_ret (v:=.tuple #[.agg #[.int .i64 5,.string (s.extract k j),.int .i64 k],.int .i64 j]) (by simp[results,Tryz.results139,go_sem]) rfl ?_
     exact⟨⟨⟨5,s.extract k j,k⟩,by rw[HO.out.1,Hj.out];rfl,fun _=>by rw[HO.out.2,Hj.out]⟩,by go_grown⟩
    |true =>
     have HDj:=Lib.hid (fun w=>za4 s[j] w)
     rw[hl]at HDj
     have Hl:=Lib.hid hl
     clear hl
     go_wp2_with (go_at_call 174;refine(HDj.out _).mono ?_;rintro e w' ⟨rfl,rfl⟩)
     go_roundw
     case rel =>
      have h1:=Hst.out
      rw[Hl.out,if_pos rfl]at h1
      exact⟨j+1,by omega,by omega,by go_num,by rw[Heq.out,h1],by first|trivial|rfl⟩
     case measure=>simp[intOf];omega
   ·have hlt':decide ((j:Int)<(s.size:Nat))=false:=decide_eq_false (by omega)
    have Hj:=Lib.hid (show zab zbm s k=j by rw[Heq.out,zdo (by omega)])
    have hkj':(k:Int)≤(j:Nat):=by omega
    have hj':(j:Int)≤(s.size:Nat):=by omega
    go_wp2_with fail
    refine bodyPost_ret (v:=.tuple #[.agg #[.int .i64 5,.string (s.extract k j),.int .i64 k],.int .i64 j]) (by simp[results,Tryz.results139,go_sem]) rfl ?_
    exact⟨⟨⟨5,s.extract k j,k⟩,by rw[HO.out.1,Hj.out];rfl,fun _=>by rw[HO.out.2,Hj.out]⟩,by go_grown⟩
theorem zk2 (s:ByteArray) (hs:s.size≤1073741824) (k:Nat) (hk:k<s.size) (w:World) (c1:¬(97≤byt s k∧byt s k≤122)) (c2:¬(65≤byt s k∧byt s k≤90)) (c3:¬(48≤byt s k∧byt s k≤57)) (c4:byt s k=36) (hk1:k+1<s.size) (c5:97≤byt s (k+1)∧byt s (k+1)≤122) :
  Calls Tryz.prog 139 #[.string s,.int .i64 k] w (zx s k w):=by
 have hk':(k:Int)<(s.size:Nat):=by omega
 have hwk:IntKind.i64.wrap ((k:Int)+1)=(k:Int)+1:=IntWalk.i64_in _ (by omega)
 have hcl:=s[k].toNat_lt
 have hb:=zaj hk
 have HD:=Lib.hid (fun w=>za4 s[k] w)
 rw[za5 s k hk]at HD
 have hq:(decide ((97:Int)≤(s[k].toNat:Nat))=false∨(decide ((97:Int)≤(s[k].toNat:Nat))=true∧decide (((s[k].toNat:Nat):Int)≤122)=false))∧(decide ((65:Int)≤(s[k].toNat:Nat))=false∨(decide ((65:Int)≤(s[k].toNat:Nat))=true∧decide (((s[k].toNat:Nat):Int)≤90)=false)):=by
  rw[hb]at c1 c2
  simp only[decide_eq_false_iff_not,decide_eq_true_eq]
  omega
 rw[show decide (48≤byt s k∧byt s k≤57)=false from decide_eq_false c3]at HD
 have HW:=Lib.hid (fun w=>zgf s hs (k+1) (by omega) w)
 rw[show((k+1:Nat):Int)=(k:Int)+1 by omega]at HW
 have h1:=zbu zt s (k+1)
 have h2:=zbv (p:=zt) (s:=s) (k:=k+1) (by omega)
 have HO:=Lib.hid (zbj (s:=s) (k:=k) (r:=zab zt s (k+1)) (n:=3) (by unfold zas;rw[if_neg c1,if_neg c2,if_neg c3,if_pos c4,if_pos c5]) (by decide))
 have d4:((s[k].toNat:Int)==36)=true:=by rw[beq_iff_eq,←hb];exact c4
 have d5:decide ((k:Int)+1<(s.size:Nat))=true:=decide_eq_true (by omega)
 have d6:(k:Int)+1<(s.size:Nat):=by omega
 have hb1:=zaj hk1
 have p1:decide ((97:Int)≤(s[k+1].toNat:Nat))=true:=decide_eq_true (by omega)
 have p2:decide (((s[k+1].toNat:Nat):Int)≤122)=true:=decide_eq_true (by omega)
 generalize zab zt s (k+1)=r at HW h1 h2 HO
 have h1':(k:Int)≤(r:Nat):=by omega
 have h2':(r:Int)≤(s.size:Nat):=by omega
 clear c1 c2 c3 c4 c5 hb hb1
 obtain⟨hq1,hq2⟩:=hq
 unfold zx
 rcases hq1 with hq1|⟨hq1,hq1'⟩<;>rcases hq2 with hq2|⟨hq2,hq2'⟩
 all_goals
  go_enter Tryz.func139,Tryz.ntmps139
  go_wp2_with (first|(go_at_call 174;refine(HD.out _).mono ?_;rintro e w' ⟨rfl,rfl⟩)|(go_at_call 173;refine(HW.out _).mono ?_;rintro e w' ⟨rfl,rfl⟩))
  refine bodyPost_ret (v:=.tuple #[.agg #[.int .i64 3,.string (s.extract k r),.int .i64 k],.int .i64 r]) (by simp[results,Tryz.results139,go_sem]) rfl ?_
  exact⟨⟨⟨3,s.extract k r,k⟩,by rw[HO.out.1];rfl,fun _=>HO.out.2.symm⟩,by go_grown⟩
theorem zk3 (s:ByteArray) (hs:s.size≤1073741824) (k:Nat) (hk:k<s.size) (w:World) (c1:¬(97≤byt s k∧byt s k≤122)) (c2:¬(65≤byt s k∧byt s k≤90)) (c3:¬(48≤byt s k∧byt s k≤57)) (c4:byt s k=36) (hk1:k+1<s.size) (c5:byt s (k+1)<97) :
  Calls Tryz.prog 139 #[.string s,.int .i64 k] w (zx s k w):=by
 have hk':(k:Int)<(s.size:Nat):=by omega
 have hwk:IntKind.i64.wrap ((k:Int)+1)=(k:Int)+1:=IntWalk.i64_in _ (by omega)
 have hcl:=s[k].toNat_lt
 have hb:=zaj hk
 have HD:=Lib.hid (fun w=>za4 s[k] w)
 rw[za5 s k hk]at HD
 have hq:(decide ((97:Int)≤(s[k].toNat:Nat))=false∨(decide ((97:Int)≤(s[k].toNat:Nat))=true∧decide (((s[k].toNat:Nat):Int)≤122)=false))∧(decide ((65:Int)≤(s[k].toNat:Nat))=false∨(decide ((65:Int)≤(s[k].toNat:Nat))=true∧decide (((s[k].toNat:Nat):Int)≤90)=false)):=by
  rw[hb]at c1 c2
  simp only[decide_eq_false_iff_not,decide_eq_true_eq]
  omega
 rw[show decide (48≤byt s k∧byt s k≤57)=false from decide_eq_false c3]at HD
 have HO:=Lib.hid (zbj (s:=s) (k:=k) (r:=k) (n:=3) (by unfold zas;rw[if_neg c1,if_neg c2,if_neg c3,if_pos c4,if_neg (by omega)]) (by decide))
 have d4:((s[k].toNat:Int)==36)=true:=by rw[beq_iff_eq,←hb];exact c4
 have d5:decide ((k:Int)+1<(s.size:Nat))=true:=decide_eq_true (by omega)
 have d6:(k:Int)+1<(s.size:Nat):=by omega
 have hb1:=zaj hk1
 have p1:decide ((97:Int)≤(s[k+1].toNat:Nat))=false:=decide_eq_false (by omega)
 clear c1 c2 c3 c4 c5 hb hb1
 have hsl:=fun w=>zdh s k k k k rfl rfl (Nat.le_refl _) (by omega) w
 generalize s.extract k k=tx at hsl
 obtain⟨hq1,hq2⟩:=hq
 unfold zx
 rcases hq1 with hq1|⟨hq1,hq1'⟩<;>rcases hq2 with hq2|⟨hq2,hq2'⟩
 all_goals
  go_enter Tryz.func139,Tryz.ntmps139
  go_wp2_with (first|(go_at_call 174;refine(HD.out _).mono ?_;rintro e w' ⟨rfl,rfl⟩))
  refine bodyPost_ret (v:=.tuple #[.agg #[.int .i64 3,.string tx,.int .i64 k],.int .i64 k]) (by simp[results,Tryz.results139,go_sem]) rfl ?_
  exact⟨⟨⟨3,tx,k⟩,by rw[HO.out.1];rfl,fun h=>by rw[HO.out.1]at h;exact absurd h (Nat.lt_irrefl _)⟩,by go_grown⟩
theorem zk4 (s:ByteArray) (hs:s.size≤1073741824) (k:Nat) (hk:k<s.size) (w:World) (c1:¬(97≤byt s k∧byt s k≤122)) (c2:¬(65≤byt s k∧byt s k≤90)) (c3:¬(48≤byt s k∧byt s k≤57)) (c4:byt s k=36) (hk1:k+1<s.size) (_c6:97≤byt s (k+1)) (c5:122<byt s (k+1)) :
  Calls Tryz.prog 139 #[.string s,.int .i64 k] w (zx s k w):=by
 have hk':(k:Int)<(s.size:Nat):=by omega
 have hwk:IntKind.i64.wrap ((k:Int)+1)=(k:Int)+1:=IntWalk.i64_in _ (by omega)
 have hcl:=s[k].toNat_lt
 have hb:=zaj hk
 have HD:=Lib.hid (fun w=>za4 s[k] w)
 rw[za5 s k hk]at HD
 have hq:(decide ((97:Int)≤(s[k].toNat:Nat))=false∨(decide ((97:Int)≤(s[k].toNat:Nat))=true∧decide (((s[k].toNat:Nat):Int)≤122)=false))∧(decide ((65:Int)≤(s[k].toNat:Nat))=false∨(decide ((65:Int)≤(s[k].toNat:Nat))=true∧decide (((s[k].toNat:Nat):Int)≤90)=false)):=by
  rw[hb]at c1 c2
  simp only[decide_eq_false_iff_not,decide_eq_true_eq]
  omega
 rw[show decide (48≤byt s k∧byt s k≤57)=false from decide_eq_false c3]at HD
 have HO:=Lib.hid (zbj (s:=s) (k:=k) (r:=k) (n:=3) (by unfold zas;rw[if_neg c1,if_neg c2,if_neg c3,if_pos c4,if_neg (by omega)]) (by decide))
 have d4:((s[k].toNat:Int)==36)=true:=by rw[beq_iff_eq,←hb];exact c4
 have d5:decide ((k:Int)+1<(s.size:Nat))=true:=decide_eq_true (by omega)
 have d6:(k:Int)+1<(s.size:Nat):=by omega
 have hb1:=zaj hk1
 have p1:decide ((97:Int)≤(s[k+1].toNat:Nat))=true:=decide_eq_true (by omega)
 have p2:decide (((s[k+1].toNat:Nat):Int)≤122)=false:=decide_eq_false (by omega)
 clear c1 c2 c3 c4 c5 _c6 hb hb1
 have hsl:=fun w=>zdh s k k k k rfl rfl (Nat.le_refl _) (by omega) w
 generalize s.extract k k=tx at hsl
 obtain⟨hq1,hq2⟩:=hq
 unfold zx
 rcases hq1 with hq1|⟨hq1,hq1'⟩<;>rcases hq2 with hq2|⟨hq2,hq2'⟩
 all_goals
  go_enter Tryz.func139,Tryz.ntmps139
  go_wp2_with (first|(go_at_call 174;refine(HD.out _).mono ?_;rintro e w' ⟨rfl,rfl⟩))
  refine bodyPost_ret (v:=.tuple #[.agg #[.int .i64 3,.string tx,.int .i64 k],.int .i64 k]) (by simp[results,Tryz.results139,go_sem]) rfl ?_
  exact⟨⟨⟨3,tx,k⟩,by rw[HO.out.1];rfl,fun h=>by rw[HO.out.1]at h;exact absurd h (Nat.lt_irrefl _)⟩,by go_grown⟩
theorem zk5 (s:ByteArray) (hs:s.size≤1073741824) (k:Nat) (hk:k<s.size) (w:World) (c1:¬(97≤byt s k∧byt s k≤122)) (c2:¬(65≤byt s k∧byt s k≤90)) (c3:¬(48≤byt s k∧byt s k≤57)) (c4:byt s k=36) (hk1:¬k+1<s.size) :
  Calls Tryz.prog 139 #[.string s,.int .i64 k] w (zx s k w):=by
 have hk':(k:Int)<(s.size:Nat):=by omega
 have hwk:IntKind.i64.wrap ((k:Int)+1)=(k:Int)+1:=IntWalk.i64_in _ (by omega)
 have hcl:=s[k].toNat_lt
 have hb:=zaj hk
 have HD:=Lib.hid (fun w=>za4 s[k] w)
 rw[za5 s k hk]at HD
 have hq:(decide ((97:Int)≤(s[k].toNat:Nat))=false∨(decide ((97:Int)≤(s[k].toNat:Nat))=true∧decide (((s[k].toNat:Nat):Int)≤122)=false))∧(decide ((65:Int)≤(s[k].toNat:Nat))=false∨(decide ((65:Int)≤(s[k].toNat:Nat))=true∧decide (((s[k].toNat:Nat):Int)≤90)=false)):=by
  rw[hb]at c1 c2
  simp only[decide_eq_false_iff_not,decide_eq_true_eq]
  omega
 rw[show decide (48≤byt s k∧byt s k≤57)=false from decide_eq_false c3]at HD
 have HO:=Lib.hid (zbj (s:=s) (k:=k) (r:=k) (n:=3) (by unfold zas;rw[if_neg c1,if_neg c2,if_neg c3,if_pos c4,if_neg (by rw[zci (by omega)];omega)]) (by decide))
 have d4:((s[k].toNat:Int)==36)=true:=by rw[beq_iff_eq,←hb];exact c4
 have d5:decide ((k:Int)+1<(s.size:Nat))=false:=decide_eq_false (by omega)
 clear c1 c2 c3 c4 hb
 have hsl:=fun w=>zdh s k k k k rfl rfl (Nat.le_refl _) (by omega) w
 generalize s.extract k k=tx at hsl
 obtain⟨hq1,hq2⟩:=hq
 unfold zx
 rcases hq1 with hq1|⟨hq1,hq1'⟩<;>rcases hq2 with hq2|⟨hq2,hq2'⟩
 all_goals
  go_enter Tryz.func139,Tryz.ntmps139
  go_wp2_with (first|(go_at_call 174;refine(HD.out _).mono ?_;rintro e w' ⟨rfl,rfl⟩))
  refine bodyPost_ret (v:=.tuple #[.agg #[.int .i64 3,.string tx,.int .i64 k],.int .i64 k]) (by simp[results,Tryz.results139,go_sem]) rfl ?_
  exact⟨⟨⟨3,tx,k⟩,by rw[HO.out.1];rfl,fun h=>by rw[HO.out.1]at h;exact absurd h (Nat.lt_irrefl _)⟩,by go_grown⟩
theorem zmj (s:ByteArray) (hs:s.size≤1073741824) (k:Nat) (hk:k<s.size) (w:World) (c1:¬(97≤byt s k∧byt s k≤122)) (c2:¬(65≤byt s k∧byt s k≤90)) (c3:¬(48≤byt s k∧byt s k≤57)) (c4:byt s k=39) (c5:k<zw s k) :
  Calls Tryz.prog 139 #[.string s,.int .i64 k] w (zx s k w):=by
 have hk':(k:Int)<(s.size:Nat):=by omega
 have hwk:IntKind.i64.wrap ((k:Int)+1)=(k:Int)+1:=IntWalk.i64_in _ (by omega)
 have hcl:=s[k].toNat_lt
 have hb:=zaj hk
 have HD:=Lib.hid (fun w=>za4 s[k] w)
 rw[za5 s k hk]at HD
 have hq:(decide ((97:Int)≤(s[k].toNat:Nat))=false∨(decide ((97:Int)≤(s[k].toNat:Nat))=true∧decide (((s[k].toNat:Nat):Int)≤122)=false))∧(decide ((65:Int)≤(s[k].toNat:Nat))=false∨(decide ((65:Int)≤(s[k].toNat:Nat))=true∧decide (((s[k].toNat:Nat):Int)≤90)=false)):=by
  rw[hb]at c1 c2
  simp only[decide_eq_false_iff_not,decide_eq_true_eq]
  omega
 have HW:=Lib.hid (fun w=>zgp s hs k hk w)
 have hq2:=@zdg s k
 have hqq:=zc2 hk
 have hq0:=zc1 s k
 have HO:=Lib.hid (zep (s:=s) (k:=k) (r:=zw s k) (by unfold zas;rw[if_neg c1,if_neg c2,if_neg c3,if_neg (by omega),if_pos c4]))
 have d4:((s[k].toNat:Int)==36)=false:=by rw[beq_eq_false_iff_ne,←hb];omega
 have d5:((s[k].toNat:Int)==39)=true:=by rw[beq_iff_eq,←hb];exact c4
 rw[show decide (48≤byt s k∧byt s k≤57)=false from decide_eq_false c3]at HD
 have h2:=hq2 c5
 clear hq2
 generalize zw s k=r at *
 have d6:((r:Int)==(k:Nat))=false:=by rw[beq_eq_false_iff_ne];omega
 have d9:IntKind.i64.wrap ((r:Int)-1)=(r:Int)-1:=IntWalk.i64_in _ (by omega)
 have hsl:=fun w=>zdh s (k+1) (r-1) ((k:Int)+1) ((r:Int)-1) (by omega) (by omega) (by omega) (by omega) w
 generalize s.extract (k+1) (r-1)=tx at hsl HO
 clear c1 c2 c3 c4 hb
 obtain⟨hq1,hq2⟩:=hq
 unfold zx
 rcases hq1 with hq1|⟨hq1,hq1'⟩<;>rcases hq2 with hq2|⟨hq2,hq2'⟩
 all_goals
  go_enter Tryz.func139,Tryz.ntmps139
  go_wp2_with (first|(go_at_call 174;refine(HD.out _).mono ?_;rintro e w' ⟨rfl,rfl⟩)|(go_at_call 175;refine(HW.out _).mono ?_;rintro e w' ⟨rfl,rfl⟩))
  refine bodyPost_ret (v:=.tuple #[.agg #[.int .i64 4,.string tx,.int .i64 k],.int .i64 r]) (by simp[results,Tryz.results139,go_sem]) rfl ?_
  exact⟨⟨⟨4,tx,k⟩,by rw[HO.out.1];rfl,fun _=>HO.out.2.symm⟩,by go_grown⟩
theorem zmk (s:ByteArray) (hs:s.size≤1073741824) (k:Nat) (hk:k<s.size) (w:World) (c1:¬(97≤byt s k∧byt s k≤122)) (c2:¬(65≤byt s k∧byt s k≤90)) (c3:¬(48≤byt s k∧byt s k≤57)) (c4:byt s k=39) (c5:¬k<zw s k) :
  Calls Tryz.prog 139 #[.string s,.int .i64 k] w (zx s k w):=by
 have hk':(k:Int)<(s.size:Nat):=by omega
 have hwk:IntKind.i64.wrap ((k:Int)+1)=(k:Int)+1:=IntWalk.i64_in _ (by omega)
 have hcl:=s[k].toNat_lt
 have hb:=zaj hk
 have HD:=Lib.hid (fun w=>za4 s[k] w)
 rw[za5 s k hk]at HD
 have hq:(decide ((97:Int)≤(s[k].toNat:Nat))=false∨(decide ((97:Int)≤(s[k].toNat:Nat))=true∧decide (((s[k].toNat:Nat):Int)≤122)=false))∧(decide ((65:Int)≤(s[k].toNat:Nat))=false∨(decide ((65:Int)≤(s[k].toNat:Nat))=true∧decide (((s[k].toNat:Nat):Int)≤90)=false)):=by
  rw[hb]at c1 c2
  simp only[decide_eq_false_iff_not,decide_eq_true_eq]
  omega
 have HW:=Lib.hid (fun w=>zgp s hs k hk w)
 have hq2:=@zdg s k
 have hqq:=zc2 hk
 have hq0:=zc1 s k
 have HO:=Lib.hid (zep (s:=s) (k:=k) (r:=zw s k) (by unfold zas;rw[if_neg c1,if_neg c2,if_neg c3,if_neg (by omega),if_pos c4]))
 have d4:((s[k].toNat:Int)==36)=false:=by rw[beq_eq_false_iff_ne,←hb];omega
 have d5:((s[k].toNat:Int)==39)=true:=by rw[beq_iff_eq,←hb];exact c4
 rw[show decide (48≤byt s k∧byt s k≤57)=false from decide_eq_false c3]at HD
 clear hq2
 have HE:=Lib.hid (show zw s k=k by omega)
 rw[HE.out]at HW HO
 have d6:((k:Int)==(k:Nat))=true:=by rw[beq_iff_eq]
 clear c1 c2 c3 c4 c5 hb hqq hq0
 obtain⟨hq1,hq2⟩:=hq
 unfold zx
 rcases hq1 with hq1|⟨hq1,hq1'⟩<;>rcases hq2 with hq2|⟨hq2,hq2'⟩
 all_goals
  go_enter Tryz.func139,Tryz.ntmps139
  go_wp2_with (first|(go_at_call 174;refine(HD.out _).mono ?_;rintro e w' ⟨rfl,rfl⟩)|(go_at_call 175;refine(HW.out _).mono ?_;rintro e w' ⟨rfl,rfl⟩))
  refine bodyPost_ret (v:=.tuple #[.agg #[.int .i64 0,.string ⟨#[]⟩,.int .i64 0],.int .i64 k]) (by simp[results,Tryz.results139,go_sem]) rfl ?_
  exact⟨⟨⟨0,⟨#[]⟩,0⟩,by rw[HO.out.1];rfl,fun h=>by rw[HO.out.1]at h;exact absurd h (Nat.lt_irrefl _)⟩,by go_grown⟩
theorem zq7 (s:ByteArray) (hs:s.size≤1073741824) (k:Nat) (hk:k<s.size) (w:World) (c1:¬(97≤byt s k∧byt s k≤122)) (c2:¬(65≤byt s k∧byt s k≤90)) (c3:¬(48≤byt s k∧byt s k≤57)) (c4:¬byt s k=36) (c5:¬byt s k=39) :
  Calls Tryz.prog 139 #[.string s,.int .i64 k] w (zx s k w):=by
 have hk':(k:Int)<(s.size:Nat):=by omega
 have hwk:IntKind.i64.wrap ((k:Int)+1)=(k:Int)+1:=IntWalk.i64_in _ (by omega)
 have hcl:=s[k].toNat_lt
 have hb:=zaj hk
 have HD:=Lib.hid (fun w=>za4 s[k] w)
 rw[za5 s k hk]at HD
 have hq:(decide ((97:Int)≤(s[k].toNat:Nat))=false∨(decide ((97:Int)≤(s[k].toNat:Nat))=true∧decide (((s[k].toNat:Nat):Int)≤122)=false))∧(decide ((65:Int)≤(s[k].toNat:Nat))=false∨(decide ((65:Int)≤(s[k].toNat:Nat))=true∧decide (((s[k].toNat:Nat):Int)≤90)=false)):=by
  rw[hb]at c1 c2
  simp only[decide_eq_false_iff_not,decide_eq_true_eq]
  omega
 rw[show decide (48≤byt s k∧byt s k≤57)=false from decide_eq_false c3]at HD
 have hsz:(s.extract k s.size).size=s.size-k:=by simp
 have hsl:=zhx (s.data.toList.drop k)
 rw[show(s.data.toList.drop k).length=s.size-k by simp]at hsl
 have HX:=Lib.hid (fun w=>zq3 (s.extract k s.size) (by omega) w)
 rw[Lib.extract_to_end]at HX
 have HO:=Lib.hid (zbj (s:=s) (k:=k) (r:=k+zcm (s.data.toList.drop k)) (n:=6) (by unfold zas;rw[if_neg c1,if_neg c2,if_neg c3,if_neg c4,if_neg c5]) (by decide))
 have d4:((s[k].toNat:Int)==36)=false:=by rw[beq_eq_false_iff_ne,←hb];exact c4
 have d5:((s[k].toNat:Int)==39)=false:=by rw[beq_eq_false_iff_ne,←hb];exact c5
 generalize zcm (s.data.toList.drop k)=n at HX hsl HO
 have hn:(k:Int)+(n:Nat)≤(s.size:Nat):=by omega
 have hn0:(0:Int)≤(n:Nat):=by omega
 have hsl2:=fun w=>zdh s k (k+n) (k:Int) ((k:Int)+(n:Nat)) rfl (by omega) (by omega) (by omega) w
 generalize s.extract k (k+n)=tx at hsl2 HO
 clear c1 c2 c3 c4 c5 hsl hb
 obtain⟨W,hW⟩:∃W,W=w.alloc (.cells #[.int .i64 0,.string ⟨#[]⟩,.int .i64 0] 77):=⟨_,rfl⟩
 have hx:Ext w W:=by subst hW;go_grown
 have ho:=own3 w (.int .i64 0) (.string ⟨#[]⟩) (.int .i64 0) 77
 rw[←hW]at ho
 obtain⟨hq1,hq2⟩:=hq
 unfold zx
 rcases hq1 with hq1|⟨hq1,hq1'⟩<;>rcases hq2 with hq2|⟨hq2,hq2'⟩
 all_goals
  go_enter Tryz.func139,Tryz.ntmps139
  go_wp2_with (first|(go_at_call 174;refine(HD.out _).mono ?_;rintro e w' ⟨rfl,rfl⟩)|(go_at_call 176;rw[←hW];clear hW;refine(HX.out _).mono ?_;rintro e w' ⟨rfl,hw'⟩;have ho1:=ho.ext hw';obtain⟨t0,u0⟩:=ho1 0 _ rfl;obtain⟨t1,u1⟩:=ho1 1 _ rfl;obtain⟨t2,u2⟩:=ho1 2 _ rfl))
  have hf:=zbt ho1 (.int .i64 6) (.string tx) (.int .i64 k)
  have r0:=(hf 0 (.int .i64 6) rfl).1
  have r1:=(hf 1 (.string tx) rfl).1
  have r2:=(hf 2 (.int .i64 k) rfl).1
  refine bodyPost_ret (v:=.tuple #[.agg #[.int .i64 6,.string tx,.int .i64 k],.int .i64 ((k:Int)+(n:Nat))]) (by simp[results,Tryz.results139,go_sem,r0,r1,r2]) rfl ?_
  exact⟨⟨⟨6,tx,k⟩,by rw[HO.out.1];rfl,fun _=>HO.out.2.symm⟩,Chg.ext (S:=[w.heap.size]) (hx.trans hw') (zcc _ _ _ _ _) (by simp)⟩
theorem zn4 (s:ByteArray) (hs:s.size≤1073741824) (k:Nat) (hk:k<s.size) (w:World):Calls Tryz.prog 139 #[.string s,.int .i64 k] w (zx s k w):=by
 by_cases c1:97≤byt s k∧byt s k≤122
 ·exact zn1 s hs k hk w c1
 by_cases c2:65≤byt s k∧byt s k≤90
 ·exact zn2 s hs k hk w c1 c2
 by_cases c3:48≤byt s k∧byt s k≤57
 ·exact zn3 s hs k hk w c1 c2 c3
 by_cases c4:byt s k=36
 ·by_cases h1:k+1<s.size
  ·by_cases c5:byt s (k+1)<97
   ·exact zk3 s hs k hk w c1 c2 c3 c4 h1 c5
   ·by_cases c6:122<byt s (k+1)
    ·exact zk4 s hs k hk w c1 c2 c3 c4 h1 (by omega) c6
    ·exact zk2 s hs k hk w c1 c2 c3 c4 h1 (by omega)
  ·exact zk5 s hs k hk w c1 c2 c3 c4 h1
 by_cases c5:byt s k=39
 ·by_cases h1:k<zw s k
  ·exact zmj s hs k hk w c1 c2 c3 c5 h1
  ·exact zmk s hs k hk w c1 c2 c3 c5 h1
 ·exact zq7 s hs k hk w c1 c2 c3 c4 c5
inductive CStep where
 |done
 |skip (k:Nat)
 |bad (e:Int)
 |tok (t:Tok) (k:Nat)
def zad (s:ByteArray) (k:Nat):CStep :=
 if s.size≤k then .done
 else if byt s k=32∨byt s k=9∨byt s k=10∨byt s k=13 then .skip (k+1)
 else if z6 s k≠k then .skip (z6 s k)
 else if zbs s k=k then .bad 220
 else if (zb6 s k).kind≠6∧40<(zb6 s k).text.size then .bad 3
 else .tok (zb6 s k) (zbs s k)
def ze0 (s:ByteArray):Tok:=⟨7,⟨#[]⟩,s.size⟩
def zig (s:ByteArray):Nat→Nat→List Tok×Nat×Int
 |0,_=>([],0,0)
 |f+1,k=>match zad s k with
  |.done=>([ze0 s],0,0)
  |.skip k'=>zig s f k'
  |.bad e=>([],k,e)
  |.tok t k'=>(t::(zig s f k').1,(zig s f k').2)
theorem zts {s:ByteArray}{i j:Nat}(h:zbw s i=some j):i+2≤j:=by
 unfold zbw at h
 split at h
 ·injection h with h;omega
 ·cases h
theorem zli {s:ByteArray}{i j:Nat}(hi:i≤s.size) (h:zbw s i=some j):j≤s.size:=by
 by_cases h1:i<s.size
 ·rw[zey h1]at h
  split at h
  ·rename_i hc
   injection h with h
   rcases Nat.lt_or_ge (i+1) s.size with h2|h2
   ·omega
   ·have:=hc.2;rw[zci h2]at this;omega
  ·exact zli (by omega) h
 ·rw[zjc (by omega)]at h;cases h
termination_by s.size-i
theorem ze1 (s:ByteArray) (k:Nat):k≤z6 s k:=by
 unfold z6
 split
 ·exact zbu _ _ _
 ·split
  ·cases h:zbw s (k+2) with
   |none=>exact Nat.le_refl _
   |some j=>have:=zts h;simp;omega
  ·exact Nat.le_refl _
theorem ze2 {s:ByteArray}{k:Nat}(hk:k<s.size):z6 s k≤s.size:=by
 unfold z6
 split
 ·exact zbv (by omega)
 ·split
  ·rename_i hc
   cases h:zbw s (k+2) with
   |none=>simp;omega
   |some j =>
    have:k+1<s.size:=by
     rcases Nat.lt_or_ge (k+1) s.size with h2|h2
     ·exact h2
     ·have:=hc.2;rw[zci h2]at this;omega
    exact zli (by omega) h
  ·omega
theorem zjg {s:ByteArray}{k:Nat}(h1:byt s k≠37) (h2:byt s k≠47):z6 s k=k:=by
 unfold z6
 rw[if_neg h1,if_neg (fun h=>h2 h.1)]
theorem zdx {s:ByteArray}{k k':Nat}(h:zad s k=.skip k'):k<k'∧k'≤s.size:=by
 unfold zad at h
 split at h
 ·cases h
 ·rename_i hk
  split at h
  ·injection h with h;omega
  ·split at h
   ·rename_i hr
    injection h with h
    have:=ze1 s k
    have:=ze2 (s:=s) (k:=k) (by omega)
    omega
   ·split at h
    ·cases h
    ·split at h<;>cases h
theorem zeq {s:ByteArray}{k k':Nat}{t:Tok}(h:zad s k=.tok t k'):k<k'∧k'≤s.size∧k<s.size∧t=zb6 s k∧k'=zbs s k:=by
 unfold zad at h
 split at h
 ·cases h
 ·rename_i hk
  split at h
  ·cases h
  ·split at h
   ·cases h
   ·split at h
    ·cases h
    ·rename_i ho
     split at h
     ·cases h
     ·injection h with h1 h2
      have:=zje s k
      have:=zjf (s:=s) (k:=k) (by omega)
      exact⟨by omega,by omega,by omega,h1.symm,h2.symm⟩
theorem zer {s:ByteArray}:∀ {f g k:Nat},s.size<f+k→s.size<g+k→k≤s.size→zig s f k=zig s g k
 |0,_,_,h,_,_=>by omega
 |_+1,0,_,_,h,_=>by omega
 |f+1,g+1,k,h1,h2,hk=>by
  unfold zig
  cases hc:zad s k with
  |done=>rfl
  |skip k'=>obtain⟨h3,h4⟩:=zdx hc;exact zer (by omega) (by omega) h4
  |bad e=>rfl
  |tok t k' =>
   obtain⟨h3,h4,-⟩:=zeq hc
   simp only
   rw[zer (f:=f) (g:=g) (by omega) (by omega) h4]
def zr (s:ByteArray) (k:Nat):List Tok×Nat×Int:=zig s (s.size+1-k) k
theorem zfm {s:ByteArray}{k:Nat}(hk:k≤s.size):zr s k=match zad s k with
  |.done=>([ze0 s],0,0)
  |.skip k'=>zr s k'
  |.bad e=>([],k,e)
  |.tok t k'=>(t::(zr s k').1,(zr s k').2):=by
 unfold zr
 rw[show s.size+1-k=(s.size-k)+1 by omega]
 conv=>lhs;unfold zig
 cases hc:zad s k with
 |done=>rfl
 |skip k' =>
  obtain⟨h3,h4⟩:=zdx hc
  exact zer (by omega) (by omega) h4
 |bad e=>rfl
 |tok t k' =>
  obtain⟨h3,h4,-⟩:=zeq hc
  simp only
  rw[zer (f:=s.size-k) (g:=s.size+1-k') (by omega) (by omega) h4]
theorem zn5 (s:ByteArray) (k:Nat):1≤(zas s k).1∧(zas s k).1≤6:=by
 unfold zas
 repeat' split
 all_goals (simp only;omega)
theorem zn6 {s:ByteArray}(hs:s.size≤1073741824){k:Nat}(hk:k<s.size):(zb6 s k).ok:=by
 obtain⟨h1,h2⟩:=zn5 s k
 refine⟨⟨by unfold zb6;simp only;omega,by unfold zb6;simp only;omega⟩,?_,by unfold zb6;simp only;omega,by unfold zb6;simp only;omega⟩
 unfold zb6
 simp only
 split<;>simp<;>omega
theorem zn7 {s:ByteArray}(hs:s.size≤1073741824):(ze0 s).ok:=⟨by unfold ze0;simp,by unfold ze0;exact Nat.zero_le _,by unfold ze0;simp only;omega,by unfold ze0;simp only;omega⟩
theorem zvf (s:ByteArray) (k:Nat) (hk:k<s.size):zsi s[k]=decide (byt s k=32∨byt s k=9∨byt s k=10∨byt s k=13):=by
 rw[zaj hk];unfold zsi;rw[Bool.eq_iff_iff];simp;omega
theorem zq8 (l:List Tok):(l.map Tok.dat).length=l.length:=by simp
def TokRow (B:Nat) (w:World) (v:Value) (l:List Tok):Prop:=GRow (zz 3) 77 B w v (l.map Tok.dat)
theorem zml (s:ByteArray) (hs:s.size≤1048576) (w:World) :
  Calls Tryz.prog 88 #[.string s] w fun e w'=>(∃v,e=.returned (.tuple #[v,.int .i64 ((zr s 0).2.1:Nat),.int .i64 (zr s 0).2.2])∧TokRow w.heap.size w' v (zr s 0).1)∧Ext w w':=by
 have hs':s.size≤1073741824:=by omega
 obtain⟨i0,hi0,hz0,hz1',hz2'⟩:=info_parts zv5
 go_enter Tryz.func88,Tryz.ntmps88
 go_wp2_with fail
 go_loopw [2,3] (fun lv at' wr=>∃(k:Nat) (pre:List Tok) (va:Option Addr) (vc:Nat),k≤s.size∧pre.length≤k∧lv=.slice va pre.length vc∧at'=.int .i64 k∧TokRow w.heap.size wr (.slice va pre.length vc) pre∧zr s 0=(pre++(zr s k).1,(zr s k).2)∧Ext w wr) (fun _ i _=>s.size-(intOf i).toNat)
 case atStart=>exact⟨0,[],none,0,Nat.zero_le _,Nat.le_refl _,rfl,rfl,GRow.nil,by simp,Below.refl _ _⟩
 case round =>
  obtain⟨k,pre,va,vc,hk,hpk,rfl,rfl,hrow,heq,hext⟩:=hrel
  have HEQ:=Lib.hid heq;clear heq
  have HST:=Lib.hid (zfm hk)
  have HDL:=Lib.hid (zq8 pre)
  have HROW:=Lib.hid hrow;clear hrow
  have hpl:pre.length≤1048576:=by omega
  by_cases hlt:k<s.size
  ·have hlt':decide ((k:Int)<(s.size:Nat))=true:=decide_eq_true (by omega)
   have HB:=Lib.hid (fun w=>znq s[k] w)
   rw[zvf s k hlt]at HB
   by_cases c1:byt s k=32∨byt s k=9∨byt s k=10∨byt s k=13
   ·rw[decide_eq_true c1]at HB
    have HC:=Lib.hid (show zad s k=.skip (k+1) by unfold zad;rw[if_neg (by omega),if_pos c1])
    clear c1
    go_wp2_with (go_at_call 137;refine(HB.out _).mono ?_;rintro e w' ⟨rfl,rfl⟩)
    go_roundw
    case rel=>exact⟨k+1,pre,va,vc,by omega,by omega,rfl,by go_num,HROW.out,by rw[HEQ.out,HST.out,HC.out],hext⟩
    case measure=>simp[intOf];omega
   rw[show decide (byt s k=32∨byt s k=9∨byt s k=10∨byt s k=13)=false from decide_eq_false c1]at HB
   have HR:=Lib.hid (fun w=>zmg s hs' k hlt w)
   have hr1:=ze1 s k
   have hr2:=ze2 hlt
   by_cases c2:z6 s k≠k
   ·have HC:=Lib.hid (show zad s k=.skip (z6 s k) by unfold zad;rw[if_neg (by omega),if_neg c1,if_pos c2])
    generalize z6 s k=r at HR hr1 hr2 c2 HC
    have d2:decide ((k:Int)<(r:Nat))=true:=decide_eq_true (by omega)
    clear c1
    go_wp2_with (first|(go_at_call 137;refine(HB.out _).mono ?_;rintro e w' ⟨rfl,rfl⟩)|(go_at_call 138;refine(HR.out _).mono ?_;rintro e w' ⟨rfl,rfl⟩))
    go_roundw
    case rel=>exact⟨r,pre,va,vc,by omega,by omega,rfl,by go_num,HROW.out,by rw[HEQ.out,HST.out,HC.out],hext⟩
    case measure=>simp[intOf];omega
   have c2':z6 s k=k:=by omega
   rw[c2']at HR
   have HO:=Lib.hid (fun w=>zn4 s hs' k hlt w)
   unfold zx at HO
   have he1:=zje s k
   have he2:=zjf hlt
   have HTOK:=Lib.hid (zn6 hs' hlt)
   by_cases c3:zbs s k=k
   ·have HC:=Lib.hid (show zad s k=.bad 220 by unfold zad;rw[if_neg (by omega),if_neg c1,if_neg c2,if_pos c3])
    rw[c3]at HO
    clear c1 c2 c2' c3 hr1 hr2 he1 he2
    go_wp2_with (first|(go_at_call 137;refine(HB.out _).mono ?_;rintro e w' ⟨rfl,rfl⟩)|(go_at_call 138;refine(HR.out _).mono ?_;rintro e w' ⟨rfl,rfl⟩)|(go_at_call 139;refine(HO.out _).mono ?_;rintro e w1 ⟨⟨⟨kd,tx,ta⟩,rfl,-⟩,hx1⟩;simp only[Tok.vals]))
    go_ret3
    have he:=HEQ.out
    rw[HST.out,HC.out]at he
    refine⟨⟨_,by rw[he];rfl,?_⟩,hext.trans (hx1.trans (zd _ _))⟩
    rw[he]
    simp only[List.append_nil]
    exact GRow.ext HROW.out (hx1.trans (zd _ _))
   have HT:=Lib.hid (fun t (h:k<zbs s k→t=zb6 s k)=>h (by omega))
   have hek:k<zbs s k:=by omega
   have HCC:=Lib.hid (show zad s k=if (zb6 s k).kind≠6∧40<(zb6 s k).text.size then .bad 3 else .tok (zb6 s k) (zbs s k) by conv=>lhs;unfold zad;rw[if_neg (by omega),if_neg c1,if_neg c2,if_neg c3])
   have d3:(((zbs s k:Nat):Int)==(k:Nat))=false:=by rw[beq_eq_false_iff_ne];omega
   clear c1 c2 c2' c3 hr1 hr2 he1
   obtain⟨tk,hot⟩:∃tk,tk=zb6 s k:=⟨_,rfl⟩
   obtain⟨kd,tx,ta⟩:=tk
   rw[←hot]at HCC HTOK HT HO
   clear hot
   simp only at HCC
   generalize zbs s k=r at *
   have hkd:kd≠6∧40<tx.size∨(kd=6)∨(kd≠6∧¬ 40<tx.size):=by omega
   rcases hkd with ⟨k1,k2⟩|k1|⟨k1,k2⟩
   ·have HC:=Lib.hid (show zad s k=.bad 3 by rw[HCC.out,if_pos ⟨k1,k2⟩])
    have q1:(kd != 6)=true:=by rw[bne_iff_ne];exact k1
    have q2:decide ((40:Int)<(tx.size:Nat))=true:=decide_eq_true (by omega)
    clear k1 k2
    go_wp2_with (first|(go_at_call 137;refine(HB.out _).mono ?_;rintro e w' ⟨rfl,rfl⟩)|(go_at_call 138;refine(HR.out _).mono ?_;rintro e w' ⟨rfl,rfl⟩)|(go_at_call 139;refine(HO.out _).mono ?_;rintro e w1 ⟨⟨t,rfl,ht⟩,hx1⟩;obtain rfl:=HT.out t ht;clear ht;simp only[Tok.vals]))
    go_ret3
    have he:=HEQ.out
    rw[HST.out,HC.out]at he
    refine⟨⟨_,by rw[he];rfl,?_⟩,hext.trans (hx1.trans (zd _ _))⟩
    rw[he]
    simp only[List.append_nil]
    exact GRow.ext HROW.out (hx1.trans (zd _ _))
   case' inr.inl =>
    have HC:=Lib.hid (show zad s k=.tok ⟨kd,tx,ta⟩ r by rw[HCC.out,if_neg (fun h=>h.1 k1)])
    have q1:(kd != 6)=false:=by rw[bne_eq_false_iff_eq];exact k1
    clear k1
   case' inr.inr =>
    have HC:=Lib.hid (show zad s k=.tok ⟨kd,tx,ta⟩ r by rw[HCC.out,if_neg (fun h=>k2 h.2)])
    have q1:(kd != 6)=true:=by rw[bne_iff_ne];exact k1
    have q2:decide ((40:Int)<(tx.size:Nat))=false:=decide_eq_false (by omega)
    clear k1 k2
   all_goals
    go_wp2_with (first|(go_at_call 137;refine(HB.out _).mono ?_;rintro e w' ⟨rfl,rfl⟩)|(go_at_call 138;refine(HR.out _).mono ?_;rintro e w' ⟨rfl,rfl⟩)|(go_at_call 139;refine(HO.out _).mono ?_;rintro e w1 ⟨⟨t,rfl,ht⟩,hx1⟩;obtain rfl:=HT.out t ht;clear ht;simp only[Tok.vals];have hx1a:=hx1.trans (zd w1 (.cells #[.int .i64 kd,.string tx,.int .i64 ta] 77)))|(at_builtin;refine zaa rfl _ _ _ rfl 77 i0 _ 32 Tryz.underlying22 hi0 hz0 hz1' hz2' rfl (by decide) w.heap.size (.slice va pre.length vc) (pre.map Tok.dat) rfl (w1.alloc (.cells #[.int .i64 kd,.string tx,.int .i64 ta] 77)) (GRow.ext HROW.out hx1a) (zd _ _) (w1.heap.size+1) rfl _ _ (by have:=heap_alloc_new (w1.alloc (.cells #[.int .i64 kd,.string tx,.int .i64 ta] 77)) (.cells #[.int .i64 kd,.string tx,.int .i64 ta] 77);simpa using this) (Tok.mk kd tx ta).dat (Tok.fs HTOK.out _ _) (by go_light;rw[HDL.out];simp only[maxLen];omega) (by go_light;rw[HDL.out];omega) (by go_light;have:=(hext.trans hx1a).size;simp at this ⊢;omega) ?_;intro g2 cap2 w2 hrow2 hgrow2 hat2 hlt2;rw[HDL.out]at hrow2 ⊢;have hx2:=Ext.append' (hext.trans hx1a) (GRow.ext HROW.out hx1a) (Nat.le_refl _) (zd _ _) hgrow2))
    go_roundw
    case rel =>
     refine⟨r,pre++[⟨kd,tx,ta⟩],some ⟨g2,0,none⟩,cap2,by omega,by simp;omega,by simp,by go_num,?_,?_,hx2⟩
     ·unfold TokRow
      simp only[List.map_append,List.map_cons,List.map_nil,List.length_append,List.length_cons,List.length_nil,Nat.zero_add]
      exact hrow2
     ·rw[HEQ.out,HST.out,HC.out];simp
    case measure=>simp[intOf];omega
  ·have hlt':decide ((k:Int)<(s.size:Nat))=false:=decide_eq_false (by omega)
   have HC:=Lib.hid (show zad s k=.done by unfold zad;rw[if_pos (by omega)])
   have HOK:=Lib.hid (zn7 hs')
   go_wp2_with (at_builtin;refine zaa rfl _ _ _ rfl 77 i0 _ 32 Tryz.underlying22 hi0 hz0 hz1' hz2' rfl (by decide) w.heap.size (.slice va pre.length vc) (pre.map Tok.dat) rfl wr HROW.out (zd _ _) wr.heap.size rfl _ _ (heap_alloc_new _ _) (ze0 s).dat (Tok.fs HOK.out _ _) (by go_light;rw[HDL.out];simp only[maxLen];omega) (by go_light;rw[HDL.out];omega) (by go_light;have:=hext.size;simp;omega) ?_;intro g2 cap2 w2 hrow2 hgrow2 hat2 hlt2;rw[HDL.out]at hrow2 ⊢;have hx2:=Ext.append' hext HROW.out (Nat.le_refl _) (zd _ _) hgrow2)
   go_ret3
   have he:=HEQ.out
   rw[HST.out,HC.out]at he
   refine⟨⟨_,by rw[he];rfl,?_⟩,hx2⟩
   rw[he]
   unfold TokRow
   rw[List.map_append]
   exact hrow2
def zf3 (s:ByteArray):List Tok×Nat×Int:=if (zr s 0).2.2=0 then ((zr s 0).1,0,0)else ([],(zr s 0).2)
def cutS (s:ByteArray):List Tok×Nat×Int:=if 8000<s.size then ([],0,3)else zf3 s
def CutSays (c:List Tok×Nat×Int) (w:World) (e:Ending) (w':World):Prop:=(∃v,e=.returned (.tuple #[v,.int .i64 (c.2.1:Nat),.int .i64 c.2.2])∧TokRow w.heap.size w' v c.1)∧Ext w w'
theorem CutSays.mk {c:List Tok×Nat×Int}{w w':World}{v:Value}{e:Ending}(h1:e=.returned (.tuple #[v,.int .i64 (c.2.1:Nat),.int .i64 c.2.2])) (h2:TokRow w.heap.size w' v c.1) (h3:Ext w w'):CutSays c w e w':=⟨⟨v,h1,h2⟩,h3⟩
theorem ztt (s:ByteArray) (hs:s.size≤1048576) (w:World):Calls Tryz.prog 44 #[.string s] w (CutSays (cutS s) w):=by
 by_cases hl:8000<s.size
 ·have hd:decide ((8000:Int)<(s.size:Nat))=true:=decide_eq_true (by omega)
  have HC:=Lib.hid (show cutS s=([],0,3) by unfold cutS;rw[if_pos hl])
  rw[HC.out]
  go_enter Tryz.func44,Tryz.ntmps44
  go_wp2_with fail
  go_ret3
  exact CutSays.mk rfl GRow.nil (Below.refl _ _)
 ·have hd:decide ((8000:Int)<(s.size:Nat))=false:=decide_eq_false (by omega)
  have HC:=Lib.hid (show cutS s=if (zr s 0).2.2=0 then ((zr s 0).1,0,0)else ([],(zr s 0).2) by unfold cutS zf3;rw[if_neg hl])
  have HT:=Lib.hid (fun w=>zml s hs w)
  rw[HC.out]
  generalize zr s 0=c at HT
  obtain⟨l,at',e⟩:=c
  simp only at HT ⊢
  clear HC
  by_cases he:e=0
  ·subst he
   rw[if_pos rfl]
   have q:((0:Int) != 0)=false:=rfl
   go_enter Tryz.func44,Tryz.ntmps44
   go_wp2_with (go_at_call 88;refine(HT.out _).mono ?_;rintro e w1 ⟨⟨v,rfl,hv⟩,hx1⟩)
   go_ret3
   exact CutSays.mk rfl hv hx1
  ·rw[if_neg he]
   have q:(e != 0)=true:=by rw[bne_iff_ne];exact he
   clear he
   go_enter Tryz.func44,Tryz.ntmps44
   go_wp2_with (go_at_call 88;refine(HT.out _).mono ?_;rintro e w1 ⟨⟨v,rfl,hv⟩,hx1⟩)
   go_ret3
   exact CutSays.mk rfl GRow.nil hx1
def Ends (ks:List Tok):Prop:=∃p t,ks=p++[t]∧t.kind=7
theorem Ends.tail {t:Tok}{r:List Tok}(h:Ends (t::r)) (ht:t.kind≠7):Ends r:=by
 obtain⟨p,u,h1,h2⟩:=h
 cases p with
 |nil =>
  simp only[List.nil_append,List.cons.injEq]at h1
  rw[h1.1]at ht;exact absurd h2 ht
 |cons x p =>
  rw[List.cons_append]at h1
  injection h1 with _ h1
  exact⟨p,u,h1,h2⟩
def Pres {α:Type}(one:List Tok→Rd α):Prop:=∀ks x r,Ends ks→one ks=.ok x r→Ends r
theorem zb4 {s:ByteArray}{ks r:List Tok}(he:Ends ks) (h:zp s ks=some r):Ends r:=by
 cases ks with
 |nil=>cases h
 |cons t ks =>
  rw[zdm]at h
  split at h
  ·rename_i ht
   injection h with h;subst h
   refine he.tail ?_
   unfold Tok.sign at ht
   rw[Bool.and_eq_true,decide_eq_true_eq]at ht
   rw[ht.1];decide
  ·cases h
theorem za0 (s:ByteArray):Pres (zl s):=fun ks x r he h=>by
 unfold zl at h
 split at h
 ·rename_i h';injection h with _ h;subst h;exact zb4 he h'
 ·cases h
theorem zhy {k:Int}(hk:k≠7):Pres (za2 k):=fun ks x r he h=>by
 cases ks with
 |nil=>cases h
 |cons t ks =>
  rw[zeh]at h
  split at h
  ·rename_i ht;injection h with _ h;subst h;exact he.tail (by rw[ht];exact hk)
  ·cases h
theorem zlj {α:Type}{one:List Tok→Rd α}{sep:ByteArray}(h1:Pres one):∀f,Pres (zew one sep f)
 |0=>fun ks x r he h=>by cases h
 |f+1=>fun ks x r he h=>by
  unfold zew at h
  split at h
  ·injection h with _ h;subst h;exact he
  ·rename_i r1 ht
   obtain⟨y,r2,h2,h⟩:=bind_ok h
   obtain⟨z,h3,-⟩:=map_ok h
   exact zlj h1 f r2 z r (h1 _ _ _ (zb4 he ht) h2) h3
theorem zjh {α:Type}{one:List Tok→Rd α}{sep:ByteArray}(h1:Pres one):Pres (more one sep):=fun ks x r he h=>zlj h1 _ ks x r he h
theorem zji {α:Type}{one:List Tok→Rd α}{sep:ByteArray}(h1:Pres one):Pres (rowR one sep):=fun ks x r he h=>by
 unfold rowR at h
 obtain⟨y,r2,h2,h⟩:=bind_ok h
 obtain⟨z,h3,-⟩:=map_ok h
 exact zjh h1 r2 z r (h1 _ _ _ he h2) h3
theorem zlk {t:Tok}(h:t.named=true):t.kind≠7:=fun h7=>by
 unfold Tok.named at h;rw[h7]at h;simp at h
theorem zmm {one:List Tok→Rd Ex}(h1:Pres one):Pres (zdl one):=fun ks x r he h=>by
 cases ks with
 |nil=>cases h
 |cons t ks =>
  rw[zao]at h
  split at h
  ·rename_i h2;injection h with _ h;subst h;exact he.tail (by rw[h2];decide)
  ·split at h
   ·rename_i hn
    have he2:=he.tail (zlk hn)
    split at h
    ·injection h with _ h;subst h;exact he2
    ·rename_i r1 ht
     obtain⟨y,r2,h2,h⟩:=bind_ok h
     obtain⟨z,h3,-⟩:=map_ok h
     exact za0 _ _ _ _ (zji h1 _ _ _ (zb4 he2 ht) h2) h3
   ·cases h
theorem zjj:∀f,Pres (zg8 f)
 |0=>fun ks x r he h=>by cases h
 |f+1=>zmm (zjj f)
theorem zhz:Pres zag:=fun ks x r he h=>zjj _ ks x r he h
theorem zn8:Pres zap:=fun ks x r he h=>by
 have tl:∀tx:ByteArray,(ks.head?.map fun t=>decide (t.kind=3)&&decide (t.text=tx))=some true→Ends ks.tail:=fun tx ht=>by
  cases ks with
  |nil=>cases ht
  |cons t ks =>
   simp only[List.head?_cons,Option.map_some,Option.some.injEq,Bool.and_eq_true,decide_eq_true_eq]at ht
   exact he.tail (by rw[ht.1];decide)
 unfold zap at h
 split at h
 ·rename_i ht;injection h with _ h;subst h;exact tl _ ht
 ·split at h
  ·rename_i ht;injection h with _ h;subst h;exact tl _ ht
  ·obtain⟨y,r2,h2,h⟩:=bind_ok h
   have he2:=zhz _ _ _ he h2
   split at h
   ·rename_i ht
    obtain⟨z,h3,-⟩:=map_ok h
    exact zhz _ _ _ (zb4 he2 ht) h3
   ·split at h
    ·rename_i ht
     obtain⟨z,h3,-⟩:=map_ok h
     exact zhz _ _ _ (zb4 he2 ht) h3
    ·split at h
     ·cases h
     ·injection h with _ h;subst h;exact he2
theorem zf4 {u:List Tok→Rd Fm}(h1:Pres u) (op:Int):Pres (z8 u op):=fun ks x r he h=>by
 unfold z8 at h
 obtain⟨_,r1,h2,h⟩:=bind_ok h
 obtain⟨_,r2,h3,h⟩:=bind_ok h
 obtain⟨_,r3,h4,h⟩:=bind_ok h
 obtain⟨_,r4,h5,h⟩:=bind_ok h
 obtain⟨z,h6,-⟩:=map_ok h
 exact h1 _ _ _ (za0 _ _ _ _ (za0 _ _ _ _ (zji (zhy (by decide)) _ _ _ (za0 _ _ _ _ he h2) h3) h4) h5) h6
theorem zjk {u:List Tok→Rd Fm}(h1:Pres u) (f:Fm):Pres (zcv u f):=fun ks x r he h=>by
 cases ks with
 |nil=>injection h with _ h;subst h;exact he
 |cons t ks =>
  rw[zk]at h
  split at h
  ·injection h with _ h;subst h;exact he
  ·rename_i h6
   split at h
   ·obtain⟨z,h3,-⟩:=map_ok h;exact zjh h1 _ _ _ he h3
   ·split at h
    ·obtain⟨z,h3,-⟩:=map_ok h;exact zjh h1 _ _ _ he h3
    ·split at h
     ·obtain⟨z,h3,-⟩:=map_ok h
      exact h1 _ _ _ (he.tail (by have:t.kind=6:=Classical.not_not.1 h6;rw[this];decide)) h3
     ·injection h with _ h;subst h;exact he
theorem zgs {u:List Tok→Rd Fm}(h1:Pres u):Pres (zg u):=fun ks x r he h=>by
 unfold zg at h
 obtain⟨y,r2,h2,h⟩:=bind_ok h
 exact zjk h1 y _ _ _ (h1 _ _ _ he h2) h
theorem zmn {u:List Tok→Rd Fm}(h1:Pres u):Pres (zat u):=fun ks x r he h=>by
 unfold zat at h
 split at h
 ·rename_i ht
  obtain⟨z,h3,-⟩:=map_ok h
  exact h1 _ _ _ (zb4 he ht) h3
 ·split at h
  ·rename_i ht;exact zf4 h1 _ _ _ _ (zb4 he ht) h
  ·split at h
   ·rename_i ht;exact zf4 h1 _ _ _ _ (zb4 he ht) h
   ·split at h
    ·rename_i ht
     obtain⟨y,r2,h2,h⟩:=bind_ok h
     obtain⟨z,h3,-⟩:=map_ok h
     exact za0 _ _ _ _ (zgs h1 _ _ _ (zb4 he ht) h2) h3
    ·exact zn8 _ _ _ he h
theorem zjl:∀f,Pres (zhb f)
 |0=>fun ks x r he h=>by cases h
 |f+1=>zmn (zjl f)
theorem ztu:Pres zi:=fun ks x r he h=>zjl _ ks x r he h
theorem ztv:Pres zgj:=fun ks x r he h=>zgs ztu ks x r he h
theorem zn9 {s:ByteArray}:∀ {k:Nat},k≤s.size→(zr s k).2.2=0→Ends (zr s k).1:=by
 suffices h:∀n k,n=s.size-k→k≤s.size→(zr s k).2.2=0→Ends (zr s k).1 from fun {k} hk h0=>h _ k rfl hk h0
 intro n
 induction n using Nat.strongRecOn with
 |ind n ih =>
  intro k hn hk h0
  rw[zfm hk]at h0 ⊢
  cases hc:zad s k with
  |done=>exact⟨[],ze0 s,rfl,rfl⟩
  |skip k' =>
   rw[hc]at h0
   obtain⟨h1,h2⟩:=zdx hc
   exact ih _ (by omega) k' rfl h2 h0
  |bad e =>
   rw[hc]at h0
   unfold zad at hc
   have:e=220∨e=3:=by
    repeat' (split at hc)
    all_goals first
     |(cases hc;done)
     |(injection hc with hc;exact .inl hc.symm)
     |(injection hc with hc;exact .inr hc.symm)
   simp only at h0
   omega
  |tok t k' =>
   rw[hc]at h0
   obtain⟨h1,h2,-⟩:=zeq hc
   obtain⟨p,u,h3,h4⟩:=ih _ (by omega) k' rfl h2 h0
   exact⟨t::p,u,by simp only[h3,List.cons_append],h4⟩
theorem zjm {s:ByteArray}:∀ {k:Nat},k≤s.size→(zr s k).1.length≤s.size+1-k:=by
 suffices h:∀n k,n=s.size-k→k≤s.size→(zr s k).1.length≤s.size+1-k from fun {k} hk=>h _ k rfl hk
 intro n
 induction n using Nat.strongRecOn with
 |ind n ih =>
  intro k hn hk
  rw[zfm hk]
  cases hc:zad s k with
  |done=>simp;omega
  |skip k' =>
   obtain⟨h1,h2⟩:=zdx hc
   have:=ih _ (by omega) k' rfl h2
   simp only
   omega
  |bad e=>simp
  |tok t k' =>
   obtain⟨h1,h2,-⟩:=zeq hc
   have:=ih _ (by omega) k' rfl h2
   simp only[List.length_cons]
   omega
theorem zh0 (n:Nat) (want:Int) (hn:n≤1073741824) (hw:-1000≤want) (hw':want≤1000) (w:World) :
  Calls Tryz.prog 99 #[.int .i64 n,.int .i64 want] w fun e w'=>e=.returned (.bool (za7 n want))∧w=w':=by
 by_cases h1:(n:Int)=want
 ·have q1:((n:Int)==want)=true:=by rw[beq_iff_eq];exact h1
  have HR:=Lib.hid (show za7 n want=true by unfold za7;rw[if_neg (by omega),decide_eq_true h1])
  clear h1
  go_enter Tryz.func99,Tryz.ntmps99
  go_wp2
  go_ret
  exact⟨ze HR.out.symm,rfl⟩
 have q1:((n:Int)==want)=false:=by rw[beq_eq_false_iff_ne];exact h1
 by_cases h2:want<0
 ·have q2:decide (want<0)=true:=decide_eq_true h2
  have hneg:IntKind.i64.wrap (-want)=-want:=IntWalk.i64_in _ (by omega)
  by_cases h3:-want≤n
  ·have q3:decide (-want≤n)=true:=decide_eq_true h3
   have HR:=Lib.hid (show za7 n want=true by unfold za7;rw[if_pos h2,decide_eq_true h3])
   clear h1 h2 h3
   go_enter Tryz.func99,Tryz.ntmps99
   go_wp2
   go_ret
   exact⟨ze (by rw[HR.out]),rfl⟩
  ·have q3:decide (-want≤n)=false:=decide_eq_false h3
   have HR:=Lib.hid (show za7 n want=false by unfold za7;rw[if_pos h2,decide_eq_false h3])
   clear h1 h2 h3
   go_enter Tryz.func99,Tryz.ntmps99
   go_wp2
   go_ret
   exact⟨ze (by rw[HR.out]),rfl⟩
 ·have q2:decide (want<0)=false:=decide_eq_false h2
  have HR:=Lib.hid (show za7 n want=false by unfold za7;rw[if_neg h2,decide_eq_false h1])
  clear h1 h2
  go_enter Tryz.func99,Tryz.ntmps99
  go_wp2
  go_ret
  exact⟨ze (by rw[HR.out]),rfl⟩
theorem zoa (s:ByteArray) (hs:s.size≤1073741824) (w:World) :
  Calls Tryz.prog 100 #[.string s] w fun e w'=>e=.returned (.bool (zhg s))∧w=w':=by
 have HN:=Lib.hid (fun w=>zge s hs w)
 unfold zhg
 cases hn:named s with
 |false =>
  rw[hn]at HN
  go_enter Tryz.func100,Tryz.ntmps100
  go_wp2_with (go_at_call 69;refine(HN.out _).mono ?_;rintro e w' ⟨rfl,rfl⟩)
  go_ret
  exact⟨rfl,rfl⟩
 |true =>
  rw[hn]at HN
  have h1:=(znw hn).1
  have hi:(0:Int)<(s.size:Nat):=by omega
  have hi':0<s.size:=by omega
  have hb:=zaj hi'
  have hcl:=s[0].toNat_lt
  by_cases h65:65≤(s[0].toNat:Int)
  ·have q1:decide ((65:Int)≤s[0].toNat)=true:=decide_eq_true h65
   by_cases h90:(s[0].toNat:Int)≤90
   ·have q2:decide ((s[0].toNat:Int)≤90)=true:=decide_eq_true h90
    have HR:=Lib.hid (show(true&&decide (65≤byt s 0∧byt s 0≤90))=true by rw[hb,decide_eq_true ⟨h65,h90⟩];rfl)
    clear hb h65 h90
    go_enter Tryz.func100,Tryz.ntmps100
    go_wp2_with (go_at_call 69;refine(HN.out _).mono ?_;rintro e w' ⟨rfl,rfl⟩)
    go_ret
    exact⟨ze (by rw[HR.out]),rfl⟩
   ·have q2:decide ((s[0].toNat:Int)≤90)=false:=decide_eq_false h90
    have HR:=Lib.hid (show(true&&decide (65≤byt s 0∧byt s 0≤90))=false by rw[hb,decide_eq_false (fun h=>h90 h.2)];rfl)
    clear hb h65 h90
    go_enter Tryz.func100,Tryz.ntmps100
    go_wp2_with (go_at_call 69;refine(HN.out _).mono ?_;rintro e w' ⟨rfl,rfl⟩)
    go_ret
    exact⟨ze (by rw[HR.out]),rfl⟩
  ·have q1:decide ((65:Int)≤s[0].toNat)=false:=decide_eq_false h65
   have HR:=Lib.hid (show(true&&decide (65≤byt s 0∧byt s 0≤90))=false by rw[hb,decide_eq_false (fun h=>h65 h.1)];rfl)
   clear hb h65
   go_enter Tryz.func100,Tryz.ntmps100
   go_wp2_with (go_at_call 69;refine(HN.out _).mono ?_;rintro e w' ⟨rfl,rfl⟩)
   go_ret
   exact⟨ze (by rw[HR.out]),rfl⟩
theorem zih (s:ByteArray) (hs:s.size≤1073741824) (w:World) :
  Calls Tryz.prog 144 #[.string s] w fun e w'=>e=.returned (.bool (zhg s))∧w=w':=by
 have HN:=Lib.hid (fun w=>zex s hs w)
 unfold zhg
 cases hn:named s with
 |false =>
  rw[hn]at HN
  go_enter Tryz.func144,Tryz.ntmps144
  go_wp2_with (go_at_call 72;refine(HN.out _).mono ?_;rintro e w' ⟨rfl,rfl⟩)
  go_ret
  exact⟨rfl,rfl⟩
 |true =>
  rw[hn]at HN
  have h1:=(znw hn).1
  have hi:(0:Int)<(s.size:Nat):=by omega
  have hi':0<s.size:=by omega
  have hb:=zaj hi'
  have hcl:=s[0].toNat_lt
  by_cases h65:65≤(s[0].toNat:Int)
  ·have q1:decide ((65:Int)≤s[0].toNat)=true:=decide_eq_true h65
   by_cases h90:(s[0].toNat:Int)≤90
   ·have q2:decide ((s[0].toNat:Int)≤90)=true:=decide_eq_true h90
    have HR:=Lib.hid (show(true&&decide (65≤byt s 0∧byt s 0≤90))=true by rw[hb,decide_eq_true ⟨h65,h90⟩];rfl)
    clear hb h65 h90
    go_enter Tryz.func144,Tryz.ntmps144
    go_wp2_with (go_at_call 72;refine(HN.out _).mono ?_;rintro e w' ⟨rfl,rfl⟩)
    go_ret
    exact⟨ze (by rw[HR.out]),rfl⟩
   ·have q2:decide ((s[0].toNat:Int)≤90)=false:=decide_eq_false h90
    have HR:=Lib.hid (show(true&&decide (65≤byt s 0∧byt s 0≤90))=false by rw[hb,decide_eq_false (fun h=>h90 h.2)];rfl)
    clear hb h65 h90
    go_enter Tryz.func144,Tryz.ntmps144
    go_wp2_with (go_at_call 72;refine(HN.out _).mono ?_;rintro e w' ⟨rfl,rfl⟩)
    go_ret
    exact⟨ze (by rw[HR.out]),rfl⟩
  ·have q1:decide ((65:Int)≤s[0].toNat)=false:=decide_eq_false h65
   have HR:=Lib.hid (show(true&&decide (65≤byt s 0∧byt s 0≤90))=false by rw[hb,decide_eq_false (fun h=>h65 h.1)];rfl)
   clear hb h65
   go_enter Tryz.func144,Tryz.ntmps144
   go_wp2_with (go_at_call 72;refine(HN.out _).mono ?_;rintro e w' ⟨rfl,rfl⟩)
   go_ret
   exact⟨ze (by rw[HR.out]),rfl⟩
def zvg (x:Ex):Prop:=∀(P:Nat→Prop) (w:World) (a b c:Value),IsEx P w a b c x→Calls Tryz.prog 101 #[.agg #[a,b,c]] w fun e w'=>e=.returned (.bool x.may)∧Ext w w'
theorem zvh {x:Ex}(hx:zvg x){P:Nat→Prop}{w:World}{a b c:Value}(h:IsEx P w a b c x):Calls Tryz.prog 143 #[.agg #[a,b,c]] w fun e w'=>e=.returned (.bool (!x.may))∧Ext w w':=by
 have H:=Lib.hid (fun w' (hx':Ext w w')=>hx P w' a b c (h.ext hx'))
 obtain⟨aa,cc,rfl,rfl,rfl,-⟩:=h.form
 clear hx
 go_enter Tryz.func143,Tryz.ntmps143
 go_wp2_with (go_at_call 101;refine(H.out _ (zd _ _)).mono ?_;rintro e w' ⟨rfl,hx1⟩)
 go_ret
 exact⟨rfl,(zd _ _).trans hx1⟩
theorem zob {l:List Ex}(hl:∀x∈l,zvg x) (hn:l.length≤1073741824){P:Nat→Prop}{w:World}{a:Option Addr}{c:Nat}(h:IsExs P w a l) :
  Calls Tryz.prog 178 #[.slice a l.length c,.func (.func 143) #[] #[]] w fun e w'=>(∃k:Int,e=.returned (.int .i64 k)∧decide (0≤k)=!(Ex.mays l))∧Ext w w':=by
 have HL:=Lib.hid (fun w' k (hk:k<l.length) (P:Nat→Prop) a b c (h:IsEx P w' a b c l[k])=>zvh (hl _ (List.getElem_mem hk)) h)
 clear hl
 go_enter Tryz.func178,Tryz.ntmps178
 go_wp2_with fail
 go_loopw [8] (fun i wr=>∃k:Nat,k≤l.length∧i=.int .i64 k∧Ext w wr∧Ex.mays (l.take k)=true) (fun i _=>l.length-(intOf i).toNat)
 case atStart=>exact⟨0,Nat.zero_le _,rfl,Below.refl _ _,rfl⟩
 case round =>
  obtain⟨k,hk,rfl,hx,hm⟩:=hrel
  have HM:=Lib.hid hm;clear hm
  by_cases hlt:k<l.length
  ·obtain⟨b,o,a',c',rfl,hb,g1,g2,g3,hi⟩:=(h.ext hx).look hlt
   have hlt':(k:Int)<l.length:=by omega
   have HE:=Lib.hid (HL.out wr k hlt P _ _ _ hi)
   have hst:Ex.mays (l.take (k+1))=(Ex.mays (l.take k)&&l[k].may):=by
    rw[Ex.mays_all,Ex.mays_all,List.take_succ_eq_append_getElem hlt,List.all_append];simp
   have HST:=Lib.hid hst;clear hst
   cases hm:l[k].may with
   |true =>
    rw[hm]at HE HST
    have HMK:=Lib.hid hm
    clear hm
    go_wp2_with (go_at_call 143;refine(HE.out).mono ?_;rintro e w1 ⟨rfl,hx1⟩)
    go_roundw
    case rel=>exact⟨k+1,by omega,by go_num,hx.trans hx1,by rw[HST.out,HM.out];rfl⟩
    case measure=>simp[intOf];omega
   |false =>
    rw[hm]at HE
    have HMK:=Lib.hid hm
    clear hm
    go_wp2_with (go_at_call 143;refine(HE.out).mono ?_;rintro e w1 ⟨rfl,hx1⟩)
    go_ret
    refine⟨⟨k,rfl,?_⟩,hx.trans hx1⟩
    have h1:Ex.mays l=false:=by
     rw[Ex.mays_all]
     cases h2:l.all Ex.may with
     |false=>rfl
     |true=>have:=List.all_eq_true.1 h2 l[k] (List.getElem_mem hlt);rw[HMK.out]at this;cases this
    rw[h1,decide_eq_true (by omega)];rfl
  ·have hlt':¬(k:Int)<l.length:=by omega
   go_wp2_with fail
   go_ret
   refine⟨⟨-1,rfl,?_⟩,hx⟩
   have:k=l.length:=by omega
   subst this
   have:=HM.out
   rw[List.take_length]at this
   rw[this];rfl
theorem ztw {l:List Ex}(hl:∀x∈l,zvg x) (hn:l.length≤1073741824){P:Nat→Prop}{w:World}{a:Option Addr}{c:Nat}(h:IsExs P w a l) :
  Calls Tryz.prog 142 #[.slice a l.length c,.func (.func 143) #[] #[]] w fun e w'=>e=.returned (.bool (!(Ex.mays l)))∧Ext w w':=by
 have H:=Lib.hid (zob hl hn (c:=c) h)
 clear h hl
 go_enter Tryz.func142,Tryz.ntmps142
 go_wp2_with (go_at_call 178;refine(H.out).mono ?_;rintro e w1 ⟨⟨k,rfl,hk⟩,hx1⟩;have HK:=Lib.hid hk;clear hk)
 go_ret
 exact⟨ze HK.out,hx1⟩
theorem zq9 (t:Ex) (hsz:t.size≤4194304):zvg t:=by
 induction t using Ex.ind with
 |h v nm l ih =>
  intro P w x y z ht
  have hkl:=Ex.length_le_sizes l
  simp only[Ex.size]at hsz
  have ih':∀a∈l,zvg a:=fun a ha=>by
   obtain⟨i,hi,rfl⟩:=List.getElem_of_mem ha
   exact ih _ ha (by have:=Ex.size_le_sizes hi;omega)
  obtain⟨a,c,rfl,rfl,rfl,hn,hc1,hk⟩:=ht.form
  simp only[Ex.var,Ex.name,Ex.args]at hn hc1 hk ⊢
  have HU:=Lib.hid (fun w=>zoa nm hn w)
  have HN:=Lib.hid (fun w=>zge nm hn w)
  have HA:=Lib.hid (fun w' (hx:Ext w w')=>ztw ih' (show l.length≤1073741824 by omega) (c:=c) (IsExs.ext hk hx))
  clear ih ih' ht hk
  simp only[Ex.may]
  cases v with
  |true =>
   have hp:l.length=0∨0<l.length:=by omega
   rcases hp with hp|hp
   ·have q1:((l.length:Int)==0)=true:=by rw[beq_iff_eq];omega
    have HD:=Lib.hid (show decide (l.length=0)=true from decide_eq_true hp)
    clear hp
    go_enter Tryz.func101,Tryz.ntmps101
    go_wp2_with (go_at_call 100;refine(HU.out _).mono ?_;rintro e w1 ⟨rfl,rfl⟩)
    go_ret
    exact⟨ze (by have h0:=of_decide_eq_true HD.out;have h1:l=[]:=List.eq_nil_of_length_eq_zero h0;simp[h1]),zd _ _⟩
   ·have q1:((l.length:Int)==0)=false:=by rw[beq_eq_false_iff_ne];omega
    have HD:=Lib.hid (show decide (l.length=0)=false from decide_eq_false (by omega))
    clear hp
    go_enter Tryz.func101,Tryz.ntmps101
    go_wp2_with fail
    go_ret
    exact⟨ze (by have h0:=of_decide_eq_false HD.out;have h1:l≠[]:=fun h=>h0 (by rw[h];rfl);simp[h1]),zd _ _⟩
  |false =>
   cases hnm:named nm with
   |false =>
    rw[hnm]at HN
    clear hnm
    go_enter Tryz.func101,Tryz.ntmps101
    go_wp2_with (go_at_call 69;refine(HN.out _).mono ?_;rintro e w1 ⟨rfl,rfl⟩)
    go_ret
    exact⟨rfl,zd _ _⟩
   |true =>
    rw[hnm]at HN
    clear hnm
    go_enter Tryz.func101,Tryz.ntmps101
    go_wp2_with (first|(go_at_call 69;refine(HN.out _).mono ?_;rintro e w1 ⟨rfl,rfl⟩)|(go_at_call 142;refine(HA.out _ (zd _ _)).mono ?_;rintro e w2 ⟨rfl,hx2⟩))
    go_ret
    exact⟨ze (by simp),(zd _ _).trans hx2⟩
theorem ze3 {a b:ByteArray}(h:a≠b):(a.toList==b.toList)=false:=by
 rw[beq_eq_false_iff_ne];intro he;apply h;apply ByteArray.ext;apply Array.toList_inj.1
 rw[Go.ByteArray.toList_eq,Go.ByteArray.toList_eq]at he;exact he
theorem ze4 {a b:ByteArray}(h:a=b):(a.toList==b.toList)=true:=by subst h;exact beq_self_eq_true _
theorem zvi {op:Int}(h:op<1∨13≤op):zby op=none:=by
 unfold zby
 repeat' rw[if_neg (by omega)]
def zjn (op:Int):Value:=.tuple #[.int .i64 ((zby op).getD (0,0,0)).1,.int .i64 ((zby op).getD (0,0,0)).2.1,.int .i64 ((zby op).getD (0,0,0)).2.2,.bool (zby op).isSome]
theorem zvj (op:Int) (w:World):Calls Tryz.prog 105 #[.int .i64 op] w fun e w'=>e=.returned (zjn op)∧w=w':=by
 by_cases h:op<1∨13≤op
 ·have HS:=Lib.hid (zvi h)
  have q1:(op==1)=false:=by rw[beq_eq_false_iff_ne];omega
  have q2:(op==2)=false:=by rw[beq_eq_false_iff_ne];omega
  have q3:(op==3)=false:=by rw[beq_eq_false_iff_ne];omega
  have q4:(op==4)=false:=by rw[beq_eq_false_iff_ne];omega
  have q5:(op==5)=false:=by rw[beq_eq_false_iff_ne];omega
  have q6:(op==6)=false:=by rw[beq_eq_false_iff_ne];omega
  have q7:(op==7)=false:=by rw[beq_eq_false_iff_ne];omega
  have q8:(op==8)=false:=by rw[beq_eq_false_iff_ne];omega
  have q9:(op==9)=false:=by rw[beq_eq_false_iff_ne];omega
  have q10:(op==10)=false:=by rw[beq_eq_false_iff_ne];omega
  have q11:(op==11)=false:=by rw[beq_eq_false_iff_ne];omega
  have q12:(op==12)=false:=by rw[beq_eq_false_iff_ne];omega
  clear h
  go_enter Tryz.func105,Tryz.ntmps105
  go_wp2
  exact bodyPost_ret (v:=.tuple #[.int .i64 0,.int .i64 0,.int .i64 0,.bool false]) (by simp[results,Tryz.results105,go_sem]) rfl ⟨by unfold zjn;rw[HS.out];rfl,rfl⟩
 ·have hc:op=1∨op=2∨op=3∨op=4∨op=5∨op=6∨op=7∨op=8∨op=9∨op=10∨op=11∨op=12:=by omega
  clear h
  rcases hc with rfl|rfl|rfl|rfl|rfl|rfl|rfl|rfl|rfl|rfl|rfl|rfl
  ·go_enter Tryz.func105,Tryz.ntmps105
   go_wp2
   exact bodyPost_ret (v:=.tuple #[.int .i64 0,.int .i64 0,.int .i64 0,.bool true]) (by simp[results,Tryz.results105,go_sem]) rfl ⟨rfl,rfl⟩
  ·go_enter Tryz.func105,Tryz.ntmps105
   go_wp2
   exact bodyPost_ret (v:=.tuple #[.int .i64 0,.int .i64 0,.int .i64 0,.bool true]) (by simp[results,Tryz.results105,go_sem]) rfl ⟨rfl,rfl⟩
  ·go_enter Tryz.func105,Tryz.ntmps105
   go_wp2
   exact bodyPost_ret (v:=.tuple #[.int .i64 0,.int .i64 1,.int .i64 0,.bool true]) (by simp[results,Tryz.results105,go_sem]) rfl ⟨rfl,rfl⟩
  ·go_enter Tryz.func105,Tryz.ntmps105
   go_wp2
   exact bodyPost_ret (v:=.tuple #[.int .i64 0,.int .i64 2,.int .i64 0,.bool true]) (by simp[results,Tryz.results105,go_sem]) rfl ⟨rfl,rfl⟩
  ·go_enter Tryz.func105,Tryz.ntmps105
   go_wp2
   exact bodyPost_ret (v:=.tuple #[.int .i64 0,.int .i64 0,.int .i64 1,.bool true]) (by simp[results,Tryz.results105,go_sem]) rfl ⟨rfl,rfl⟩
  ·go_enter Tryz.func105,Tryz.ntmps105
   go_wp2
   exact bodyPost_ret (v:=.tuple #[.int .i64 0,.int .i64 0,.int .i64 (-2),.bool true]) (by simp[results,Tryz.results105,go_sem]) rfl ⟨rfl,rfl⟩
  ·go_enter Tryz.func105,Tryz.ntmps105
   go_wp2
   exact bodyPost_ret (v:=.tuple #[.int .i64 0,.int .i64 0,.int .i64 (-2),.bool true]) (by simp[results,Tryz.results105,go_sem]) rfl ⟨rfl,rfl⟩
  ·go_enter Tryz.func105,Tryz.ntmps105
   go_wp2
   exact bodyPost_ret (v:=.tuple #[.int .i64 0,.int .i64 0,.int .i64 2,.bool true]) (by simp[results,Tryz.results105,go_sem]) rfl ⟨rfl,rfl⟩
  ·go_enter Tryz.func105,Tryz.ntmps105
   go_wp2
   exact bodyPost_ret (v:=.tuple #[.int .i64 0,.int .i64 0,.int .i64 2,.bool true]) (by simp[results,Tryz.results105,go_sem]) rfl ⟨rfl,rfl⟩
  ·go_enter Tryz.func105,Tryz.ntmps105
   go_wp2
   exact bodyPost_ret (v:=.tuple #[.int .i64 0,.int .i64 0,.int .i64 2,.bool true]) (by simp[results,Tryz.results105,go_sem]) rfl ⟨rfl,rfl⟩
  ·go_enter Tryz.func105,Tryz.ntmps105
   go_wp2
   exact bodyPost_ret (v:=.tuple #[.int .i64 (-1),.int .i64 0,.int .i64 1,.bool true]) (by simp[results,Tryz.results105,go_sem]) rfl ⟨rfl,rfl⟩
  ·go_enter Tryz.func105,Tryz.ntmps105
   go_wp2
   exact bodyPost_ret (v:=.tuple #[.int .i64 (-1),.int .i64 0,.int .i64 1,.bool true]) (by simp[results,Tryz.results105,go_sem]) rfl ⟨rfl,rfl⟩
theorem zd6 (n:Nat) (want:Int) (_hn:n≤1073741824) (hw:-1000≤want) (hw':want≤1000) (w:World) :
  Calls Tryz.prog 106 #[.int .i64 n,.int .i64 want] w fun e w'=>e=.returned (.bool (za7 n want))∧w=w':=by
 by_cases h2:want<0
 ·have q2:decide (want<0)=true:=decide_eq_true h2
  have hneg:IntKind.i64.wrap (-want)=-want:=IntWalk.i64_in _ (by omega)
  have HR:=Lib.hid (show za7 n want=decide (-want≤n) by unfold za7;rw[if_pos h2])
  go_enter Tryz.func106,Tryz.ntmps106
  go_wp2
  go_ret
  exact⟨ze HR.out.symm,rfl⟩
 ·have q2:decide (want<0)=false:=decide_eq_false h2
  have HR:=Lib.hid (show za7 n want=decide ((n:Int)=want) by unfold za7;rw[if_neg h2])
  go_enter Tryz.func106,Tryz.ntmps106
  go_wp2
  go_ret
  exact⟨ze (by rw[HR.out];rw[Bool.eq_iff_iff];simp),rfl⟩
theorem zk6 (t:Ex):∀(P:Nat→Prop) (w:World) (x y z:Value),IsEx P w x y z t→t.size≤4194304 →
  Calls Tryz.prog 108 #[.agg #[x,y,z]] w fun e w'=>e=.returned (.bool t.may)∧Ext w w':=by
 induction t using Ex.ind with
 |h v nm l ih =>
  intro P w x y z ht hs
  obtain⟨a,c,rfl,rfl,rfl,hn,hc1,hk⟩:=ht.form
  simp only[Ex.var,Ex.name,Ex.args]at hn hc1 hk ⊢
  simp only[Ex.size]at hs
  have hkl:=Ex.length_le_sizes l
  have HU:=Lib.hid (fun w=>zih nm hn w)
  have HN:=Lib.hid (fun w=>zex nm hn w)
  obtain⟨W,hW⟩:∃W,W=w.alloc (.cells #[.bool v,.string nm,.slice a l.length c] 73):=⟨_,rfl⟩
  have hx:Ext w W:=by rw[hW];exact zd _ _
  obtain⟨b0,b1,b2⟩:=zmc w (.bool v) (.string nm) (.slice a l.length c) 73
  rw[←hW]at b0 b1 b2
  simp only[Ex.may]
  cases v with
  |true =>
   have hp:l.length=0∨0<l.length:=by omega
   clear hx hk ih ht b0 b1 b2 hW
   rcases hp with hp|hp
   ·have q1:((l.length:Int)==0)=true:=by rw[beq_iff_eq];omega
    have HD:=Lib.hid hp
    clear hp
    go_enter Tryz.func108,Tryz.ntmps108
    go_wp2_with (go_at_call 144;refine(HU.out _).mono ?_;rintro e w1 ⟨rfl,rfl⟩)
    go_ret
    exact⟨ze (by have h1:l=[]:=List.eq_nil_of_length_eq_zero HD.out;simp[h1]),zd _ _⟩
   ·have q1:((l.length:Int)==0)=false:=by rw[beq_eq_false_iff_ne];omega
    have HD:=Lib.hid hp
    clear hp
    go_enter Tryz.func108,Tryz.ntmps108
    go_wp2_with fail
    go_ret
    exact⟨ze (by have h1:l≠[]:=fun h=>by have:=HD.out;rw[h]at this;simp at this
                 simp[h1]),zd _ _⟩
  |false =>
   cases hnm:named nm with
   |false =>
    rw[hnm]at HN
    clear hnm hx hk ih ht b0 b1 b2 hW
    go_enter Tryz.func108,Tryz.ntmps108
    go_wp2_with (go_at_call 72;refine(HN.out _).mono ?_;rintro e w1 ⟨rfl,rfl⟩)
    go_ret
    exact⟨rfl,zd _ _⟩
   |true =>
    rw[hnm]at HN
    clear hnm ht
    go_enter Tryz.func108,Tryz.ntmps108
    go_wp2_with (rw[←hW];clear hW;go_at_call 72;refine(HN.out _).mono ?_;rintro e w1 ⟨rfl,rfl⟩)
    go_loopw [3] (fun i wr=>∃k:Nat,k≤l.length∧i=.int .i64 k∧Ext W wr∧Ex.mays (l.take k)=true) (fun i _=>l.length-(intOf i).toNat)
    case atStart=>exact⟨0,Nat.zero_le _,rfl,Below.refl _ _,rfl⟩
    case round =>
     obtain⟨k,hkk,rfl,hxr,hm⟩:=hrel
     have HM:=Lib.hid hm;clear hm
     replace b2:=hxr.cell b2
     clear b0 b1
     by_cases hlt:k<l.length
     ·obtain⟨b,o,a',c',rfl,hb,g1,g2,g3,hi⟩:=(IsExs.ext hk (hx.trans hxr)).look hlt
      have hlt':(k:Int)<l.length:=by omega
      have HE:=Lib.hid (ih _ (List.getElem_mem hlt) P wr _ _ _ hi (by have:=Ex.size_le_sizes hlt;omega))
      have hst:Ex.mays (l.take (k+1))=(Ex.mays (l.take k)&&l[k].may):=by
       rw[Ex.mays_all,Ex.mays_all,List.take_succ_eq_append_getElem hlt,List.all_append];simp
      have HST:=Lib.hid hst
      clear hst ih
      cases hmk:l[k].may with
      |true =>
       rw[hmk]at HE HST
       clear hmk
       go_wp2_with (go_at_call 108;refine(HE.out).mono ?_;rintro e w1 ⟨rfl,hx1⟩)
       go_roundw
       case rel=>exact⟨k+1,by omega,by go_num,hxr.trans hx1,by rw[HST.out,HM.out];rfl⟩
       case measure=>simp[intOf];omega
      |false =>
       rw[hmk]at HE
       have HMK:=Lib.hid hmk
       clear hmk
       go_wp2_with (go_at_call 108;refine(HE.out).mono ?_;rintro e w1 ⟨rfl,hx1⟩)
       go_ret
       have h1:Ex.mays l=false:=by
        rw[Ex.mays_all]
        cases h2:l.all Ex.may with
        |false=>rfl
        |true=>have:=List.all_eq_true.1 h2 l[k] (List.getElem_mem hlt);rw[HMK.out]at this;cases this
       exact⟨ze (by rw[h1]),hx.trans (hxr.trans hx1)⟩
     ·have hlt':¬(k:Int)<l.length:=by omega
      go_wp2_with fail
      go_ret
      have:k=l.length:=by omega
      subst this
      have h1:=HM.out
      rw[List.take_length]at h1
      exact⟨ze (by rw[h1]),hx.trans hxr⟩
theorem zk7 (l:List ByteArray) (hl:l.length≤1073741824) (P:Nat→Prop) (w:World) (a:Option Addr) (c:Nat) (h:IsStrs P w a l) :
  Calls Tryz.prog 107 #[.slice a l.length c] w fun e w'=>e=.returned (.bool (zds l))∧Ext w w':=by
 have HS:=Lib.hid (show zds l=zd4 (l.take 0) (l.drop 0) by simp[zds])
 go_enter Tryz.func107,Tryz.ntmps107
 go_wp2_with fail
 go_loopw [3] (fun i wr=>∃k:Nat,k≤l.length∧i=.int .i64 k∧Ext w wr∧zds l=zd4 (l.take k) (l.drop k)) (fun i _=>l.length-(intOf i).toNat)
 case atStart=>exact⟨0,Nat.zero_le _,rfl,Below.refl _ _,HS.out⟩
 case round =>
  obtain⟨k,hk,rfl,hx,hv⟩:=hrel
  have HV:=Lib.hid hv
  clear hv HS
  by_cases hlt:k<l.length
  ·obtain⟨b,o,rfl,hb,g1,hsz⟩:=IsStrs.look (h.ext hx) hlt
   have hlt':(k:Int)<l.length:=by omega
   have HU:=Lib.hid (fun w=>zih l[k] hsz w)
   have HST:=Lib.hid (zhh hlt)
   cases hu:zhg l[k] with
   |false =>
    rw[hu]at HU HST
    clear hu
    go_wp2_with (go_at_call 144;refine(HU.out _).mono ?_;rintro e w1 ⟨rfl,rfl⟩)
    go_ret
    exact⟨ze (by rw[HV.out,HST.out];rfl),hx⟩
   |true =>
    rw[hu]at HU HST
    clear hu
    go_wp2_with (go_at_call 144;refine(HU.out _).mono ?_;rintro e w1 ⟨rfl,rfl⟩)
    obtain⟨wo,rfl⟩:∃wo:World,wo=wr:=⟨_,rfl⟩
    go_loopw [4] (fun i wr=>∃j:Nat,j≤k∧i=.int .i64 j∧Ext wo wr∧((l.take j).any fun u=>decide (u=l[k]))=false) (fun i _=>k-(intOf i).toNat)
    case atStart=>exact⟨0,Nat.zero_le _,rfl,Below.refl _ _,rfl⟩
    case round =>
     obtain⟨j,hj,rfl,hx2,hany⟩:=hrel
     have HANY:=Lib.hid hany
     clear hany
     by_cases hjk:j<k
     ·have hjk':(j:Int)<k:=by omega
      have hjl:j<l.length:=by omega
      have hjl':(j:Int)<l.length:=by omega
      obtain⟨b',o',hbo,-,g2,-⟩:=IsStrs.look (h.ext (hx.trans hx2)) hjl
      injection hbo with hbo
      injection hbo with e1 e2 _
      subst e1;subst e2
      replace g1:=hx2.cell g1
      have hst:((l.take (j+1)).any fun u=>decide (u=l[k]))=(((l.take j).any fun u=>decide (u=l[k])) || decide (l[j]=l[k])):=by
       rw[List.take_succ_eq_append_getElem hjl,List.any_append];simp
      have HST2:=Lib.hid hst
      clear hst
      by_cases heq:l[k]=l[j]
      ·have q1:(l[k].toList==l[j].toList)=true:=ze4 heq
       have HEQ:=Lib.hid heq
       clear heq
       go_wp2_with fail
       go_quiet (fail)
       go_wp2_with fail
       go_ret
       refine⟨ze ?_,hx.trans (Ext.drewN hx2 _)⟩
       have h1:((l.take k).any fun u=>decide (u=l[k]))=true:=List.any_eq_true.2 ⟨l[j],List.mem_take_iff_getElem.2 ⟨j,by omega,rfl⟩,by rw[HEQ.out];simp⟩
       rw[HV.out,HST.out,h1];rfl
      ·have q1:(l[k].toList==l[j].toList)=false:=ze3 heq
       have HEQ:=Lib.hid heq
       clear heq
       go_wp2_with fail
       go_quiet (fail)
       go_wp2_with fail
       go_roundw
       case rel=>exact⟨j+1,by omega,by go_num,Ext.drewN hx2 _,by rw[HST2.out,HANY.out,decide_eq_false (fun h=>HEQ.out h.symm)];rfl⟩
       case measure=>simp[intOf];omega
     ·have hjk':¬(j:Int)<k:=by omega
      have hj2:j=k:=by omega
      have HJ:=Lib.hid hj2
      clear hj2
      go_wp2_with fail
      go_roundw
      case rel =>
       have h1:=HANY.out
       rw[HJ.out]at h1
       exact⟨k+1,by omega,by go_num,hx.trans hx2,by rw[HV.out,HST.out,h1];rfl⟩
      case measure=>simp[intOf];omega
  ·have hlt':¬(k:Int)<l.length:=by omega
   go_wp2_with fail
   go_ret
   have:k=l.length:=by omega
   subst this
   exact⟨ze (by rw[HV.out,List.drop_length];rfl),hx⟩
end Go.Proofs.YtnclgkdpafhogaaGreat
