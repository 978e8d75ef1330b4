/- Where quoted tokens, remarks end: the reference's quoted, remark, token.remark. Condition: a text of at most 2^30 bytes; for token.remark the library's variable holds a number.
How long a sign is: token.sign. Condition: a text of at most 2^30 bytes.
How long a sign is: the reference's Sign. Condition: a text of at most 2^30 bytes.
The token at a place: token.one, the reference's one. Condition: a text of at most 2^30 bytes. -/
import Derived.Test.YtnclgkdpafhogaaGreatQc13
import Derived.Deep.Light
import Derived.Test.YtnclgkdpafhogaaGreatQc0
set_option maxHeartbeats 16000000
set_option maxRecDepth 100000
namespace Go.Proofs.YtnclgkdpafhogaaGreat
open Go.ChangeShapes Go.WideShapes Go.ChangeAt Go.RowKit
theorem zqs (c:UInt8):zbq c=(!((c.toNat:Int)==39)&&!(decide ((c.toNat:Int)<32) || decide (126<(c.toNat:Int)) || ((c.toNat:Int)==92))):=by
 have e1:((c.toNat:Int)==39)=decide (c.toNat=39):=by rw[Bool.eq_iff_iff];simp;omega
 have e2:((c.toNat:Int)==92)=decide (c.toNat=92):=by rw[Bool.eq_iff_iff];simp;omega
 rw[e1,e2]
 unfold zbq
 rw[Bool.eq_iff_iff];simp;omega
theorem zgp (s:ByteArray) (hs:s.size≤1073741824) (k:Nat) (hk:k<s.size) (w:World) :
  Calls Tryz.prog 175 #[.string s,.int .i64 k] w fun e w'=>e=.returned (.int .i64 (zw s k:Nat))∧w=w':=by
 have HQ:=Lib.hid (show zw s k=_ from rfl:zw s k=if zab zbq s (k+1)=k+1∨byt s (zab zbq s (k+1))≠39 then k else zab zbq s (k+1)+1)
 generalize zw s k=q at HQ ⊢
 go_enter Tryz.func175,Tryz.ntmps175
 go_wp2_with fail
 go_loop [5] (fun i=>∃j:Nat,k+1≤j∧j≤s.size∧i=.int .i64 j∧zab zbq s (k+1)=zab zbq s j) (fun i=>s.size-(intOf i).toNat)
 case atStart=>exact⟨k+1,Nat.le_refl _,by omega,by go_num,rfl⟩
 case round =>
  obtain⟨j,hkj,hj,rfl,heq⟩:=hrel
  have Heq:=Lib.hid heq;clear heq
  by_cases hlt:j<s.size
  ·have hlt':decide ((j:Int)<(s.size:Nat))=true:=decide_eq_true (by omega)
   have Hst:=Lib.hid (zcj (p:=zbq) hlt)
   have Hby:=Lib.hid (zaj hlt)
   have Hsp:=Lib.hid (zqs s[j])
   have hcl:=s[j].toNat_lt
   cases hl:((s[j].toNat:Int)==39) with
   |true =>
    have Hn:Hid (zab zbq s j=j):=by have:=Hst.out;rw[Hsp.out,hl,if_neg (by simp)]at this;exact this
    by_cases hjk:j=k+1
    ·have d:((j:Int)==(k:Int)+1)=true:=by rw[beq_iff_eq];omega
     have Hjk:=Lib.hid hjk;clear hjk
     go_wp2_with fail
     go_ret
     exact⟨zm (by rw[HQ.out,Heq.out,Hn.out,if_pos (.inl Hjk.out)]),rfl⟩
    ·have d:((j:Int)==(k:Int)+1)=false:=by rw[beq_eq_false_iff_ne];omega
     have Hjk:=Lib.hid hjk;clear hjk
     have H39:Hid ((s[j].toNat:Int)=39):=by rw[beq_iff_eq]at hl;exact hl
     go_wp2_with fail
     go_ret
     refine⟨zm ?_,rfl⟩
     rw[HQ.out,Heq.out,Hn.out,if_neg]
     ·omega
     ·rintro(h|h)
      ·exact Hjk.out h
      ·exact h (by rw[Hby.out];exact H39.out)
   |false =>
    have Hne:Hid (¬(s[j].toNat:Int)=39):=by rw[beq_eq_false_iff_ne]at hl;exact hl
    cases h1:decide ((s[j].toNat:Int)<32)<;>cases h2:decide (126<(s[j].toNat:Int))<;>cases h3:((s[j].toNat:Int)==92)
    all_goals
     have Hc:=Lib.hid (And.intro h1 (And.intro h2 (And.intro h3 hl)))
     go_wp2_with fail
     first
      |(go_ret
        obtain⟨h1,h2,h3,hl⟩:=Hc.out
        have hn:zab zbq s j=j:=by have:=Hst.out;rw[Hsp.out,hl,h1,h2,h3,if_neg (by decide)]at this;exact this
        exact⟨zm (by rw[HQ.out,Heq.out,hn,if_pos (.inr (by rw[Hby.out];exact Hne.out))]),rfl⟩)
      |(go_round
        case rel =>
          obtain⟨h1,h2,h3,hl⟩:=Hc.out
          have hn:=Hst.out
          rw[Hsp.out,hl,h1,h2,h3,if_pos (by decide)]at hn
          exact⟨j+1,by go_light;omega,by go_light;omega,by go_num,by rw[Heq.out,hn]⟩
        case measure=>simp[intOf];omega)
  ·have hlt':decide ((j:Int)<(s.size:Nat))=false:=decide_eq_false (by omega)
   go_wp2_with fail
   have:j=s.size:=by omega
   subst this
   go_ret
   exact⟨zm (by rw[HQ.out,Heq.out,zdo (Nat.le_refl _),if_pos (.inr (by rw[zci (Nat.le_refl _)];omega))]),rfl⟩
def zd9 (c:UInt8):Bool:=decide (c.toNat≠10)
def zbw (s:ByteArray) (i:Nat):Option Nat:=if 0≤Lib.index (s.data.toList.drop i) [42,47]then some (i+(Lib.index (s.data.toList.drop i) [42,47]).toNat+2)else none
def z6 (s:ByteArray) (k:Nat):Nat:=if byt s k=37 then zab zd9 s k else if byt s k=47∧byt s (k+1)=42 then (zbw s (k+2)).getD k else k
theorem zlf {s:ByteArray}{k:Nat}(hk:k≤s.size):(zab zd9 s k:Nat)=if 0≤Lib.indexByte (s.data.toList.drop k) 10 then (k:Int)+Lib.indexByte (s.data.toList.drop k) 10 else s.size:=by
 unfold zab
 have hl:(s.data.toList.drop k).length=s.size-k:=by simp
 generalize s.data.toList.drop k=l at hl
 have hk2:(s.size:Int)=(k:Int)+l.length:=by omega
 rw[hk2]
 clear hk2 hl hk
 suffices h:((l.takeWhile zd9).length:Int)=if 0≤Lib.indexByte l 10 then Lib.indexByte l 10 else l.length by
  split at h<;>split<;>first|omega|contradiction
 induction l with
 |nil=>decide
 |cons c l ih =>
  rw[List.takeWhile_cons]
  unfold Lib.indexByte
  have hg:=Lib.indexByte_ge l 10
  cases h:zd9 c with
  |false =>
   have:c=10:=by unfold zd9 at h;have:=of_decide_eq_false h;exact UInt8.toNat_inj.1 (by simpa using this)
   simp[this]
  |true =>
   have hc:(c==10)=false:=by
    unfold zd9 at h
    have:=of_decide_eq_true h
    rw[beq_eq_false_iff_ne];rintro rfl;exact this rfl
   rw[hc]
   simp only[Bool.false_eq_true,if_false,if_true,List.length_cons]
   generalize Lib.indexByte l 10=n at ih hg
   by_cases hn:n=-1
   ·subst hn;simp at ih ⊢;omega
   ·have:(n==-1)=false:=by rw[beq_eq_false_iff_ne];exact hn
    rw[this]
    rw[if_pos (by omega)]at ih
    simp only[Bool.false_eq_true,if_false]
    rw[if_pos (by omega)];omega
theorem zgq {s:ByteArray}{k:Nat}(h:k<s.size):s.data.toList.drop k=s[k]::s.data.toList.drop (k+1):=by
 rw[List.drop_eq_getElem_cons (by simpa using h)];rfl
theorem zlg {s:ByteArray}{k:Nat}(a b:UInt8):Lib.hasPrefix (s.data.toList.drop k) [a,b]=decide (byt s k=a.toNat∧byt s (k+1)=b.toNat):=by
 unfold Lib.hasPrefix
 rcases Nat.lt_or_ge k s.size with h|h
 ·rw[zgq h,zaj h]
  rcases Nat.lt_or_ge (k+1) s.size with h2|h2
  ·rw[zgq h2,zaj h2]
   rw[Bool.eq_iff_iff]
   simp only[List.isPrefixOf,Bool.and_true,Bool.and_eq_true,beq_iff_eq,decide_eq_true_eq]
   constructor
   ·rintro⟨rfl,rfl⟩;exact⟨rfl,rfl⟩
   ·rintro⟨h3,h4⟩;exact⟨UInt8.toNat_inj.1 (by omega),UInt8.toNat_inj.1 (by omega)⟩
  ·rw[List.drop_eq_nil_of_le (by simpa using h2),zci h2]
   simp[List.isPrefixOf]
 ·rw[List.drop_eq_nil_of_le (by simpa using h),zci h]
  simp[List.isPrefixOf]
theorem zny (s:ByteArray) (k:Nat):((s.extract k s.size).extract 2 (s.extract k s.size).size).data.toList=s.data.toList.drop (k+2):=by
 rw[Lib.extract_to_end,Lib.extract_to_end,List.drop_drop]
theorem znz {s:ByteArray}{k:Nat}(hk:k<s.size) (h:0<(s.extract k s.size).size):(s.extract k s.size)[0]'h=s[k]:=by
 have h1:(s.extract k s.size).data.toList[0]'(by simpa using h)=s.data.toList[k]'(by simpa using hk):=by
  have h2:=Lib.extract_to_end s k
  have h3:(s.data.toList.drop k)[0]'(by simp;omega)=s.data.toList[k]'(by simpa using hk):=by simp
  rw[←h3]
  congr 1
 exact h1
theorem zmf (s:ByteArray) (hs:s.size≤1073741824) (k:Nat) (hk:k<s.size) (w:World) (m:Int) (hm:w.cell? ⟨0,0,none⟩=some (.int .i64 m)) :
  Calls Tryz.prog 171 #[.string s,.int .i64 k] w fun e w'=>e=.returned (.int .i64 (z6 s k:Nat))∧w=w':=by
 have hk':(k:Int)<(s.size:Nat):=by omega
 have HI:=Lib.hid (show ∀w,_ from fun w=>Tryz.strings_IndexByte (s.extract k s.size) 10 w)
 rw[Lib.extract_to_end]at HI
 have HP:=Lib.hid (show ∀w,_ from fun w=>Tryz.strings_HasPrefix (s.extract k s.size) ⟨#[47,42]⟩ w)
 rw[Lib.extract_to_end,show(⟨#[47,42]⟩:ByteArray).data.toList=[47,42]from rfl,zlg]at HP
 have hsz:(s.extract k s.size).size=s.size-k:=by simp
 have HX:=Lib.hid (Tryz.strings_Index ((s.extract k s.size).extract 2 (s.extract k s.size).size) ⟨#[42,47]⟩ m w (by simp;omega) hm)
 rw[zny,show(⟨#[42,47]⟩:ByteArray).data.toList=[42,47]from rfl,hsz]at HX
 have hx0:=znz hk
 have HR:=Lib.hid (show z6 s k=_ from rfl:z6 s k=if byt s k=37 then zab zd9 s k else if byt s k=47∧byt s (k+1)=42 then (zbw s (k+2)).getD k else k)
 generalize z6 s k=q at HR ⊢
 by_cases c1:byt s k=37
 ·have d1:((s[k].toNat:Int)==37)=true:=by rw[beq_iff_eq,←zaj hk];exact c1
  have HQ:Hid ((q:Int)=if 0≤Lib.indexByte (s.data.toList.drop k) 10 then (k:Int)+Lib.indexByte (s.data.toList.drop k) 10 else s.size):=Lib.hid (by
   rw[←zlf (by omega),HR.out,if_pos c1])
  have hg:=Lib.indexByte_ge (s.data.toList.drop k) 10
  have hle:Lib.indexByte (s.data.toList.drop k) 10≤s.size:=by
   have h1:=zlf (s:=s) (k:=k) (by omega)
   have h2:=zbv (p:=zd9) (s:=s) (k:=k) (by omega)
   split at h1<;>omega
  change Hid (∀w,Calls _ _ _ w fun e w'=>e=.returned (.int .i64 (Lib.indexByte (s.data.toList.drop k) 10))∧w'=w)at HI
  generalize Lib.indexByte (s.data.toList.drop k) 10=n at HI HQ hg hle
  clear c1 HR HP HX
  by_cases c2:0≤n
  ·have d2:decide (0≤n)=true:=decide_eq_true c2
   go_enter Tryz.func171,Tryz.ntmps171
   go_wp2_with (refine(HI.out _).mono ?_;rintro e w' ⟨rfl,rfl⟩)
   go_ret
   exact⟨zm (by rw[HQ.out,if_pos (by omega)]),rfl⟩
  ·have d2:decide (0≤n)=false:=decide_eq_false c2
   go_enter Tryz.func171,Tryz.ntmps171
   go_wp2_with (refine(HI.out _).mono ?_;rintro e w' ⟨rfl,rfl⟩)
   go_ret
   exact⟨zm (by rw[HQ.out,if_neg (by omega)]),rfl⟩
 ·have d1:((s[k].toNat:Int)==37)=false:=by rw[beq_eq_false_iff_ne,←zaj hk];exact c1
  by_cases c2:byt s k=47∧byt s (k+1)=42
  ·rw[decide_eq_true (by exact c2)]at HP
   have HQ:=Lib.hid (show q=(zbw s (k+2)).getD k by rw[HR.out,if_neg c1,if_pos c2])
   unfold zbw at HQ
   have hs2:2≤s.size-k:=by
    have:=c2.2
    rcases Nat.lt_or_ge (k+1) s.size with h|h
    ·omega
    ·rw[zci h]at this;omega
   have hs2':(2:Int)≤((s.size-k:Nat):Int):=by omega
   have hg:=Lib.index_ge (s.data.toList.drop (k+2)) [42,47]
   have hle:Lib.index (s.data.toList.drop (k+2)) [42,47]≤s.size:=by
    have:=Lib.index_le (s.data.toList.drop (k+2)) [42,47]
    simp at this
    omega
   generalize Lib.index (s.data.toList.drop (k+2)) [42,47]=n at HX HQ hg hle
   clear c1 c2 HR HI
   by_cases c3:0≤n
   ·have d3:decide (0≤n)=true:=decide_eq_true c3
    go_enter Tryz.func171,Tryz.ntmps171
    go_wp2_with (first|(go_at_call 188;refine(HP.out _).mono ?_;rintro e w' ⟨rfl,rfl⟩)|(go_at_call 189;refine(HX.out).mono ?_;rintro e w' ⟨rfl,rfl⟩))
    go_ret
    exact⟨zm (by rw[HQ.out,if_pos (by omega),Option.getD_some];omega),rfl⟩
   ·have d3:decide (0≤n)=false:=decide_eq_false c3
    go_enter Tryz.func171,Tryz.ntmps171
    go_wp2_with (first|(go_at_call 188;refine(HP.out _).mono ?_;rintro e w' ⟨rfl,rfl⟩)|(go_at_call 189;refine(HX.out).mono ?_;rintro e w' ⟨rfl,rfl⟩))
    go_ret
    exact⟨zm (by rw[HQ.out,if_neg (by omega),Option.getD_none]),rfl⟩
  ·rw[decide_eq_false (by exact c2)]at HP
   have HQ:=Lib.hid (show q=k by rw[HR.out,if_neg c1,if_neg c2])
   clear c1 c2 HR HI HX
   go_enter Tryz.func171,Tryz.ntmps171
   go_wp2_with (go_at_call 188;refine(HP.out _).mono ?_;rintro e w' ⟨rfl,rfl⟩)
   go_ret
   exact⟨zm (by rw[HQ.out]),rfl⟩
theorem zey {s:ByteArray}{i:Nat}(h:i<s.size):zbw s i=if byt s i=42∧byt s (i+1)=47 then some (i+2)else zbw s (i+1):=by
 have hp:=zlg (s:=s) (k:=i) 42 47
 unfold Lib.hasPrefix at hp
 unfold zbw
 rw[zgq h]at hp ⊢
 have hg:=Lib.index_ge (s.data.toList.drop (i+1)) [42,47]
 have e:Lib.index (s[i]::s.data.toList.drop (i+1)) [42,47]=if byt s i=42∧byt s (i+1)=47 then 0 else if Lib.index (s.data.toList.drop (i+1)) [42,47]==-1 then -1 else Lib.index (s.data.toList.drop (i+1)) [42,47]+1:=by
  rw[Lib.index,hp]
  by_cases hc:byt s i=42∧byt s (i+1)=47
  ·rw[if_pos hc,if_pos (decide_eq_true (by exact hc))]
  ·rw[if_neg hc,if_neg (by rw[decide_eq_false (by exact hc)];decide)]
 rw[e]
 generalize Lib.index (s.data.toList.drop (i+1)) [42,47]=n at hg
 by_cases hc:byt s i=42∧byt s (i+1)=47
 ·rw[if_pos hc,if_pos hc];rfl
 ·rw[if_neg hc,if_neg hc]
  by_cases hn:n=-1
  ·subst hn;rfl
  ·have:(n==-1)=false:=by rw[beq_eq_false_iff_ne];exact hn
   rw[this]
   simp only[Bool.false_eq_true,if_false]
   rw[if_pos (by omega),if_pos (by omega)]
   congr 1;omega
theorem zjc {s:ByteArray}{i:Nat}(h:s.size≤i+1):zbw s i=none:=by
 rcases Nat.lt_or_ge i s.size with h1|h1
 ·rw[zey h1,if_neg (by rintro⟨-,h2⟩;rw[zci h]at h2;omega)]
  unfold zbw
  rw[List.drop_eq_nil_of_le (by simpa using h)];rfl
 ·unfold zbw
  rw[List.drop_eq_nil_of_le (by simpa using h1)];rfl
theorem zto (c:UInt8):zd9 c=((c.toNat:Int) != 10):=by
 unfold zd9
 rw[Bool.eq_iff_iff];simp;omega
theorem zmg (s:ByteArray) (hs:s.size≤1073741824) (k:Nat) (hk:k<s.size) (w:World) :
  Calls Tryz.prog 138 #[.string s,.int .i64 k] w fun e w'=>e=.returned (.int .i64 (z6 s k:Nat))∧w=w':=by
 have hk':(k:Int)<(s.size:Nat):=by omega
 have HR:=Lib.hid (show z6 s k=_ from rfl:z6 s k=if byt s k=37 then zab zd9 s k else if byt s k=47∧byt s (k+1)=42 then (zbw s (k+2)).getD k else k)
 generalize z6 s k=q at HR ⊢
 by_cases c1:byt s k=37
 ·have d1:((s[k].toNat:Int)==37)=true:=by rw[beq_iff_eq,←zaj hk];exact c1
  have HQ:=Lib.hid (show q=zab zd9 s k by rw[HR.out,if_pos c1])
  clear HR c1
  go_enter Tryz.func138,Tryz.ntmps138
  go_wp2_with fail
  go_loop [1] (fun i=>∃j:Nat,j≤s.size∧i=.int .i64 j∧zab zd9 s k=zab zd9 s j) (fun i=>s.size-(intOf i).toNat)
  case atStart=>exact⟨k,by omega,rfl,rfl⟩
  case round =>
   obtain⟨j,hj,rfl,heq⟩:=hrel
   have Heq:=Lib.hid heq;clear heq
   by_cases hlt:j<s.size
   ·have hlt':decide ((j:Int)<(s.size:Nat))=true:=decide_eq_true (by omega)
    have Hst:=Lib.hid (zcj (p:=zd9) hlt)
    have Hsp:=Lib.hid (zto s[j])
    cases hl:((s[j].toNat:Int) != 10) with
    |false =>
     have Hl:=Lib.hid hl
     go_wp2_with fail
     go_ret
     have h1:=Hst.out
     rw[Hsp.out,Hl.out,if_neg (by decide)]at h1
     exact⟨zm (by rw[HQ.out,Heq.out,h1]),rfl⟩
    |true =>
     have Hl:=Lib.hid hl
     go_wp2_with fail
     go_round
     case rel =>
      have h1:=Hst.out
      rw[Hsp.out,Hl.out,if_pos rfl]at h1
      exact⟨j+1,by omega,by go_num,by rw[Heq.out,h1]⟩
     case measure=>simp[intOf];omega
   ·have hlt':decide ((j:Int)<(s.size:Nat))=false:=decide_eq_false (by omega)
    go_wp2_with fail
    have:j=s.size:=by omega
    subst this
    go_ret
    exact⟨zm (by rw[HQ.out,Heq.out,zdo (Nat.le_refl _)]),rfl⟩
 ·have d1:((s[k].toNat:Int)==37)=false:=by rw[beq_eq_false_iff_ne,←zaj hk];exact c1
  have hwk:IntKind.i64.wrap ((k:Int)+1)=(k:Int)+1:=IntWalk.i64_in _ (by omega)
  by_cases c2:byt s k=47∧byt s (k+1)=42
  ·have HQ:=Lib.hid (show q=(zbw s (k+2)).getD k by rw[HR.out,if_neg c1,if_pos c2])
   have hs2:k+1<s.size:=by
    have:=c2.2
    rcases Nat.lt_or_ge (k+1) s.size with h|h
    ·omega
    ·rw[zci h]at this;omega
   have hs2':decide ((s.size:Int)≤(k:Int)+1)=false:=decide_eq_false (by omega)
   have d2:((s[k].toNat:Int) != 47)=false:=by rw[bne_eq_false_iff_eq,←zaj hk];exact c2.1
   have d3:((s[k+1].toNat:Int) != 42)=false:=by rw[bne_eq_false_iff_eq,←zaj hs2];exact c2.2
   clear HR c1 c2
   go_enter Tryz.func138,Tryz.ntmps138
   go_wp2_with fail
   go_loop [5] (fun i=>∃j:Nat,k+2≤j∧j≤s.size∧i=.int .i64 j∧zbw s (k+2)=zbw s j) (fun i=>s.size-(intOf i).toNat)
   case atStart=>exact⟨k+2,by omega,by omega,by go_num,rfl⟩
   case round =>
    obtain⟨j,hkj,hj,rfl,heq⟩:=hrel
    have Heq:=Lib.hid heq;clear heq
    have hwj:IntKind.i64.wrap ((j:Int)+1)=(j:Int)+1:=IntWalk.i64_in _ (by omega)
    by_cases hlt:j+1<s.size
    ·have hlt':decide ((j:Int)+1<(s.size:Nat))=true:=decide_eq_true (by omega)
     have hlt1:j<s.size:=by omega
     have Hst:=Lib.hid (zey hlt1)
     have Hb1:=Lib.hid (zaj hlt1)
     have Hb2:=Lib.hid (zaj hlt)
     cases h1:((s[j].toNat:Int)==42)<;>cases h2:((s[j+1].toNat:Int)==47)
     all_goals
      have Hc:=Lib.hid (And.intro h1 h2)
      go_wp2_with fail
      first
       |(go_ret
         obtain⟨h1,h2⟩:=Hc.out
         rw[beq_iff_eq]at h1 h2
         refine⟨zm ?_,rfl⟩
         rw[HQ.out,Heq.out,Hst.out,if_pos ⟨by rw[Hb1.out];exact h1,by rw[Hb2.out];exact h2⟩,Option.getD_some]
         omega)
       |(go_round
         case rel =>
           obtain⟨h1,h2⟩:=Hc.out
           refine⟨j+1,by go_light;omega,by go_light;omega,by go_num,?_⟩
           rw[Heq.out,Hst.out,if_neg]
           rintro⟨g1,g2⟩
           rw[Hb1.out]at g1
           rw[Hb2.out]at g2
           first|(rw[beq_eq_false_iff_ne]at h1;exact h1 g1)|(rw[beq_eq_false_iff_ne]at h2;exact h2 g2)
         case measure=>simp[intOf];omega)
    ·have hlt':decide ((j:Int)+1<(s.size:Nat))=false:=decide_eq_false (by omega)
     go_wp2_with fail
     go_ret
     exact⟨zm (by rw[HQ.out,Heq.out,zjc (by omega),Option.getD_none]),rfl⟩
  ·have HQ:=Lib.hid (show q=k by rw[HR.out,if_neg c1,if_neg c2])
   clear HR c1
   by_cases hs2:k+1<s.size
   ·have hs2':decide ((s.size:Int)≤(k:Int)+1)=false:=decide_eq_false (by omega)
    rw[zaj hk,zaj hs2]at c2
    cases h1:((s[k].toNat:Int) != 47)<;>cases h2:((s[k+1].toNat:Int) != 42)
    ·rw[bne_eq_false_iff_eq]at h1 h2
     exact absurd ⟨h1,h2⟩ c2
    all_goals
     clear c2
     go_enter Tryz.func138,Tryz.ntmps138
     go_wp2_with fail
     go_ret
     exact⟨zm (by rw[HQ.out]),rfl⟩
   ·have hs2':decide ((s.size:Int)≤(k:Int)+1)=true:=decide_eq_true (by omega)
    clear c2
    go_enter Tryz.func138,Tryz.ntmps138
    go_wp2_with fail
    go_ret
    exact⟨zm (by rw[HQ.out]),rfl⟩
def zdw:List (List UInt8):=[[60,61,62],[60,126,62],[61,62],[60,61],[126,124],[126,38],[33,61]]
def zgr:List UInt8:=[40,41,91,93,44,46,58,38,124,126,61,33,63]
def zcm (l:List UInt8):Nat :=
 match zdw.find? fun x=>x.isPrefixOf l with
 |some x=>x.length
 |none=>match l with
  |[]=>0
  |c::_=>if zgr.contains c then 1 else 0
theorem zqt (w:World):(Instr.index 204 (.agg #[.string ⟨#[60,61,62]⟩,.string ⟨#[60,126,62]⟩,.string ⟨#[61,62]⟩,.string ⟨#[60,61]⟩,.string ⟨#[126,124]⟩,.string ⟨#[126,38]⟩,.string ⟨#[33,61]⟩]) (.int .i64 0)).run Tryz.prog w=.ok (.string ⟨#[60,61,62]⟩) w:=by
 have h1:=Tryz.isAgg9
 have h2:=Tryz.sizeOf9
 simp[Instr.index,asIntOf,run_underlying (Tryz.underlying204),part,h1,h2,Result.andThen]
theorem zqu (w:World):(Instr.index 204 (.agg #[.string ⟨#[60,61,62]⟩,.string ⟨#[60,126,62]⟩,.string ⟨#[61,62]⟩,.string ⟨#[60,61]⟩,.string ⟨#[126,124]⟩,.string ⟨#[126,38]⟩,.string ⟨#[33,61]⟩]) (.int .i64 1)).run Tryz.prog w=.ok (.string ⟨#[60,126,62]⟩) w:=by
 have h1:=Tryz.isAgg9
 have h2:=Tryz.sizeOf9
 simp[Instr.index,asIntOf,run_underlying (Tryz.underlying204),part,h1,h2,Result.andThen]
theorem zqv (w:World):(Instr.index 204 (.agg #[.string ⟨#[60,61,62]⟩,.string ⟨#[60,126,62]⟩,.string ⟨#[61,62]⟩,.string ⟨#[60,61]⟩,.string ⟨#[126,124]⟩,.string ⟨#[126,38]⟩,.string ⟨#[33,61]⟩]) (.int .i64 2)).run Tryz.prog w=.ok (.string ⟨#[61,62]⟩) w:=by
 have h1:=Tryz.isAgg9
 have h2:=Tryz.sizeOf9
 simp[Instr.index,asIntOf,run_underlying (Tryz.underlying204),part,h1,h2,Result.andThen]
theorem zqw (w:World):(Instr.index 204 (.agg #[.string ⟨#[60,61,62]⟩,.string ⟨#[60,126,62]⟩,.string ⟨#[61,62]⟩,.string ⟨#[60,61]⟩,.string ⟨#[126,124]⟩,.string ⟨#[126,38]⟩,.string ⟨#[33,61]⟩]) (.int .i64 3)).run Tryz.prog w=.ok (.string ⟨#[60,61]⟩) w:=by
 have h1:=Tryz.isAgg9
 have h2:=Tryz.sizeOf9
 simp[Instr.index,asIntOf,run_underlying (Tryz.underlying204),part,h1,h2,Result.andThen]
theorem zqx (w:World):(Instr.index 204 (.agg #[.string ⟨#[60,61,62]⟩,.string ⟨#[60,126,62]⟩,.string ⟨#[61,62]⟩,.string ⟨#[60,61]⟩,.string ⟨#[126,124]⟩,.string ⟨#[126,38]⟩,.string ⟨#[33,61]⟩]) (.int .i64 4)).run Tryz.prog w=.ok (.string ⟨#[126,124]⟩) w:=by
 have h1:=Tryz.isAgg9
 have h2:=Tryz.sizeOf9
 simp[Instr.index,asIntOf,run_underlying (Tryz.underlying204),part,h1,h2,Result.andThen]
theorem zqy (w:World):(Instr.index 204 (.agg #[.string ⟨#[60,61,62]⟩,.string ⟨#[60,126,62]⟩,.string ⟨#[61,62]⟩,.string ⟨#[60,61]⟩,.string ⟨#[126,124]⟩,.string ⟨#[126,38]⟩,.string ⟨#[33,61]⟩]) (.int .i64 5)).run Tryz.prog w=.ok (.string ⟨#[126,38]⟩) w:=by
 have h1:=Tryz.isAgg9
 have h2:=Tryz.sizeOf9
 simp[Instr.index,asIntOf,run_underlying (Tryz.underlying204),part,h1,h2,Result.andThen]
theorem zqz (w:World):(Instr.index 204 (.agg #[.string ⟨#[60,61,62]⟩,.string ⟨#[60,126,62]⟩,.string ⟨#[61,62]⟩,.string ⟨#[60,61]⟩,.string ⟨#[126,124]⟩,.string ⟨#[126,38]⟩,.string ⟨#[33,61]⟩]) (.int .i64 6)).run Tryz.prog w=.ok (.string ⟨#[33,61]⟩) w:=by
 have h1:=Tryz.isAgg9
 have h2:=Tryz.sizeOf9
 simp[Instr.index,asIntOf,run_underlying (Tryz.underlying204),part,h1,h2,Result.andThen]
theorem zez {p:List UInt8→Bool}{L:List (List UInt8)}{x:List UInt8}:∀ {k:Nat},L[k]?=some x→p x=true→(∀j,j<k→∀y,L[j]?=some y→p y=false)→L.find? p=some x:=by
 induction L with
 |nil=>intro k h;simp at h
 |cons a L ih =>
  intro k h1 h2 h3
  cases k with
  |zero=>injection h1 with h1;subst h1;rw[List.find?_cons,h2]
  |succ k =>
   rw[List.find?_cons,h3 0 (by omega) a rfl]
   exact ih (k:=k) (by simpa using h1) h2 fun j hj y hy=>h3 (j+1) (by omega) y (by simpa using hy)
theorem zn0 {p:List UInt8→Bool}{L:List (List UInt8)}(h:∀j,j<L.length→∀y,L[j]?=some y→p y=false):L.find? p=none:=by
 rw[List.find?_eq_none]
 intro x hx
 obtain⟨j,hj,rfl⟩:=List.getElem_of_mem hx
 rw[h j hj _ (List.getElem?_eq_getElem hj)]
 decide
theorem zmh (l:List UInt8) (c:UInt8):decide (0≤Lib.indexByte l c)=l.contains c:=by
 induction l with
 |nil=>rfl
 |cons b l ih =>
  have hg:=Lib.indexByte_ge l c
  rw[Lib.indexByte,List.contains_cons,←ih]
  generalize Lib.indexByte l c=n at hg
  by_cases hb:b=c
  ·subst hb;simp
  ·have h1:(b==c)=false:=by rw[beq_eq_false_iff_ne];exact hb
   have h2:(c==b)=false:=by rw[beq_eq_false_iff_ne];exact fun h=>hb h.symm
   rw[h1,h2]
   by_cases hn:n=-1
   ·subst hn;rfl
   ·have h3:(n==-1)=false:=by rw[beq_eq_false_iff_ne];exact hn
    rw[h3,Bool.eq_iff_iff]
    simp;omega
theorem zzj (c:UInt8):((c.toNat:Int)).toNat.toUInt8=c:=by
 apply UInt8.toNat_inj.1
 simp
theorem zq0 (s:ByteArray) (hs:s.size≤1073741824) (h0:0<s.size) (w:World) :
  Calls Tryz.prog 191 #[.string s] w fun e w'=>e=.returned (.int .i64 (zcm s.data.toList:Nat))∧Ext w w':=by
 have HP0:=Lib.hid (fun w=>show Calls Tryz.prog 188 #[.string s,.string ⟨#[60,61,62]⟩] w (fun e w'=>e=.returned (.bool (List.isPrefixOf [60,61,62] s.data.toList))∧w'=w)from Tryz.strings_HasPrefix s ⟨#[60,61,62]⟩ w)
 have HP1:=Lib.hid (fun w=>show Calls Tryz.prog 188 #[.string s,.string ⟨#[60,126,62]⟩] w (fun e w'=>e=.returned (.bool (List.isPrefixOf [60,126,62] s.data.toList))∧w'=w)from Tryz.strings_HasPrefix s ⟨#[60,126,62]⟩ w)
 have HP2:=Lib.hid (fun w=>show Calls Tryz.prog 188 #[.string s,.string ⟨#[61,62]⟩] w (fun e w'=>e=.returned (.bool (List.isPrefixOf [61,62] s.data.toList))∧w'=w)from Tryz.strings_HasPrefix s ⟨#[61,62]⟩ w)
 have HP3:=Lib.hid (fun w=>show Calls Tryz.prog 188 #[.string s,.string ⟨#[60,61]⟩] w (fun e w'=>e=.returned (.bool (List.isPrefixOf [60,61] s.data.toList))∧w'=w)from Tryz.strings_HasPrefix s ⟨#[60,61]⟩ w)
 have HP4:=Lib.hid (fun w=>show Calls Tryz.prog 188 #[.string s,.string ⟨#[126,124]⟩] w (fun e w'=>e=.returned (.bool (List.isPrefixOf [126,124] s.data.toList))∧w'=w)from Tryz.strings_HasPrefix s ⟨#[126,124]⟩ w)
 have HP5:=Lib.hid (fun w=>show Calls Tryz.prog 188 #[.string s,.string ⟨#[126,38]⟩] w (fun e w'=>e=.returned (.bool (List.isPrefixOf [126,38] s.data.toList))∧w'=w)from Tryz.strings_HasPrefix s ⟨#[126,38]⟩ w)
 have HP6:=Lib.hid (fun w=>show Calls Tryz.prog 188 #[.string s,.string ⟨#[33,61]⟩] w (fun e w'=>e=.returned (.bool (List.isPrefixOf [33,61] s.data.toList))∧w'=w)from Tryz.strings_HasPrefix s ⟨#[33,61]⟩ w)
 have HX:=Lib.hid (fun w=>Tryz.strings_IndexByte ⟨#[40,41,91,93,44,46,58,38,124,126,61,33,63]⟩ (s[0].toNat:Int) w)
 rw[zzj]at HX
 have HL:=Lib.hid (show s.data.toList=s[0]::s.data.toList.drop 1 by rw[←zgq h0,List.drop_zero])
 have HQ:=Lib.hid (show zcm s.data.toList=_ from rfl:zcm s.data.toList=match zdw.find? fun x=>x.isPrefixOf s.data.toList with|some x=>x.length|none=>match s.data.toList with|[]=>0|c::_=>if zgr.contains c then 1 else 0)
 have hcl:=s[0].toNat_lt
 have h0':(0:Int)<(s.size:Nat):=by omega
 generalize zcm s.data.toList=q at HQ ⊢
 obtain⟨W,hW⟩:∃W,W=w.alloc (.cells #[.string ⟨#[60,61,62]⟩,.string ⟨#[60,126,62]⟩,.string ⟨#[61,62]⟩,.string ⟨#[60,61]⟩,.string ⟨#[126,124]⟩,.string ⟨#[126,38]⟩,.string ⟨#[33,61]⟩] 204):=⟨_,rfl⟩
 have hx:Ext w W:=by subst hW;go_grown
 go_enter Tryz.func191,Tryz.ntmps191
 go_wp2_with fail
 rw[←hW]
 clear hW
 go_loopw [8] (fun i wr=>∃k:Nat,k≤7∧∃z:Int,z=k∧i=.int .i64 z∧(∀j,j<k→∀x,zdw[j]?=some x→List.isPrefixOf x s.data.toList=false)∧Ext W wr) (fun i _=>7-(intOf i).toNat)
 case atStart=>exact⟨0,by omega,0,rfl,rfl,fun j hj=>absurd hj (Nat.not_lt_zero j),Below.refl _ _⟩
 case round =>
  obtain⟨k,hk,z,hz,rfl,hno,hext⟩:=hrel
  have hk8:k=0∨k=1∨k=2∨k=3∨k=4∨k=5∨k=6∨k=7:=by omega
  rcases hk8 with rfl|rfl|rfl|rfl|rfl|rfl|rfl|rfl
  ·have hz':z=0:=by omega
   subst hz'
   clear hz hk
   have HN:=Lib.hid (hno:∀j,j<0→∀x,zdw[j]?=some x→List.isPrefixOf x s.data.toList=false)
   have hix:=zqt
   clear hno
   cases hp:List.isPrefixOf [60,61,62] s.data.toList with
   |true =>
    rw[hp]at HP0
    have Hp:=Lib.hid hp
    go_wp2_with (refine(HP0.out _).mono ?_;rintro e w' ⟨rfl,rfl⟩)
    go_ret
    exact⟨zm (by rw[HQ.out,zez (p:=fun x=>x.isPrefixOf s.data.toList) (k:=0) rfl Hp.out HN.out];rfl),hx.trans hext⟩
   |false =>
    rw[hp]at HP0
    have Hp:=Lib.hid hp
    go_wp2_with (refine(HP0.out _).mono ?_;rintro e w' ⟨rfl,rfl⟩)
    go_roundw
    case rel=>exact⟨1,by omega,1,rfl,rfl,fun j hj x hxj=>by
     rcases Nat.lt_or_ge j 0 with h|h
     ·exact HN.out j h x hxj
     ·obtain rfl:j=0:=by omega
      injection hxj with hxj;subst hxj;exact Hp.out,hext⟩
    case measure=>simp[intOf]
  ·have hz':z=1:=by omega
   subst hz'
   clear hz hk
   have HN:=Lib.hid (hno:∀j,j<1→∀x,zdw[j]?=some x→List.isPrefixOf x s.data.toList=false)
   have hix:=zqu
   clear hno
   cases hp:List.isPrefixOf [60,126,62] s.data.toList with
   |true =>
    rw[hp]at HP1
    have Hp:=Lib.hid hp
    go_wp2_with (refine(HP1.out _).mono ?_;rintro e w' ⟨rfl,rfl⟩)
    go_ret
    exact⟨zm (by rw[HQ.out,zez (p:=fun x=>x.isPrefixOf s.data.toList) (k:=1) rfl Hp.out HN.out];rfl),hx.trans hext⟩
   |false =>
    rw[hp]at HP1
    have Hp:=Lib.hid hp
    go_wp2_with (refine(HP1.out _).mono ?_;rintro e w' ⟨rfl,rfl⟩)
    go_roundw
    case rel=>exact⟨2,by omega,2,rfl,rfl,fun j hj x hxj=>by
     rcases Nat.lt_or_ge j 1 with h|h
     ·exact HN.out j h x hxj
     ·obtain rfl:j=1:=by omega
      injection hxj with hxj;subst hxj;exact Hp.out,hext⟩
    case measure=>simp[intOf]
  ·have hz':z=2:=by omega
   subst hz'
   clear hz hk
   have HN:=Lib.hid (hno:∀j,j<2→∀x,zdw[j]?=some x→List.isPrefixOf x s.data.toList=false)
   have hix:=zqv
   clear hno
   cases hp:List.isPrefixOf [61,62] s.data.toList with
   |true =>
    rw[hp]at HP2
    have Hp:=Lib.hid hp
    go_wp2_with (refine(HP2.out _).mono ?_;rintro e w' ⟨rfl,rfl⟩)
    go_ret
    exact⟨zm (by rw[HQ.out,zez (p:=fun x=>x.isPrefixOf s.data.toList) (k:=2) rfl Hp.out HN.out];rfl),hx.trans hext⟩
   |false =>
    rw[hp]at HP2
    have Hp:=Lib.hid hp
    go_wp2_with (refine(HP2.out _).mono ?_;rintro e w' ⟨rfl,rfl⟩)
    go_roundw
    case rel=>exact⟨3,by omega,3,rfl,rfl,fun j hj x hxj=>by
     rcases Nat.lt_or_ge j 2 with h|h
     ·exact HN.out j h x hxj
     ·obtain rfl:j=2:=by omega
      injection hxj with hxj;subst hxj;exact Hp.out,hext⟩
    case measure=>simp[intOf]
  ·have hz':z=3:=by omega
   subst hz'
   clear hz hk
   have HN:=Lib.hid (hno:∀j,j<3→∀x,zdw[j]?=some x→List.isPrefixOf x s.data.toList=false)
   have hix:=zqw
   clear hno
   cases hp:List.isPrefixOf [60,61] s.data.toList with
   |true =>
    rw[hp]at HP3
    have Hp:=Lib.hid hp
    go_wp2_with (refine(HP3.out _).mono ?_;rintro e w' ⟨rfl,rfl⟩)
    go_ret
    exact⟨zm (by rw[HQ.out,zez (p:=fun x=>x.isPrefixOf s.data.toList) (k:=3) rfl Hp.out HN.out];rfl),hx.trans hext⟩
   |false =>
    rw[hp]at HP3
    have Hp:=Lib.hid hp
    go_wp2_with (refine(HP3.out _).mono ?_;rintro e w' ⟨rfl,rfl⟩)
    go_roundw
    case rel=>exact⟨4,by omega,4,rfl,rfl,fun j hj x hxj=>by
     rcases Nat.lt_or_ge j 3 with h|h
     ·exact HN.out j h x hxj
     ·obtain rfl:j=3:=by omega
      injection hxj with hxj;subst hxj;exact Hp.out,hext⟩
    case measure=>simp[intOf]
  ·have hz':z=4:=by omega
   subst hz'
   clear hz hk
   have HN:=Lib.hid (hno:∀j,j<4→∀x,zdw[j]?=some x→List.isPrefixOf x s.data.toList=false)
   have hix:=zqx
   clear hno
   cases hp:List.isPrefixOf [126,124] s.data.toList with
   |true =>
    rw[hp]at HP4
    have Hp:=Lib.hid hp
    go_wp2_with (refine(HP4.out _).mono ?_;rintro e w' ⟨rfl,rfl⟩)
    go_ret
    exact⟨zm (by rw[HQ.out,zez (p:=fun x=>x.isPrefixOf s.data.toList) (k:=4) rfl Hp.out HN.out];rfl),hx.trans hext⟩
   |false =>
    rw[hp]at HP4
    have Hp:=Lib.hid hp
    go_wp2_with (refine(HP4.out _).mono ?_;rintro e w' ⟨rfl,rfl⟩)
    go_roundw
    case rel=>exact⟨5,by omega,5,rfl,rfl,fun j hj x hxj=>by
     rcases Nat.lt_or_ge j 4 with h|h
     ·exact HN.out j h x hxj
     ·obtain rfl:j=4:=by omega
      injection hxj with hxj;subst hxj;exact Hp.out,hext⟩
    case measure=>simp[intOf]
  ·have hz':z=5:=by omega
   subst hz'
   clear hz hk
   have HN:=Lib.hid (hno:∀j,j<5→∀x,zdw[j]?=some x→List.isPrefixOf x s.data.toList=false)
   have hix:=zqy
   clear hno
   cases hp:List.isPrefixOf [126,38] s.data.toList with
   |true =>
    rw[hp]at HP5
    have Hp:=Lib.hid hp
    go_wp2_with (refine(HP5.out _).mono ?_;rintro e w' ⟨rfl,rfl⟩)
    go_ret
    exact⟨zm (by rw[HQ.out,zez (p:=fun x=>x.isPrefixOf s.data.toList) (k:=5) rfl Hp.out HN.out];rfl),hx.trans hext⟩
   |false =>
    rw[hp]at HP5
    have Hp:=Lib.hid hp
    go_wp2_with (refine(HP5.out _).mono ?_;rintro e w' ⟨rfl,rfl⟩)
    go_roundw
    case rel=>exact⟨6,by omega,6,rfl,rfl,fun j hj x hxj=>by
     rcases Nat.lt_or_ge j 5 with h|h
     ·exact HN.out j h x hxj
     ·obtain rfl:j=5:=by omega
      injection hxj with hxj;subst hxj;exact Hp.out,hext⟩
    case measure=>simp[intOf]
  ·have hz':z=6:=by omega
   subst hz'
   clear hz hk
   have HN:=Lib.hid (hno:∀j,j<6→∀x,zdw[j]?=some x→List.isPrefixOf x s.data.toList=false)
   have hix:=zqz
   clear hno
   cases hp:List.isPrefixOf [33,61] s.data.toList with
   |true =>
    rw[hp]at HP6
    have Hp:=Lib.hid hp
    go_wp2_with (refine(HP6.out _).mono ?_;rintro e w' ⟨rfl,rfl⟩)
    go_ret
    exact⟨zm (by rw[HQ.out,zez (p:=fun x=>x.isPrefixOf s.data.toList) (k:=6) rfl Hp.out HN.out];rfl),hx.trans hext⟩
   |false =>
    rw[hp]at HP6
    have Hp:=Lib.hid hp
    go_wp2_with (refine(HP6.out _).mono ?_;rintro e w' ⟨rfl,rfl⟩)
    go_roundw
    case rel=>exact⟨7,by omega,7,rfl,rfl,fun j hj x hxj=>by
     rcases Nat.lt_or_ge j 6 with h|h
     ·exact HN.out j h x hxj
     ·obtain rfl:j=6:=by omega
      injection hxj with hxj;subst hxj;exact Hp.out,hext⟩
    case measure=>simp[intOf]
  ·have hz':z=7:=by omega
   subst hz'
   clear hz hk
   have HN:=Lib.hid (hno:∀j,j<7→∀x,zdw[j]?=some x→List.isPrefixOf x s.data.toList=false)
   clear hno
   have HQ2:=Lib.hid (show q=if zgr.contains s[0]then 1 else 0 by rw[HQ.out,zn0 (L:=zdw) (p:=fun x=>x.isPrefixOf s.data.toList) HN.out,HL.out])
   have Hd:=Lib.hid (zmh zgr s[0])
   change Hid (∀w,Calls _ _ _ w fun e w'=>e=.returned (.int .i64 (Lib.indexByte zgr s[0]))∧w'=w)at HX
   generalize Lib.indexByte zgr s[0]=n at HX Hd
   cases hd:zgr.contains s[0] with
   |true =>
    have hd2:decide (0≤n)=true:=by rw[Hd.out,hd]
    have HQ3:=Lib.hid (show q=1 by rw[HQ2.out,hd];rfl)
    clear hd
    go_wp2_with (refine(HX.out _).mono ?_;rintro e w' ⟨rfl,rfl⟩)
    go_ret
    exact⟨zm (by rw[HQ3.out];rfl),hx.trans hext⟩
   |false =>
    have hd2:decide (0≤n)=false:=by rw[Hd.out,hd]
    have HQ3:=Lib.hid (show q=0 by rw[HQ2.out,hd];rfl)
    clear hd
    go_wp2_with (refine(HX.out _).mono ?_;rintro e w' ⟨rfl,rfl⟩)
    go_ret
    exact⟨zm (by rw[HQ3.out];rfl),hx.trans hext⟩
def zgg:List (List UInt8):=zdw++zgr.map fun c=>[c]
def zmi:List ByteArray:=[⟨#[60,61,62]⟩,⟨#[60,126,62]⟩,⟨#[61,62]⟩,⟨#[60,61]⟩,⟨#[126,124]⟩,⟨#[126,38]⟩,⟨#[33,61]⟩,⟨#[40]⟩,⟨#[41]⟩,⟨#[91]⟩,⟨#[93]⟩,⟨#[44]⟩,⟨#[46]⟩,⟨#[58]⟩,⟨#[38]⟩,⟨#[124]⟩,⟨#[126]⟩,⟨#[61]⟩,⟨#[33]⟩,⟨#[63]⟩]
theorem ztp:zgg=zmi.map fun b=>b.data.toList:=by decide
theorem zjd (l:List UInt8):∀L:List UInt8,((L.map fun c=>[c]).find? fun x=>x.isPrefixOf l)=match l with|[]=>none|c::_=>if L.contains c then some [c]else none
 |[]=>by cases l<;>rfl
 |a::L=>by
  rw[List.map_cons,List.find?_cons,zjd l L]
  cases l with
  |nil=>rfl
  |cons c l =>
   by_cases h:a=c
   ·subst h;simp[List.isPrefixOf]
   ·have h1:(a==c)=false:=by rw[beq_eq_false_iff_ne];exact h
    have h2:(c==a)=false:=by rw[beq_eq_false_iff_ne];exact fun e=>h e.symm
    simp only[List.isPrefixOf,h1,Bool.false_and,List.contains_cons,h2,Bool.false_or]
theorem zlh (l:List UInt8):zcm l=match zgg.find? fun x=>x.isPrefixOf l with|some x=>x.length|none=>0:=by
 unfold zcm zgg
 rw[List.find?_append,zjd]
 cases zdw.find? fun x=>x.isPrefixOf l with
 |some x=>rfl
 |none =>
  cases l with
  |nil=>rfl
  |cons c l =>
   cases hc:zgr.contains c
   ·simp only[hc,Bool.false_eq_true,if_false,Option.none_or]
   ·simp only[hc,if_true,Option.none_or];rfl
theorem zq1 {s x:ByteArray}(_h:x.size≤s.size):((s.extract 0 x.size).toList==x.toList)=List.isPrefixOf x.data.toList s.data.toList:=by
 rw[ByteArray.toList_eq,ByteArray.toList_eq,Lib.extract_data,List.drop_zero,Nat.sub_zero,Bool.eq_iff_iff,beq_iff_eq,List.isPrefixOf_iff_prefix]
 have e:x.size=x.data.toList.length:=by simp
 rw[e]
 constructor
 ·intro h;rw[←h];exact List.take_prefix _ _
 ·intro h;exact(List.prefix_iff_eq_take.1 h).symm
theorem zq2 {s x:ByteArray}(h:s.size<x.size):List.isPrefixOf x.data.toList s.data.toList=false:=by
 rw[Bool.eq_false_iff]
 intro hp
 rw[List.isPrefixOf_iff_prefix]at hp
 have:=hp.length_le
 simp at this
 omega
theorem z0g (w:World):∀k (h:k<20),(w.alloc (.cells #[.string ⟨#[60,61,62]⟩,.string ⟨#[60,126,62]⟩,.string ⟨#[61,62]⟩,.string ⟨#[60,61]⟩,.string ⟨#[126,124]⟩,.string ⟨#[126,38]⟩,.string ⟨#[33,61]⟩,.string ⟨#[40]⟩,.string ⟨#[41]⟩,.string ⟨#[91]⟩,.string ⟨#[93]⟩,.string ⟨#[44]⟩,.string ⟨#[46]⟩,.string ⟨#[58]⟩,.string ⟨#[38]⟩,.string ⟨#[124]⟩,.string ⟨#[126]⟩,.string ⟨#[61]⟩,.string ⟨#[33]⟩,.string ⟨#[63]⟩] 9)).cell? ⟨w.heap.size,k,none⟩=some (.string zmi[k]):=by
 intro k h
 have:k=0∨k=1∨k=2∨k=3∨k=4∨k=5∨k=6∨k=7∨k=8∨k=9∨k=10∨k=11∨k=12∨k=13∨k=14∨k=15∨k=16∨k=17∨k=18∨k=19:=by omega
 rcases this with rfl|rfl|rfl|rfl|rfl|rfl|rfl|rfl|rfl|rfl|rfl|rfl|rfl|rfl|rfl|rfl|rfl|rfl|rfl|rfl<;>go_simp<;>rfl
theorem zq3 (s:ByteArray) (hs:s.size≤1073741824) (w:World) :
  Calls Tryz.prog 176 #[.string s] w fun e w'=>e=.returned (.int .i64 (zcm s.data.toList:Nat))∧Ext w w':=by
 have HQ:=Lib.hid (zlh s.data.toList)
 generalize zcm s.data.toList=q at HQ ⊢
 obtain⟨W,hW⟩:∃W,W=w.alloc (.cells #[.string ⟨#[60,61,62]⟩,.string ⟨#[60,126,62]⟩,.string ⟨#[61,62]⟩,.string ⟨#[60,61]⟩,.string ⟨#[126,124]⟩,.string ⟨#[126,38]⟩,.string ⟨#[33,61]⟩,.string ⟨#[40]⟩,.string ⟨#[41]⟩,.string ⟨#[91]⟩,.string ⟨#[93]⟩,.string ⟨#[44]⟩,.string ⟨#[46]⟩,.string ⟨#[58]⟩,.string ⟨#[38]⟩,.string ⟨#[124]⟩,.string ⟨#[126]⟩,.string ⟨#[61]⟩,.string ⟨#[33]⟩,.string ⟨#[63]⟩] 9):=⟨_,rfl⟩
 have hx:Ext w W:=by subst hW;go_grown
 have h20:=z0g w
 rw[←hW]at h20
 go_enter Tryz.func176,Tryz.ntmps176
 go_wp2_with fail
 rw[←hW]
 clear hW
 go_loopw [4] (fun i wr=>∃k:Nat,k≤20∧i=.int .i64 k∧(∀j,j<k→∀x,zgg[j]?=some x→List.isPrefixOf x s.data.toList=false)∧Ext W wr) (fun i _=>20-(intOf i).toNat)
 case atStart=>exact⟨0,by omega,rfl,fun j hj=>absurd hj (Nat.not_lt_zero j),Below.refl _ _⟩
 case round =>
  obtain⟨k,hk,rfl,hno,hext⟩:=hrel
  have HN:=Lib.hid hno
  clear hno
  by_cases hlt:k<20
  ·have hc:=hext.cell (h20 k hlt)
   have hz:(k:Int)<20:=by omega
   obtain⟨x,hx1⟩:∃x,x=zmi[k]:=⟨_,rfl⟩
   have HX:=Lib.hid (show zgg[k]?=some x.data.toList by rw[ztp,List.getElem?_map,List.getElem?_eq_getElem (by exact hlt),hx1];rfl)
   rw[←hx1]at hc
   clear hx1
   by_cases hle:x.size≤s.size
   ·have hd:decide ((x.size:Int)≤(s.size:Nat))=true:=decide_eq_true (by omega)
    have hxs:x.size≤9223372036854775807:=by omega
    have HP:=Lib.hid (zq1 hle)
    cases hp:List.isPrefixOf x.data.toList s.data.toList with
    |true =>
     have Hp:=Lib.hid hp
     rw[hp]at HP
     have hq:=HP.out
     clear hp
     go_wp2_with fail
     go_quiet (fail)
     go_wp2_with fail
     go_ret
     refine⟨zm ?_,hx.trans (hext.drewN _)⟩
     rw[HQ.out,zez (p:=fun x=>x.isPrefixOf s.data.toList) HX.out Hp.out HN.out]
     simp
    |false =>
     have Hp:=Lib.hid hp
     rw[hp]at HP
     have hq:=HP.out
     clear hp
     go_wp2_with fail
     go_quiet (fail)
     go_wp2_with fail
     go_roundw
     case rel=>exact⟨k+1,by omega,by go_num,fun j hj x' hxj=>by
      rcases Nat.lt_or_ge j k with h|h
      ·exact HN.out j h x' hxj
      ·obtain rfl:j=k:=by omega
       rw[HX.out]at hxj
       injection hxj with hxj;subst hxj;exact Hp.out,hext.drewN _⟩
     case measure=>simp[intOf];omega
   ·have hd:decide ((x.size:Int)≤(s.size:Nat))=false:=decide_eq_false (by omega)
    go_wp2_with fail
    go_quiet (fail)
    go_wp2_with fail
    go_roundw
    case rel=>exact⟨k+1,by omega,by go_num,fun j hj x' hxj=>by
     rcases Nat.lt_or_ge j k with h|h
     ·exact HN.out j h x' hxj
     ·obtain rfl:j=k:=by omega
      rw[HX.out]at hxj
      injection hxj with hxj;subst hxj;exact zq2 (by omega),hext.drewN _⟩
    case measure=>simp[intOf];omega
  ·have hke:k=20:=by omega
   subst hke
   clear hk hlt
   go_wp2_with fail
   go_ret
   exact⟨zm (by rw[HQ.out,zn0 (L:=zgg) (p:=fun x=>x.isPrefixOf s.data.toList) HN.out];rfl),hx.trans hext⟩
def zas (s:ByteArray) (k:Nat):Int×Nat :=
 if 97≤byt s k∧byt s k≤122 then (1,zab zt s k)
 else if 65≤byt s k∧byt s k≤90 then (2,zab zt s k)
 else if 48≤byt s k∧byt s k≤57 then (5,zab zbm s k)
 else if byt s k=36 then (3,if 97≤byt s (k+1)∧byt s (k+1)≤122 then zab zt s (k+1)else k)
 else if byt s k=39 then (4,zw s k)
 else (6,k+zcm (s.data.toList.drop k))
def zbs (s:ByteArray) (k:Nat):Nat:=(zas s k).2
def zb6 (s:ByteArray) (k:Nat):Tok:=⟨(zas s k).1,if (zas s k).1=4 then s.extract (k+1) (zbs s k-1)else s.extract k (zbs s k),k⟩
def zx (s:ByteArray) (k:Nat) (w:World) (e:Ending) (w':World):Prop :=
 (∃t:Tok,e=.returned (.tuple #[.agg t.vals,.int .i64 (zbs s k:Nat)])∧(k<zbs s k→t=zb6 s k))∧Ext w w'
theorem zhx (l:List UInt8):zcm l≤l.length:=by
 rw[zlh]
 cases h:zgg.find? fun x=>x.isPrefixOf l with
 |none=>exact Nat.zero_le _
 |some x =>
  have:=List.find?_some h
  exact(List.isPrefixOf_iff_prefix.1 this).length_le
theorem zc1 (s:ByteArray) (k:Nat):k≤zw s k:=by
 unfold zw
 have:=zbu zbq s (k+1)
 split<;>omega
theorem zc2 {s:ByteArray}{k:Nat}(hk:k<s.size):zw s k≤s.size:=by
 unfold zw
 have h2:=zbv (p:=zbq) (s:=s) (k:=k+1) (by omega)
 split
 ·omega
 ·rename_i h
  rcases Nat.lt_or_ge (zab zbq s (k+1)) s.size with h3|h3
  ·omega
  ·exact absurd (.inr (by rw[zci h3];omega)) h
theorem zdg {s:ByteArray}{k:Nat}(h:k<zw s k):k+2<zw s k:=by
 unfold zw at h ⊢
 have h1:=zbu zbq s (k+1)
 split at h
 ·omega
 ·rename_i hc
  rw[if_neg hc]
  have:zab zbq s (k+1)≠k+1:=fun e=>hc (.inl e)
  omega
theorem zje (s:ByteArray) (k:Nat):k≤zbs s k:=by
 unfold zbs zas
 have h1:=zbu zt s k
 have h2:=zbu zbm s k
 have h3:=zbu zt s (k+1)
 have h4:=zc1 s k
 repeat' split
 all_goals first|exact h1|exact h2|exact h4|(simp only;omega)
theorem zjf {s:ByteArray}{k:Nat}(hk:k<s.size):zbs s k≤s.size:=by
 unfold zbs zas
 have h1:=zbv (p:=zt) (s:=s) (k:=k) (by omega)
 have h2:=zbv (p:=zbm) (s:=s) (k:=k) (by omega)
 have h3:=zbv (p:=zt) (s:=s) (k:=k+1) (by omega)
 have h4:=zc2 hk
 have h5:=zhx (s.data.toList.drop k)
 have h6:(s.data.toList.drop k).length=s.size-k:=by simp
 repeat' split
 all_goals first|exact h1|exact h2|exact h4|(simp only;omega)
theorem zbj {s:ByteArray}{k r:Nat}{n:Int}(h:zas s k=(n,r)) (h4:n≠4):zbs s k=r∧zb6 s k=⟨n,s.extract k r,k⟩:=by
 have h1:zbs s k=r:=by unfold zbs;rw[h]
 refine⟨h1,?_⟩
 unfold zb6
 rw[h1,h]
 simp only
 rw[if_neg h4]
theorem zep {s:ByteArray}{k r:Nat}(h:zas s k=(4,r)):zbs s k=r∧zb6 s k=⟨4,s.extract (k+1) (r-1),k⟩:=by
 have h1:zbs s k=r:=by unfold zbs;rw[h]
 refine⟨h1,?_⟩
 unfold zb6
 rw[h1,h]
 simp only
 rw[if_pos trivial]
theorem zdh (s:ByteArray) (i j:Nat) (a b:Int) (ha:a=i) (hb:b=j) (hij:i≤j) (hj:j≤s.size) (w:World) :
  (Instr.slice 9 (.string s) (some (.int .i64 a)) (some (.int .i64 b)) none).run Tryz.prog w=.ok (.string (s.extract i j)) w:=by
 subst ha;subst hb
 have h1:(i:Int)≤(j:Nat):=by omega
 have h2:(j:Int)≤(s.size:Nat):=by omega
 first|(go_simp;done)|simp[Instr.slice,run_underlying (Tryz.underlying9),Instr.sliceBounds,run_sliceBound,sliced, *]
theorem zca (s:ByteArray) (k:Nat) (hk:k<s.size):zld s[k]=decide (97≤byt s k∧byt s k≤122):=by
 rw[zaj hk];unfold zld;rw[Bool.eq_iff_iff];simp;omega
theorem zcn (s:ByteArray) (k:Nat) (hk:k<s.size):zle s[k]=decide (65≤byt s k∧byt s k≤90):=by
 rw[zaj hk];unfold zle;rw[Bool.eq_iff_iff];simp;omega
theorem za5 (s:ByteArray) (k:Nat) (hk:k<s.size):zbm s[k]=decide (48≤byt s k∧byt s k≤57):=by
 rw[zaj hk];unfold zbm;rw[Bool.eq_iff_iff];simp;omega
theorem zvb (s:ByteArray) (hs:s.size≤1073741824) (k:Nat) (hk:k<s.size) (w:World) (c1:97≤byt s k∧byt s k≤122) :
  Calls Tryz.prog 172 #[.string s,.int .i64 k] w (zx s k w):=by
 have hk':(k:Int)<(s.size:Nat):=by omega
 have hwk:IntKind.i64.wrap ((k:Int)+1)=(k:Int)+1:=IntWalk.i64_in _ (by omega)
 have hcl:=s[k].toNat_lt
 have HS:=Lib.hid (fun w=>zaw s[k] w)
 have HG:=Lib.hid (fun w=>zbh s[k] w)
 have HD:=Lib.hid (fun w=>zax s[k] w)
 rw[zca s k hk]at HS
 rw[zcn s k hk]at HG
 rw[za5 s k hk]at HD
 rw[decide_eq_true c1]at HS
 have HW:=Lib.hid (fun w=>zdf s hs k (by omega) w)
 have h1:=zbu zt s k
 have h2:=zbv (p:=zt) (s:=s) (k:=k) (by omega)
 have HO:=Lib.hid (zbj (s:=s) (k:=k) (r:=zab zt s k) (n:=1) (by unfold zas;simp only[*,if_true,and_self]) (by decide))
 unfold zx
 generalize zab zt s k=r at HW h1 h2 HO
 have h1':(k:Int)≤(r:Nat):=by omega
 have h2':(r:Int)≤(s.size:Nat):=by omega
 go_enter Tryz.func172,Tryz.ntmps172
 go_wp2_with (first|(go_at_call 127;refine(HS.out _).mono ?_;rintro e w' ⟨rfl,rfl⟩)|(go_at_call 161;refine(HG.out _).mono ?_;rintro e w' ⟨rfl,rfl⟩)|(go_at_call 162;refine(HD.out _).mono ?_;rintro e w' ⟨rfl,rfl⟩)|(go_at_call 122;refine(HW.out _).mono ?_;rintro e w' ⟨rfl,rfl⟩))
 refine bodyPost_ret (v:=.tuple #[.agg #[.int .i64 1,.string (s.extract k r),.int .i64 k],.int .i64 r]) (by simp[results,Tryz.results172,go_sem]) rfl ?_
 exact⟨⟨⟨1,s.extract k r,k⟩,by rw[HO.out.1];rfl,fun _=>HO.out.2.symm⟩,by go_grown⟩
theorem zvc (s:ByteArray) (hs:s.size≤1073741824) (k:Nat) (hk:k<s.size) (w:World) (c1:¬(97≤byt s k∧byt s k≤122)) (c2:65≤byt s k∧byt s k≤90) :
  Calls Tryz.prog 172 #[.string s,.int .i64 k] w (zx s k w):=by
 have hk':(k:Int)<(s.size:Nat):=by omega
 have hwk:IntKind.i64.wrap ((k:Int)+1)=(k:Int)+1:=IntWalk.i64_in _ (by omega)
 have hcl:=s[k].toNat_lt
 have HS:=Lib.hid (fun w=>zaw s[k] w)
 have HG:=Lib.hid (fun w=>zbh s[k] w)
 have HD:=Lib.hid (fun w=>zax s[k] w)
 rw[zca s k hk]at HS
 rw[zcn s k hk]at HG
 rw[za5 s k hk]at HD
 rw[(show decide (97≤byt s k∧byt s k≤122)=false from decide_eq_false c1)]at HS
 rw[decide_eq_true c2]at HG
 have HW:=Lib.hid (fun w=>zdf s hs k (by omega) w)
 have h1:=zbu zt s k
 have h2:=zbv (p:=zt) (s:=s) (k:=k) (by omega)
 have HO:=Lib.hid (zbj (s:=s) (k:=k) (r:=zab zt s k) (n:=2) (by unfold zas;simp only[*,if_true,if_false,and_self]) (by decide))
 unfold zx
 generalize zab zt s k=r at HW h1 h2 HO
 have h1':(k:Int)≤(r:Nat):=by omega
 have h2':(r:Int)≤(s.size:Nat):=by omega
 go_enter Tryz.func172,Tryz.ntmps172
 go_wp2_with (first|(go_at_call 127;refine(HS.out _).mono ?_;rintro e w' ⟨rfl,rfl⟩)|(go_at_call 161;refine(HG.out _).mono ?_;rintro e w' ⟨rfl,rfl⟩)|(go_at_call 162;refine(HD.out _).mono ?_;rintro e w' ⟨rfl,rfl⟩)|(go_at_call 122;refine(HW.out _).mono ?_;rintro e w' ⟨rfl,rfl⟩))
 refine bodyPost_ret (v:=.tuple #[.agg #[.int .i64 2,.string (s.extract k r),.int .i64 k],.int .i64 r]) (by simp[results,Tryz.results172,go_sem]) rfl ?_
 exact⟨⟨⟨2,s.extract k r,k⟩,by rw[HO.out.1];rfl,fun _=>HO.out.2.symm⟩,by go_grown⟩
theorem zvd (s:ByteArray) (hs:s.size≤1073741824) (k:Nat) (hk:k<s.size) (w:World) (c1:¬(97≤byt s k∧byt s k≤122)) (c2:¬(65≤byt s k∧byt s k≤90)) (c3:48≤byt s k∧byt s k≤57) :
  Calls Tryz.prog 172 #[.string s,.int .i64 k] w (zx s k w):=by
 have hk':(k:Int)<(s.size:Nat):=by omega
 have hwk:IntKind.i64.wrap ((k:Int)+1)=(k:Int)+1:=IntWalk.i64_in _ (by omega)
 have hcl:=s[k].toNat_lt
 have HS:=Lib.hid (fun w=>zaw s[k] w)
 have HG:=Lib.hid (fun w=>zbh s[k] w)
 have HD:=Lib.hid (fun w=>zax s[k] w)
 rw[zca s k hk]at HS
 rw[zcn s k hk]at HG
 rw[za5 s k hk]at HD
 rw[(show decide (97≤byt s k∧byt s k≤122)=false from decide_eq_false c1)]at HS
 rw[(show decide (65≤byt s k∧byt s k≤90)=false from decide_eq_false c2)]at HG
 rw[decide_eq_true c3]at HD
 have HW:=Lib.hid (fun w=>zk0 s hs k (by omega) w)
 have h1:=zbu zbm s k
 have h2:=zbv (p:=zbm) (s:=s) (k:=k) (by omega)
 have HO:=Lib.hid (zbj (s:=s) (k:=k) (r:=zab zbm s k) (n:=5) (by unfold zas;simp only[*,if_true,if_false,and_self]) (by decide))
 unfold zx
 generalize zab zbm s k=r at HW h1 h2 HO
 have h1':(k:Int)≤(r:Nat):=by omega
 have h2':(r:Int)≤(s.size:Nat):=by omega
 go_enter Tryz.func172,Tryz.ntmps172
 go_wp2_with (first|(go_at_call 127;refine(HS.out _).mono ?_;rintro e w' ⟨rfl,rfl⟩)|(go_at_call 161;refine(HG.out _).mono ?_;rintro e w' ⟨rfl,rfl⟩)|(go_at_call 162;refine(HD.out _).mono ?_;rintro e w' ⟨rfl,rfl⟩)|(go_at_call 122;refine(HW.out _).mono ?_;rintro e w' ⟨rfl,rfl⟩))
 refine bodyPost_ret (v:=.tuple #[.agg #[.int .i64 5,.string (s.extract k r),.int .i64 k],.int .i64 r]) (by simp[results,Tryz.results172,go_sem]) rfl ?_
 exact⟨⟨⟨5,s.extract k r,k⟩,by rw[HO.out.1];rfl,fun _=>HO.out.2.symm⟩,by go_grown⟩
theorem zq4 (s:ByteArray) (hs:s.size≤1073741824) (k:Nat) (hk:k<s.size) (w:World) (c1:¬(97≤byt s k∧byt s k≤122)) (c2:¬(65≤byt s k∧byt s k≤90)) (c3:¬(48≤byt s k∧byt s k≤57)) (c4:byt s k=36) (hk1:k+1<s.size) (c5:97≤byt s (k+1)∧byt s (k+1)≤122) :
  Calls Tryz.prog 172 #[.string s,.int .i64 k] w (zx s k w):=by
 have hk':(k:Int)<(s.size:Nat):=by omega
 have hwk:IntKind.i64.wrap ((k:Int)+1)=(k:Int)+1:=IntWalk.i64_in _ (by omega)
 have hcl:=s[k].toNat_lt
 have HS:=Lib.hid (fun w=>zaw s[k] w)
 have HG:=Lib.hid (fun w=>zbh s[k] w)
 have HD:=Lib.hid (fun w=>zax s[k] w)
 rw[zca s k hk]at HS
 rw[zcn s k hk]at HG
 rw[za5 s k hk]at HD
 rw[(show decide (97≤byt s k∧byt s k≤122)=false from decide_eq_false c1)]at HS
 rw[(show decide (65≤byt s k∧byt s k≤90)=false from decide_eq_false c2)]at HG
 rw[(show decide (48≤byt s k∧byt s k≤57)=false from decide_eq_false c3)]at HD
 have HW:=Lib.hid (fun w=>zdf s hs (k+1) (by omega) w)
 rw[show((k+1:Nat):Int)=(k:Int)+1 by omega]at HW
 have HS2:=Lib.hid (fun w=>zaw s[k+1] w)
 rw[zca s (k+1) hk1,decide_eq_true c5]at HS2
 have h1:=zbu zt s (k+1)
 have h2:=zbv (p:=zt) (s:=s) (k:=k+1) (by omega)
 have HO:=Lib.hid (zbj (s:=s) (k:=k) (r:=zab zt s (k+1)) (n:=3) (by unfold zas;rw[if_neg c1,if_neg c2,if_neg c3,if_pos c4,if_pos c5]) (by decide))
 have d4:((s[k].toNat:Int)==36)=true:=by rw[beq_iff_eq,←zaj hk];exact c4
 have d5:decide ((k:Int)+1<(s.size:Nat))=true:=decide_eq_true (by omega)
 have d6:(k:Int)+1<(s.size:Nat):=by omega
 unfold zx
 generalize zab zt s (k+1)=r at HW h1 h2 HO
 have h1':(k:Int)≤(r:Nat):=by omega
 have h2':(r:Int)≤(s.size:Nat):=by omega
 clear c1 c2 c3 c4 c5
 go_enter Tryz.func172,Tryz.ntmps172
 go_wp2_with (first|(go_at_call 127;with_reducible refine(HS2.out _).mono ?_;rintro e w' ⟨rfl,rfl⟩)|(go_at_call 127;refine(HS.out _).mono ?_;rintro e w' ⟨rfl,rfl⟩)|(go_at_call 161;refine(HG.out _).mono ?_;rintro e w' ⟨rfl,rfl⟩)|(go_at_call 162;refine(HD.out _).mono ?_;rintro e w' ⟨rfl,rfl⟩)|(go_at_call 122;refine(HW.out _).mono ?_;rintro e w' ⟨rfl,rfl⟩))
 refine bodyPost_ret (v:=.tuple #[.agg #[.int .i64 3,.string (s.extract k r),.int .i64 k],.int .i64 r]) (by simp[results,Tryz.results172,go_sem]) rfl ?_
 exact⟨⟨⟨3,s.extract k r,k⟩,by rw[HO.out.1];rfl,fun _=>HO.out.2.symm⟩,by go_grown⟩
theorem zq5 (s:ByteArray) (hs:s.size≤1073741824) (k:Nat) (hk:k<s.size) (w:World) (c1:¬(97≤byt s k∧byt s k≤122)) (c2:¬(65≤byt s k∧byt s k≤90)) (c3:¬(48≤byt s k∧byt s k≤57)) (c4:byt s k=36) (hk1:k+1<s.size) (c5:¬(97≤byt s (k+1)∧byt s (k+1)≤122)) :
  Calls Tryz.prog 172 #[.string s,.int .i64 k] w (zx s k w):=by
 have hk':(k:Int)<(s.size:Nat):=by omega
 have hwk:IntKind.i64.wrap ((k:Int)+1)=(k:Int)+1:=IntWalk.i64_in _ (by omega)
 have hcl:=s[k].toNat_lt
 have HS:=Lib.hid (fun w=>zaw s[k] w)
 have HG:=Lib.hid (fun w=>zbh s[k] w)
 have HD:=Lib.hid (fun w=>zax s[k] w)
 rw[zca s k hk]at HS
 rw[zcn s k hk]at HG
 rw[za5 s k hk]at HD
 rw[(show decide (97≤byt s k∧byt s k≤122)=false from decide_eq_false c1)]at HS
 rw[(show decide (65≤byt s k∧byt s k≤90)=false from decide_eq_false c2)]at HG
 rw[(show decide (48≤byt s k∧byt s k≤57)=false from decide_eq_false c3)]at HD
 have HS2:=Lib.hid (fun w=>zaw s[k+1] w)
 rw[zca s (k+1) hk1,(show decide (97≤byt s (k+1)∧byt s (k+1)≤122)=false from decide_eq_false c5)]at HS2
 have HO:=Lib.hid (zbj (s:=s) (k:=k) (r:=k) (n:=3) (by unfold zas;rw[if_neg c1,if_neg c2,if_neg c3,if_pos c4,if_neg c5]) (by decide))
 have d4:((s[k].toNat:Int)==36)=true:=by rw[beq_iff_eq,←zaj hk];exact c4
 have d5:decide ((k:Int)+1<(s.size:Nat))=true:=decide_eq_true (by omega)
 have d6:(k:Int)+1<(s.size:Nat):=by omega
 unfold zx
 clear c1 c2 c3 c4 c5
 have hsl:=fun w=>zdh s k k k k rfl rfl (Nat.le_refl _) (by omega) w
 generalize s.extract k k=tx at hsl
 go_enter Tryz.func172,Tryz.ntmps172
 go_wp2_with (first|(go_at_call 127;with_reducible refine(HS2.out _).mono ?_;rintro e w' ⟨rfl,rfl⟩)|(go_at_call 127;refine(HS.out _).mono ?_;rintro e w' ⟨rfl,rfl⟩)|(go_at_call 161;refine(HG.out _).mono ?_;rintro e w' ⟨rfl,rfl⟩)|(go_at_call 162;refine(HD.out _).mono ?_;rintro e w' ⟨rfl,rfl⟩))
 refine bodyPost_ret (v:=.tuple #[.agg #[.int .i64 3,.string tx,.int .i64 k],.int .i64 k]) (by simp[results,Tryz.results172,go_sem]) rfl ?_
 exact⟨⟨⟨3,tx,k⟩,by rw[HO.out.1];rfl,fun h=>by rw[HO.out.1]at h;exact absurd h (Nat.lt_irrefl _)⟩,by go_grown⟩
theorem zq6 (s:ByteArray) (hs:s.size≤1073741824) (k:Nat) (hk:k<s.size) (w:World) (c1:¬(97≤byt s k∧byt s k≤122)) (c2:¬(65≤byt s k∧byt s k≤90)) (c3:¬(48≤byt s k∧byt s k≤57)) (c4:byt s k=36) (hk1:¬k+1<s.size) (c5:¬(97≤byt s (k+1)∧byt s (k+1)≤122)) :
  Calls Tryz.prog 172 #[.string s,.int .i64 k] w (zx s k w):=by
 have hk':(k:Int)<(s.size:Nat):=by omega
 have hwk:IntKind.i64.wrap ((k:Int)+1)=(k:Int)+1:=IntWalk.i64_in _ (by omega)
 have hcl:=s[k].toNat_lt
 have HS:=Lib.hid (fun w=>zaw s[k] w)
 have HG:=Lib.hid (fun w=>zbh s[k] w)
 have HD:=Lib.hid (fun w=>zax s[k] w)
 rw[zca s k hk]at HS
 rw[zcn s k hk]at HG
 rw[za5 s k hk]at HD
 rw[(show decide (97≤byt s k∧byt s k≤122)=false from decide_eq_false c1)]at HS
 rw[(show decide (65≤byt s k∧byt s k≤90)=false from decide_eq_false c2)]at HG
 rw[(show decide (48≤byt s k∧byt s k≤57)=false from decide_eq_false c3)]at HD
 have HO:=Lib.hid (zbj (s:=s) (k:=k) (r:=k) (n:=3) (by unfold zas;rw[if_neg c1,if_neg c2,if_neg c3,if_pos c4,if_neg c5]) (by decide))
 have d4:((s[k].toNat:Int)==36)=true:=by rw[beq_iff_eq,←zaj hk];exact c4
 have d5:decide ((k:Int)+1<(s.size:Nat))=false:=decide_eq_false (by omega)
 unfold zx
 clear c1 c2 c3 c4 c5
 have hsl:=fun w=>zdh s k k k k rfl rfl (Nat.le_refl _) (by omega) w
 generalize s.extract k k=tx at hsl
 go_enter Tryz.func172,Tryz.ntmps172
 go_wp2_with (first|(go_at_call 127;refine(HS.out _).mono ?_;rintro e w' ⟨rfl,rfl⟩)|(go_at_call 161;refine(HG.out _).mono ?_;rintro e w' ⟨rfl,rfl⟩)|(go_at_call 162;refine(HD.out _).mono ?_;rintro e w' ⟨rfl,rfl⟩))
 refine bodyPost_ret (v:=.tuple #[.agg #[.int .i64 3,.string tx,.int .i64 k],.int .i64 k]) (by simp[results,Tryz.results172,go_sem]) rfl ?_
 exact⟨⟨⟨3,tx,k⟩,by rw[HO.out.1];rfl,fun h=>by rw[HO.out.1]at h;exact absurd h (Nat.lt_irrefl _)⟩,by go_grown⟩
theorem ztq (s:ByteArray) (hs:s.size≤1073741824) (k:Nat) (hk:k<s.size) (w:World) (c1:¬(97≤byt s k∧byt s k≤122)) (c2:¬(65≤byt s k∧byt s k≤90)) (c3:¬(48≤byt s k∧byt s k≤57)) (c4:byt s k=39) (c5:k<zw s k) :
  Calls Tryz.prog 172 #[.string s,.int .i64 k] w (zx s k w):=by
 have hk':(k:Int)<(s.size:Nat):=by omega
 have hwk:IntKind.i64.wrap ((k:Int)+1)=(k:Int)+1:=IntWalk.i64_in _ (by omega)
 have hcl:=s[k].toNat_lt
 have HS:=Lib.hid (fun w=>zaw s[k] w)
 have HG:=Lib.hid (fun w=>zbh s[k] w)
 have HD:=Lib.hid (fun w=>zax s[k] w)
 rw[zca s k hk]at HS
 rw[zcn s k hk]at HG
 rw[za5 s k hk]at HD
 rw[(show decide (97≤byt s k∧byt s k≤122)=false from decide_eq_false c1)]at HS
 rw[(show decide (65≤byt s k∧byt s k≤90)=false from decide_eq_false c2)]at HG
 rw[(show decide (48≤byt s k∧byt s k≤57)=false from decide_eq_false c3)]at HD
 have HW:=Lib.hid (fun w=>zgo s hs k hk w)
 have hq2:=@zdg s k
 have hq1:=zc2 hk
 have hq0:=zc1 s k
 have HO:=Lib.hid (zep (s:=s) (k:=k) (r:=zw s k) (by unfold zas;rw[if_neg c1,if_neg c2,if_neg c3,if_neg (by omega),if_pos c4]))
 have d4:((s[k].toNat:Int)==36)=false:=by rw[beq_eq_false_iff_ne,←zaj hk];omega
 have d5:((s[k].toNat:Int)==39)=true:=by rw[beq_iff_eq,←zaj hk];exact c4
 unfold zx
 generalize zw s k=r at *
 clear c1 c2 c3 c4
 have h2:=hq2 c5
 have d6:decide ((k:Int)<(r:Nat))=true:=decide_eq_true (by omega)
 have d7:(k:Int)+1≤(r:Int)-1:=by omega
 have d8:(r:Int)-1≤(s.size:Nat):=by omega
 have d9:IntKind.i64.wrap ((r:Int)-1)=(r:Int)-1:=IntWalk.i64_in _ (by omega)
 have d10:((r:Int)-1).toNat=r-1:=by omega
 have d11:((k:Int)+1).toNat=k+1:=by omega
 have hsl:=fun w=>zdh s (k+1) (r-1) ((k:Int)+1) ((r:Int)-1) (by omega) (by omega) (by omega) (by omega) w
 generalize s.extract (k+1) (r-1)=tx at hsl HO
 clear hq2 d10 d11 d7 d8
 go_enter Tryz.func172,Tryz.ntmps172
 go_wp2_with (first|(go_at_call 190;refine(HW.out _).mono ?_;rintro e w' ⟨rfl,rfl⟩)|(go_at_call 127;refine(HS.out _).mono ?_;rintro e w' ⟨rfl,rfl⟩)|(go_at_call 161;refine(HG.out _).mono ?_;rintro e w' ⟨rfl,rfl⟩)|(go_at_call 162;refine(HD.out _).mono ?_;rintro e w' ⟨rfl,rfl⟩))
 refine bodyPost_ret (v:=.tuple #[.agg #[.int .i64 4,.string (tx),.int .i64 k],.int .i64 r]) (by simp[results,Tryz.results172,go_sem]) rfl ?_
 exact⟨⟨⟨4,tx,k⟩,by rw[HO.out.1];rfl,fun _=>HO.out.2.symm⟩,by go_grown⟩
theorem ztr (s:ByteArray) (hs:s.size≤1073741824) (k:Nat) (hk:k<s.size) (w:World) (c1:¬(97≤byt s k∧byt s k≤122)) (c2:¬(65≤byt s k∧byt s k≤90)) (c3:¬(48≤byt s k∧byt s k≤57)) (c4:byt s k=39) (c5:¬k<zw s k) :
  Calls Tryz.prog 172 #[.string s,.int .i64 k] w (zx s k w):=by
 have hk':(k:Int)<(s.size:Nat):=by omega
 have hwk:IntKind.i64.wrap ((k:Int)+1)=(k:Int)+1:=IntWalk.i64_in _ (by omega)
 have hcl:=s[k].toNat_lt
 have HS:=Lib.hid (fun w=>zaw s[k] w)
 have HG:=Lib.hid (fun w=>zbh s[k] w)
 have HD:=Lib.hid (fun w=>zax s[k] w)
 rw[zca s k hk]at HS
 rw[zcn s k hk]at HG
 rw[za5 s k hk]at HD
 rw[(show decide (97≤byt s k∧byt s k≤122)=false from decide_eq_false c1)]at HS
 rw[(show decide (65≤byt s k∧byt s k≤90)=false from decide_eq_false c2)]at HG
 rw[(show decide (48≤byt s k∧byt s k≤57)=false from decide_eq_false c3)]at HD
 have HW:=Lib.hid (fun w=>zgo s hs k hk w)
 have hq2:=@zdg s k
 have hq1:=zc2 hk
 have hq0:=zc1 s k
 have HO:=Lib.hid (zep (s:=s) (k:=k) (r:=zw s k) (by unfold zas;rw[if_neg c1,if_neg c2,if_neg c3,if_neg (by omega),if_pos c4]))
 have d4:((s[k].toNat:Int)==36)=false:=by rw[beq_eq_false_iff_ne,←zaj hk];omega
 have d5:((s[k].toNat:Int)==39)=true:=by rw[beq_iff_eq,←zaj hk];exact c4
 unfold zx
 generalize zw s k=r at *
 clear c1 c2 c3 c4
 have d6:decide ((k:Int)<(r:Nat))=false:=decide_eq_false (by omega)
 clear hq2
 go_enter Tryz.func172,Tryz.ntmps172
 go_wp2_with (first|(go_at_call 190;refine(HW.out _).mono ?_;rintro e w' ⟨rfl,rfl⟩)|(go_at_call 127;refine(HS.out _).mono ?_;rintro e w' ⟨rfl,rfl⟩)|(go_at_call 161;refine(HG.out _).mono ?_;rintro e w' ⟨rfl,rfl⟩)|(go_at_call 162;refine(HD.out _).mono ?_;rintro e w' ⟨rfl,rfl⟩))
 refine bodyPost_ret (v:=.tuple #[.agg #[.int .i64 4,.string (⟨#[]⟩),.int .i64 k],.int .i64 r]) (by simp[results,Tryz.results172,go_sem]) rfl ?_
 exact⟨⟨⟨4,⟨#[]⟩,k⟩,by rw[HO.out.1];rfl,fun h=>by rw[HO.out.1]at h;exact absurd h c5⟩,by go_grown⟩
theorem zxn (s:ByteArray) (hs:s.size≤1073741824) (k:Nat) (hk:k<s.size) (w:World) (c1:¬(97≤byt s k∧byt s k≤122)) (c2:¬(65≤byt s k∧byt s k≤90)) (c3:¬(48≤byt s k∧byt s k≤57)) (c4:¬byt s k=36) (c5:¬byt s k=39) :
  Calls Tryz.prog 172 #[.string s,.int .i64 k] w (zx s k w):=by
 have hk':(k:Int)<(s.size:Nat):=by omega
 have hwk:IntKind.i64.wrap ((k:Int)+1)=(k:Int)+1:=IntWalk.i64_in _ (by omega)
 have hcl:=s[k].toNat_lt
 have HS:=Lib.hid (fun w=>zaw s[k] w)
 have HG:=Lib.hid (fun w=>zbh s[k] w)
 have HD:=Lib.hid (fun w=>zax s[k] w)
 rw[zca s k hk]at HS
 rw[zcn s k hk]at HG
 rw[za5 s k hk]at HD
 rw[(show decide (97≤byt s k∧byt s k≤122)=false from decide_eq_false c1)]at HS
 rw[(show decide (65≤byt s k∧byt s k≤90)=false from decide_eq_false c2)]at HG
 rw[(show decide (48≤byt s k∧byt s k≤57)=false from decide_eq_false c3)]at HD
 have hsz:(s.extract k s.size).size=s.size-k:=by simp
 have hsl:=zhx (s.data.toList.drop k)
 rw[show(s.data.toList.drop k).length=s.size-k by simp]at hsl
 have HX:=Lib.hid (fun w=>zq0 (s.extract k s.size) (by omega) (by omega) w)
 rw[Lib.extract_to_end]at HX
 have HO:=Lib.hid (zbj (s:=s) (k:=k) (r:=k+zcm (s.data.toList.drop k)) (n:=6) (by unfold zas;rw[if_neg c1,if_neg c2,if_neg c3,if_neg c4,if_neg c5]) (by decide))
 have d4:((s[k].toNat:Int)==36)=false:=by rw[beq_eq_false_iff_ne,←zaj hk];exact c4
 have d5:((s[k].toNat:Int)==39)=false:=by rw[beq_eq_false_iff_ne,←zaj hk];exact c5
 unfold zx
 generalize zcm (s.data.toList.drop k)=n at HX hsl HO
 have hn:(k:Int)+(n:Nat)≤(s.size:Nat):=by omega
 have hn0:(0:Int)≤(n:Nat):=by omega
 have hsl2:=fun w=>zdh s k (k+n) (k:Int) ((k:Int)+(n:Nat)) rfl (by omega) (by omega) (by omega) w
 generalize s.extract k (k+n)=tx at hsl2 HO
 have hwn:IntKind.i64.wrap ((k:Int)+(n:Nat))=(k:Int)+(n:Nat):=IntWalk.i64_in _ (by omega)
 clear c1 c2 c3 c4 c5 hsl
 obtain⟨W,hW⟩:∃W,W=w.alloc (.cells #[.int .i64 0,.string ⟨#[]⟩,.int .i64 k] 77):=⟨_,rfl⟩
 have hx:Ext w W:=by subst hW;go_grown
 have ho:=own3 w (.int .i64 0) (.string ⟨#[]⟩) (.int .i64 k) 77
 rw[←hW]at ho
 go_enter Tryz.func172,Tryz.ntmps172
 go_wp2_with (first|(go_at_call 191;rw[←hW];clear hW;refine(HX.out _).mono ?_;rintro e w' ⟨rfl,hw'⟩;have ho1:=ho.ext hw';obtain⟨t0,u0⟩:=ho1 0 _ rfl;obtain⟨t1,u1⟩:=ho1 1 _ rfl;obtain⟨t2,u2⟩:=ho1 2 _ rfl)|(go_at_call 127;refine(HS.out _).mono ?_;rintro e w' ⟨rfl,rfl⟩)|(go_at_call 161;refine(HG.out _).mono ?_;rintro e w' ⟨rfl,rfl⟩)|(go_at_call 162;refine(HD.out _).mono ?_;rintro e w' ⟨rfl,rfl⟩))
 have hf:=((((ho1.set (i:=0) (by simp) (.int .i64 6)).set (i:=1) (by simp) (.string tx)).set (i:=0) (by simp) (.int .i64 6)).set (i:=1) (by simp) (.string tx)).set (i:=2) (by simp) (.int .i64 k)
 have r0:=(hf 0 (.int .i64 6) rfl).1
 have r1:=(hf 1 (.string tx) rfl).1
 have r2:=(hf 2 (.int .i64 k) rfl).1
 refine bodyPost_ret (v:=.tuple #[.agg #[.int .i64 6,.string tx,.int .i64 k],.int .i64 ((k:Int)+(n:Nat))]) (by simp[results,Tryz.results172,go_sem,r0,r1,r2]) rfl ?_
 refine⟨⟨⟨6,tx,k⟩,by rw[HO.out.1];rfl,fun _=>HO.out.2.symm⟩,Chg.ext (S:=[w.heap.size]) (hx.trans hw') ?_ (by simp)⟩
 exact(((((Chg.refl _ _).setCell _ (.inl (by simp))).setCell _ (.inl (by simp))).setCell _ (.inl (by simp))).setCell _ (.inl (by simp))).setCell _ (.inl (by simp))
theorem zve (s:ByteArray) (hs:s.size≤1073741824) (k:Nat) (hk:k<s.size) (w:World):Calls Tryz.prog 172 #[.string s,.int .i64 k] w (zx s k w):=by
 by_cases c1:97≤byt s k∧byt s k≤122
 ·exact zvb s hs k hk w c1
 by_cases c2:65≤byt s k∧byt s k≤90
 ·exact zvc s hs k hk w c1 c2
 by_cases c3:48≤byt s k∧byt s k≤57
 ·exact zvd s hs k hk w c1 c2 c3
 by_cases c4:byt s k=36
 ·by_cases h1:k+1<s.size
  ·by_cases c5:97≤byt s (k+1)∧byt s (k+1)≤122
   ·exact zq4 s hs k hk w c1 c2 c3 c4 h1 c5
   ·exact zq5 s hs k hk w c1 c2 c3 c4 h1 c5
  ·exact zq6 s hs k hk w c1 c2 c3 c4 h1 (by rw[zci (by omega)];omega)
 by_cases c5:byt s k=39
 ·by_cases h1:k<zw s k
  ·exact ztq s hs k hk w c1 c2 c3 c5 h1
  ·exact ztr s hs k hk w c1 c2 c3 c5 h1
 ·exact zxn s hs k hk w c1 c2 c3 c4 c5
end Go.Proofs.YtnclgkdpafhogaaGreat
