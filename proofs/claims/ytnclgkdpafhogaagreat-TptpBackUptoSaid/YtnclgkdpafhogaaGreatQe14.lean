/- Where quoted tokens, remarks end: the reference's quoted, remark, token.remark. Condition: a text of at most 2^30 bytes; for token.remark the library's variable holds a number.
How long a sign is: token.sign. Condition: a text of at most 2^30 bytes.
How long a sign is: the reference's Sign. Condition: a text of at most 2^30 bytes.
The token at a place: token.one, the reference's one. Condition: a text of at most 2^30 bytes.
Plain: how a text is cut into tokens, step by step. No condition.
The reference's Tokens. Condition: a text of at most 1048576 bytes.
The reference's Cut. Condition: a text of at most 1048576 bytes.
Plain: a reading leaves the last token, if it is an end; a text read as a formula. No condition.
formula.counts, Upper, mayExpr. Condition: at most 4194304 parts. -/
import Derived.Test.YtnclgkdpafhogaaGreatQe13
import Derived.Deep.Light
import Derived.Test.YtnclgkdpafhogaaGreatQe0
import Derived.Test.YtnclgkdpafhogaaGreatQe3
import Derived.Test.YtnclgkdpafhogaaGreatQe1
set_option maxHeartbeats 16000000
set_option maxRecDepth 100000
namespace Go.Proofs.YtnclgkdpafhogaaGreat
open Go.ChangeShapes Go.WideShapes Go.ChangeAt Go.RowKit
def zij (c:UInt8):Bool:=decide (c.toNat≠10)
def zcc (s:ByteArray) (i:Nat):Option Nat:=if 0≤Lib.index (s.data.toList.drop i) [42,47]then some (i+(Lib.index (s.data.toList.drop i) [42,47]).toNat+2)else none
def zar (s:ByteArray) (k:Nat):Nat:=if byt s k=37 then zaj zij s k else if byt s k=47∧byt s (k+1)=42 then (zcc s (k+2)).getD k else k
theorem zms {s:ByteArray}{k:Nat}(hk:k≤s.size):(zaj zij s k:Nat)=if 0≤Lib.indexByte (s.data.toList.drop k) 10 then (k:Int)+Lib.indexByte (s.data.toList.drop k) 10 else s.size:=by
 unfold zaj
 have hl:(s.data.toList.drop k).length=s.size-k:=by simp
 generalize s.data.toList.drop k=l at hl
 have hk2:(s.size:Int)=(k:Int)+l.length:=by omega
 rw[hk2]
 clear hk2 hl hk
 suffices h:((l.takeWhile zij).length:Int)=if 0≤Lib.indexByte l 10 then Lib.indexByte l 10 else l.length by
  split at h<;>split<;>first|omega|contradiction
 induction l with
 |nil=>decide
 |cons c l ih =>
  rw[List.takeWhile_cons]
  unfold Lib.indexByte
  have hg:=Lib.indexByte_ge l 10
  cases h:zij c with
  |false =>
   have:c=10:=by unfold zij at h;have:=of_decide_eq_false h;exact UInt8.toNat_inj.1 (by simpa using this)
   simp[this]
  |true =>
   have hc:(c==10)=false:=by
    unfold zij at h
    have:=of_decide_eq_true h
    rw[beq_eq_false_iff_ne];rintro rfl;exact this rfl
   rw[hc]
   simp only[Bool.false_eq_true,if_false,if_true,List.length_cons]
   generalize Lib.indexByte l 10=n at ih hg
   by_cases hn:n=-1
   ·subst hn;simp at ih ⊢;omega
   ·have:(n==-1)=false:=by rw[beq_eq_false_iff_ne];exact hn
    rw[this]
    rw[if_pos (by omega)]at ih
    simp only[Bool.false_eq_true,if_false]
    rw[if_pos (by omega)];omega
theorem zhb {s:ByteArray}{k:Nat}(h:k<s.size):s.data.toList.drop k=s[k]::s.data.toList.drop (k+1):=by
 rw[List.drop_eq_getElem_cons (by simpa using h)];rfl
theorem zmt {s:ByteArray}{k:Nat}(a b:UInt8):Lib.hasPrefix (s.data.toList.drop k) [a,b]=decide (byt s k=a.toNat∧byt s (k+1)=b.toNat):=by
 unfold Lib.hasPrefix
 rcases Nat.lt_or_ge k s.size with h|h
 ·rw[zhb h,zbs h]
  rcases Nat.lt_or_ge (k+1) s.size with h2|h2
  ·rw[zhb h2,zbs h2]
   rw[Bool.eq_iff_iff]
   simp only[List.isPrefixOf,Bool.and_true,Bool.and_eq_true,beq_iff_eq,decide_eq_true_eq]
   constructor
   ·rintro⟨rfl,rfl⟩;exact⟨rfl,rfl⟩
   ·rintro⟨h3,h4⟩;exact⟨UInt8.toNat_inj.1 (by omega),UInt8.toNat_inj.1 (by omega)⟩
  ·rw[List.drop_eq_nil_of_le (by simpa using h2),zds h2]
   simp[List.isPrefixOf]
 ·rw[List.drop_eq_nil_of_le (by simpa using h),zds h]
  simp[List.isPrefixOf]
theorem zpc (s:ByteArray) (k:Nat):((s.extract k s.size).extract 2 (s.extract k s.size).size).data.toList=s.data.toList.drop (k+2):=by
 rw[Lib.extract_to_end,Lib.extract_to_end,List.drop_drop]
theorem zpd {s:ByteArray}{k:Nat}(hk:k<s.size) (h:0<(s.extract k s.size).size):(s.extract k s.size)[0]'h=s[k]:=by
 have h1:(s.extract k s.size).data.toList[0]'(by simpa using h)=s.data.toList[k]'(by simpa using hk):=by
  have h2:=Lib.extract_to_end s k
  have h3:(s.data.toList.drop k)[0]'(by simp;omega)=s.data.toList[k]'(by simpa using hk):=by simp
  rw[←h3]
  congr 1
 exact h1
theorem znx (s:ByteArray) (hs:s.size≤1073741824) (k:Nat) (hk:k<s.size) (w:World) (m:Int) (hm:w.cell? ⟨0,0,none⟩=some (.int .i64 m)) :
  Calls Tryz.prog 171 #[.string s,.int .i64 k] w fun e w'=>e=.returned (.int .i64 (zar s k:Nat))∧w=w':=by
 have hk':(k:Int)<(s.size:Nat):=by omega
 have HI:=Lib.hid (show ∀w,_ from fun w=>Tryz.strings_IndexByte (s.extract k s.size) 10 w)
 rw[Lib.extract_to_end]at HI
 have HP:=Lib.hid (show ∀w,_ from fun w=>Tryz.strings_HasPrefix (s.extract k s.size) ⟨#[47,42]⟩ w)
 rw[Lib.extract_to_end,show(⟨#[47,42]⟩:ByteArray).data.toList=[47,42]from rfl,zmt]at HP
 have hsz:(s.extract k s.size).size=s.size-k:=by simp
 have HX:=Lib.hid (Tryz.strings_Index ((s.extract k s.size).extract 2 (s.extract k s.size).size) ⟨#[42,47]⟩ m w (by simp;omega) hm)
 rw[zpc,show(⟨#[42,47]⟩:ByteArray).data.toList=[42,47]from rfl,hsz]at HX
 have hx0:=zpd hk
 have HR:=Lib.hid (show zar s k=_ from rfl:zar s k=if byt s k=37 then zaj zij s k else if byt s k=47∧byt s (k+1)=42 then (zcc s (k+2)).getD k else k)
 generalize zar s k=q at HR ⊢
 by_cases c1:byt s k=37
 ·have d1:((s[k].toNat:Int)==37)=true:=by rw[beq_iff_eq,←zbs hk];exact c1
  have HQ:Hid ((q:Int)=if 0≤Lib.indexByte (s.data.toList.drop k) 10 then (k:Int)+Lib.indexByte (s.data.toList.drop k) 10 else s.size):=Lib.hid (by
   rw[←zms (by omega),HR.out,if_pos c1])
  have hg:=Lib.indexByte_ge (s.data.toList.drop k) 10
  have hle:Lib.indexByte (s.data.toList.drop k) 10≤s.size:=by
   have h1:=zms (s:=s) (k:=k) (by omega)
   have h2:=zca (p:=zij) (s:=s) (k:=k) (by omega)
   split at h1<;>omega
  change Hid (∀w,Calls _ _ _ w fun e w'=>e=.returned (.int .i64 (Lib.indexByte (s.data.toList.drop k) 10))∧w'=w)at HI
  generalize Lib.indexByte (s.data.toList.drop k) 10=n at HI HQ hg hle
  clear c1 HR HP HX
  by_cases c2:0≤n
  ·have d2:decide (0≤n)=true:=decide_eq_true c2
   go_enter Tryz.func171,Tryz.ntmps171
   go_wp2_with (refine(HI.out _).mono ?_;rintro e w' ⟨rfl,rfl⟩)
   go_ret
   exact⟨zm (by rw[HQ.out,if_pos (by omega)]),rfl⟩
  ·have d2:decide (0≤n)=false:=decide_eq_false c2
   go_enter Tryz.func171,Tryz.ntmps171
   go_wp2_with (refine(HI.out _).mono ?_;rintro e w' ⟨rfl,rfl⟩)
   go_ret
   exact⟨zm (by rw[HQ.out,if_neg (by omega)]),rfl⟩
 ·have d1:((s[k].toNat:Int)==37)=false:=by rw[beq_eq_false_iff_ne,←zbs hk];exact c1
  by_cases c2:byt s k=47∧byt s (k+1)=42
  ·rw[decide_eq_true (by exact c2)]at HP
   have HQ:=Lib.hid (show q=(zcc s (k+2)).getD k by rw[HR.out,if_neg c1,if_pos c2])
   unfold zcc at HQ
   have hs2:2≤s.size-k:=by
    have:=c2.2
    rcases Nat.lt_or_ge (k+1) s.size with h|h
    ·omega
    ·rw[zds h]at this;omega
   have hs2':(2:Int)≤((s.size-k:Nat):Int):=by omega
   have hg:=Lib.index_ge (s.data.toList.drop (k+2)) [42,47]
   have hle:Lib.index (s.data.toList.drop (k+2)) [42,47]≤s.size:=by
    have:=Lib.index_le (s.data.toList.drop (k+2)) [42,47]
    simp at this
    omega
   generalize Lib.index (s.data.toList.drop (k+2)) [42,47]=n at HX HQ hg hle
   clear c1 c2 HR HI
   by_cases c3:0≤n
   ·have d3:decide (0≤n)=true:=decide_eq_true c3
    go_enter Tryz.func171,Tryz.ntmps171
    go_wp2_with (first|(go_at_call 188;refine(HP.out _).mono ?_;rintro e w' ⟨rfl,rfl⟩)|(go_at_call 189;refine(HX.out).mono ?_;rintro e w' ⟨rfl,rfl⟩))
    go_ret
    exact⟨zm (by rw[HQ.out,if_pos (by omega),Option.getD_some];omega),rfl⟩
   ·have d3:decide (0≤n)=false:=decide_eq_false c3
    go_enter Tryz.func171,Tryz.ntmps171
    go_wp2_with (first|(go_at_call 188;refine(HP.out _).mono ?_;rintro e w' ⟨rfl,rfl⟩)|(go_at_call 189;refine(HX.out).mono ?_;rintro e w' ⟨rfl,rfl⟩))
    go_ret
    exact⟨zm (by rw[HQ.out,if_neg (by omega),Option.getD_none]),rfl⟩
  ·rw[decide_eq_false (by exact c2)]at HP
   have HQ:=Lib.hid (show q=k by rw[HR.out,if_neg c1,if_neg c2])
   clear c1 c2 HR HI HX
   go_enter Tryz.func171,Tryz.ntmps171
   go_wp2_with (go_at_call 188;refine(HP.out _).mono ?_;rintro e w' ⟨rfl,rfl⟩)
   go_ret
   exact⟨zm (by rw[HQ.out]),rfl⟩
theorem zja {s:ByteArray}{i:Nat}(h:i<s.size):zcc s i=if byt s i=42∧byt s (i+1)=47 then some (i+2)else zcc s (i+1):=by
 have hp:=zmt (s:=s) (k:=i) 42 47
 unfold Lib.hasPrefix at hp
 unfold zcc
 rw[zhb h]at hp ⊢
 have hg:=Lib.index_ge (s.data.toList.drop (i+1)) [42,47]
 have e:Lib.index (s[i]::s.data.toList.drop (i+1)) [42,47]=if byt s i=42∧byt s (i+1)=47 then 0 else if Lib.index (s.data.toList.drop (i+1)) [42,47]==-1 then -1 else Lib.index (s.data.toList.drop (i+1)) [42,47]+1:=by
  rw[Lib.index,hp]
  by_cases hc:byt s i=42∧byt s (i+1)=47
  ·rw[if_pos hc,if_pos (decide_eq_true (by exact hc))]
  ·rw[if_neg hc,if_neg (by rw[decide_eq_false (by exact hc)];decide)]
 rw[e]
 generalize Lib.index (s.data.toList.drop (i+1)) [42,47]=n at hg
 by_cases hc:byt s i=42∧byt s (i+1)=47
 ·rw[if_pos hc,if_pos hc];rfl
 ·rw[if_neg hc,if_neg hc]
  by_cases hn:n=-1
  ·subst hn;rfl
  ·have:(n==-1)=false:=by rw[beq_eq_false_iff_ne];exact hn
   rw[this]
   simp only[Bool.false_eq_true,if_false]
   rw[if_pos (by omega),if_pos (by omega)]
   congr 1;omega
theorem zrd {s:ByteArray}{i:Nat}(h:s.size≤i+1):zcc s i=none:=by
 rcases Nat.lt_or_ge i s.size with h1|h1
 ·rw[zja h1,if_neg (by rintro⟨-,h2⟩;rw[zds h]at h2;omega)]
  unfold zcc
  rw[List.drop_eq_nil_of_le (by simpa using h)];rfl
 ·unfold zcc
  rw[List.drop_eq_nil_of_le (by simpa using h1)];rfl
def zd4:List (List UInt8):=[[60,61,62],[60,126,62],[61,62],[60,61],[126,124],[126,38],[33,61]]
def zhc:List UInt8:=[40,41,91,93,44,46,58,38,124,126,61,33,63]
def zdx (l:List UInt8):Nat :=
 match zd4.find? fun x=>x.isPrefixOf l with
 |some x=>x.length
 |none=>match l with
  |[]=>0
  |c::_=>if zhc.contains c then 1 else 0
theorem zre (w:World):(Instr.index 204 (.agg #[.string ⟨#[60,61,62]⟩,.string ⟨#[60,126,62]⟩,.string ⟨#[61,62]⟩,.string ⟨#[60,61]⟩,.string ⟨#[126,124]⟩,.string ⟨#[126,38]⟩,.string ⟨#[33,61]⟩]) (.int .i64 0)).run Tryz.prog w=.ok (.string ⟨#[60,61,62]⟩) w:=by
 have h1:=Tryz.isAgg9
 have h2:=Tryz.sizeOf9
 simp[Instr.index,asIntOf,run_underlying (Tryz.underlying204),part,h1,h2,Result.andThen]
theorem zrf (w:World):(Instr.index 204 (.agg #[.string ⟨#[60,61,62]⟩,.string ⟨#[60,126,62]⟩,.string ⟨#[61,62]⟩,.string ⟨#[60,61]⟩,.string ⟨#[126,124]⟩,.string ⟨#[126,38]⟩,.string ⟨#[33,61]⟩]) (.int .i64 1)).run Tryz.prog w=.ok (.string ⟨#[60,126,62]⟩) w:=by
 have h1:=Tryz.isAgg9
 have h2:=Tryz.sizeOf9
 simp[Instr.index,asIntOf,run_underlying (Tryz.underlying204),part,h1,h2,Result.andThen]
theorem zrg (w:World):(Instr.index 204 (.agg #[.string ⟨#[60,61,62]⟩,.string ⟨#[60,126,62]⟩,.string ⟨#[61,62]⟩,.string ⟨#[60,61]⟩,.string ⟨#[126,124]⟩,.string ⟨#[126,38]⟩,.string ⟨#[33,61]⟩]) (.int .i64 2)).run Tryz.prog w=.ok (.string ⟨#[61,62]⟩) w:=by
 have h1:=Tryz.isAgg9
 have h2:=Tryz.sizeOf9
 simp[Instr.index,asIntOf,run_underlying (Tryz.underlying204),part,h1,h2,Result.andThen]
theorem zrh (w:World):(Instr.index 204 (.agg #[.string ⟨#[60,61,62]⟩,.string ⟨#[60,126,62]⟩,.string ⟨#[61,62]⟩,.string ⟨#[60,61]⟩,.string ⟨#[126,124]⟩,.string ⟨#[126,38]⟩,.string ⟨#[33,61]⟩]) (.int .i64 3)).run Tryz.prog w=.ok (.string ⟨#[60,61]⟩) w:=by
 have h1:=Tryz.isAgg9
 have h2:=Tryz.sizeOf9
 simp[Instr.index,asIntOf,run_underlying (Tryz.underlying204),part,h1,h2,Result.andThen]
theorem zri (w:World):(Instr.index 204 (.agg #[.string ⟨#[60,61,62]⟩,.string ⟨#[60,126,62]⟩,.string ⟨#[61,62]⟩,.string ⟨#[60,61]⟩,.string ⟨#[126,124]⟩,.string ⟨#[126,38]⟩,.string ⟨#[33,61]⟩]) (.int .i64 4)).run Tryz.prog w=.ok (.string ⟨#[126,124]⟩) w:=by
 have h1:=Tryz.isAgg9
 have h2:=Tryz.sizeOf9
 simp[Instr.index,asIntOf,run_underlying (Tryz.underlying204),part,h1,h2,Result.andThen]
theorem zrj (w:World):(Instr.index 204 (.agg #[.string ⟨#[60,61,62]⟩,.string ⟨#[60,126,62]⟩,.string ⟨#[61,62]⟩,.string ⟨#[60,61]⟩,.string ⟨#[126,124]⟩,.string ⟨#[126,38]⟩,.string ⟨#[33,61]⟩]) (.int .i64 5)).run Tryz.prog w=.ok (.string ⟨#[126,38]⟩) w:=by
 have h1:=Tryz.isAgg9
 have h2:=Tryz.sizeOf9
 simp[Instr.index,asIntOf,run_underlying (Tryz.underlying204),part,h1,h2,Result.andThen]
theorem zrk (w:World):(Instr.index 204 (.agg #[.string ⟨#[60,61,62]⟩,.string ⟨#[60,126,62]⟩,.string ⟨#[61,62]⟩,.string ⟨#[60,61]⟩,.string ⟨#[126,124]⟩,.string ⟨#[126,38]⟩,.string ⟨#[33,61]⟩]) (.int .i64 6)).run Tryz.prog w=.ok (.string ⟨#[33,61]⟩) w:=by
 have h1:=Tryz.isAgg9
 have h2:=Tryz.sizeOf9
 simp[Instr.index,asIntOf,run_underlying (Tryz.underlying204),part,h1,h2,Result.andThen]
theorem zgq {p:List UInt8→Bool}{L:List (List UInt8)}{x:List UInt8}:∀ {k:Nat},L[k]?=some x→p x=true→(∀j,j<k→∀y,L[j]?=some y→p y=false)→L.find? p=some x:=by
 induction L with
 |nil=>intro k h;simp at h
 |cons a L ih =>
  intro k h1 h2 h3
  cases k with
  |zero=>injection h1 with h1;subst h1;rw[List.find?_cons,h2]
  |succ k =>
   rw[List.find?_cons,h3 0 (by omega) a rfl]
   exact ih (k:=k) (by simpa using h1) h2 fun j hj y hy=>h3 (j+1) (by omega) y (by simpa using hy)
theorem zvp {p:List UInt8→Bool}{L:List (List UInt8)}(h:∀j,j<L.length→∀y,L[j]?=some y→p y=false):L.find? p=none:=by
 rw[List.find?_eq_none]
 intro x hx
 obtain⟨j,hj,rfl⟩:=List.getElem_of_mem hx
 rw[h j hj _ (List.getElem?_eq_getElem hj)]
 decide
theorem zny (l:List UInt8) (c:UInt8):decide (0≤Lib.indexByte l c)=l.contains c:=by
 induction l with
 |nil=>rfl
 |cons b l ih =>
  have hg:=Lib.indexByte_ge l c
  rw[Lib.indexByte,List.contains_cons,←ih]
  generalize Lib.indexByte l c=n at hg
  by_cases hb:b=c
  ·subst hb;simp
  ·have h1:(b==c)=false:=by rw[beq_eq_false_iff_ne];exact hb
   have h2:(c==b)=false:=by rw[beq_eq_false_iff_ne];exact fun h=>hb h.symm
   rw[h1,h2]
   by_cases hn:n=-1
   ·subst hn;rfl
   ·have h3:(n==-1)=false:=by rw[beq_eq_false_iff_ne];exact hn
    rw[h3,Bool.eq_iff_iff]
    simp;omega
theorem z05 (c:UInt8):((c.toNat:Int)).toNat.toUInt8=c:=by
 apply UInt8.toNat_inj.1
 simp
theorem zrl (s:ByteArray) (hs:s.size≤1073741824) (h0:0<s.size) (w:World) :
  Calls Tryz.prog 191 #[.string s] w fun e w'=>e=.returned (.int .i64 (zdx s.data.toList:Nat))∧Ext w w':=by
 have HP0:=Lib.hid (fun w=>show Calls Tryz.prog 188 #[.string s,.string ⟨#[60,61,62]⟩] w (fun e w'=>e=.returned (.bool (List.isPrefixOf [60,61,62] s.data.toList))∧w'=w)from Tryz.strings_HasPrefix s ⟨#[60,61,62]⟩ w)
 have HP1:=Lib.hid (fun w=>show Calls Tryz.prog 188 #[.string s,.string ⟨#[60,126,62]⟩] w (fun e w'=>e=.returned (.bool (List.isPrefixOf [60,126,62] s.data.toList))∧w'=w)from Tryz.strings_HasPrefix s ⟨#[60,126,62]⟩ w)
 have HP2:=Lib.hid (fun w=>show Calls Tryz.prog 188 #[.string s,.string ⟨#[61,62]⟩] w (fun e w'=>e=.returned (.bool (List.isPrefixOf [61,62] s.data.toList))∧w'=w)from Tryz.strings_HasPrefix s ⟨#[61,62]⟩ w)
 have HP3:=Lib.hid (fun w=>show Calls Tryz.prog 188 #[.string s,.string ⟨#[60,61]⟩] w (fun e w'=>e=.returned (.bool (List.isPrefixOf [60,61] s.data.toList))∧w'=w)from Tryz.strings_HasPrefix s ⟨#[60,61]⟩ w)
 have HP4:=Lib.hid (fun w=>show Calls Tryz.prog 188 #[.string s,.string ⟨#[126,124]⟩] w (fun e w'=>e=.returned (.bool (List.isPrefixOf [126,124] s.data.toList))∧w'=w)from Tryz.strings_HasPrefix s ⟨#[126,124]⟩ w)
 have HP5:=Lib.hid (fun w=>show Calls Tryz.prog 188 #[.string s,.string ⟨#[126,38]⟩] w (fun e w'=>e=.returned (.bool (List.isPrefixOf [126,38] s.data.toList))∧w'=w)from Tryz.strings_HasPrefix s ⟨#[126,38]⟩ w)
 have HP6:=Lib.hid (fun w=>show Calls Tryz.prog 188 #[.string s,.string ⟨#[33,61]⟩] w (fun e w'=>e=.returned (.bool (List.isPrefixOf [33,61] s.data.toList))∧w'=w)from Tryz.strings_HasPrefix s ⟨#[33,61]⟩ w)
 have HX:=Lib.hid (fun w=>Tryz.strings_IndexByte ⟨#[40,41,91,93,44,46,58,38,124,126,61,33,63]⟩ (s[0].toNat:Int) w)
 rw[z05]at HX
 have HL:=Lib.hid (show s.data.toList=s[0]::s.data.toList.drop 1 by rw[←zhb h0,List.drop_zero])
 have HQ:=Lib.hid (show zdx s.data.toList=_ from rfl:zdx s.data.toList=match zd4.find? fun x=>x.isPrefixOf s.data.toList with|some x=>x.length|none=>match s.data.toList with|[]=>0|c::_=>if zhc.contains c then 1 else 0)
 have hcl:=s[0].toNat_lt
 have h0':(0:Int)<(s.size:Nat):=by omega
 generalize zdx s.data.toList=q at HQ ⊢
 obtain⟨W,hW⟩:∃W,W=w.alloc (.cells #[.string ⟨#[60,61,62]⟩,.string ⟨#[60,126,62]⟩,.string ⟨#[61,62]⟩,.string ⟨#[60,61]⟩,.string ⟨#[126,124]⟩,.string ⟨#[126,38]⟩,.string ⟨#[33,61]⟩] 204):=⟨_,rfl⟩
 have hx:Ext w W:=by subst hW;go_grown
 go_enter Tryz.func191,Tryz.ntmps191
 go_wp2_with fail
 rw[←hW]
 clear hW
 go_loopw [8] (fun i wr=>∃k:Nat,k≤7∧∃z:Int,z=k∧i=.int .i64 z∧(∀j,j<k→∀x,zd4[j]?=some x→List.isPrefixOf x s.data.toList=false)∧Ext W wr) (fun i _=>7-(intOf i).toNat)
 case atStart=>exact⟨0,by omega,0,rfl,rfl,fun j hj=>absurd hj (Nat.not_lt_zero j),Below.refl _ _⟩
 case round =>
  obtain⟨k,hk,z,hz,rfl,hno,hext⟩:=hrel
  have hk8:k=0∨k=1∨k=2∨k=3∨k=4∨k=5∨k=6∨k=7:=by omega
  rcases hk8 with rfl|rfl|rfl|rfl|rfl|rfl|rfl|rfl
  ·have hz':z=0:=by omega
   subst hz'
   clear hz hk
   have HN:=Lib.hid (hno:∀j,j<0→∀x,zd4[j]?=some x→List.isPrefixOf x s.data.toList=false)
   have hix:=zre
   clear hno
   cases hp:List.isPrefixOf [60,61,62] s.data.toList with
   |true =>
    rw[hp]at HP0
    have Hp:=Lib.hid hp
    go_wp2_with (refine(HP0.out _).mono ?_;rintro e w' ⟨rfl,rfl⟩)
    go_ret
    exact⟨zm (by rw[HQ.out,zgq (p:=fun x=>x.isPrefixOf s.data.toList) (k:=0) rfl Hp.out HN.out];rfl),hx.trans hext⟩
   |false =>
    rw[hp]at HP0
    have Hp:=Lib.hid hp
    go_wp2_with (refine(HP0.out _).mono ?_;rintro e w' ⟨rfl,rfl⟩)
    go_roundw
    case rel=>exact⟨1,by omega,1,rfl,rfl,fun j hj x hxj=>by
     rcases Nat.lt_or_ge j 0 with h|h
     ·exact HN.out j h x hxj
     ·obtain rfl:j=0:=by omega
      injection hxj with hxj;subst hxj;exact Hp.out,hext⟩
    case measure=>simp[intOf]
  ·have hz':z=1:=by omega
   subst hz'
   clear hz hk
   have HN:=Lib.hid (hno:∀j,j<1→∀x,zd4[j]?=some x→List.isPrefixOf x s.data.toList=false)
   have hix:=zrf
   clear hno
   cases hp:List.isPrefixOf [60,126,62] s.data.toList with
   |true =>
    rw[hp]at HP1
    have Hp:=Lib.hid hp
    go_wp2_with (refine(HP1.out _).mono ?_;rintro e w' ⟨rfl,rfl⟩)
    go_ret
    exact⟨zm (by rw[HQ.out,zgq (p:=fun x=>x.isPrefixOf s.data.toList) (k:=1) rfl Hp.out HN.out];rfl),hx.trans hext⟩
   |false =>
    rw[hp]at HP1
    have Hp:=Lib.hid hp
    go_wp2_with (refine(HP1.out _).mono ?_;rintro e w' ⟨rfl,rfl⟩)
    go_roundw
    case rel=>exact⟨2,by omega,2,rfl,rfl,fun j hj x hxj=>by
     rcases Nat.lt_or_ge j 1 with h|h
     ·exact HN.out j h x hxj
     ·obtain rfl:j=1:=by omega
      injection hxj with hxj;subst hxj;exact Hp.out,hext⟩
    case measure=>simp[intOf]
  ·have hz':z=2:=by omega
   subst hz'
   clear hz hk
   have HN:=Lib.hid (hno:∀j,j<2→∀x,zd4[j]?=some x→List.isPrefixOf x s.data.toList=false)
   have hix:=zrg
   clear hno
   cases hp:List.isPrefixOf [61,62] s.data.toList with
   |true =>
    rw[hp]at HP2
    have Hp:=Lib.hid hp
    go_wp2_with (refine(HP2.out _).mono ?_;rintro e w' ⟨rfl,rfl⟩)
    go_ret
    exact⟨zm (by rw[HQ.out,zgq (p:=fun x=>x.isPrefixOf s.data.toList) (k:=2) rfl Hp.out HN.out];rfl),hx.trans hext⟩
   |false =>
    rw[hp]at HP2
    have Hp:=Lib.hid hp
    go_wp2_with (refine(HP2.out _).mono ?_;rintro e w' ⟨rfl,rfl⟩)
    go_roundw
    case rel=>exact⟨3,by omega,3,rfl,rfl,fun j hj x hxj=>by
     rcases Nat.lt_or_ge j 2 with h|h
     ·exact HN.out j h x hxj
     ·obtain rfl:j=2:=by omega
      injection hxj with hxj;subst hxj;exact Hp.out,hext⟩
    case measure=>simp[intOf]
  ·have hz':z=3:=by omega
   subst hz'
   clear hz hk
   have HN:=Lib.hid (hno:∀j,j<3→∀x,zd4[j]?=some x→List.isPrefixOf x s.data.toList=false)
   have hix:=zrh
   clear hno
   cases hp:List.isPrefixOf [60,61] s.data.toList with
   |true =>
    rw[hp]at HP3
    have Hp:=Lib.hid hp
    go_wp2_with (refine(HP3.out _).mono ?_;rintro e w' ⟨rfl,rfl⟩)
    go_ret
    exact⟨zm (by rw[HQ.out,zgq (p:=fun x=>x.isPrefixOf s.data.toList) (k:=3) rfl Hp.out HN.out];rfl),hx.trans hext⟩
   |false =>
    rw[hp]at HP3
    have Hp:=Lib.hid hp
    go_wp2_with (refine(HP3.out _).mono ?_;rintro e w' ⟨rfl,rfl⟩)
    go_roundw
    case rel=>exact⟨4,by omega,4,rfl,rfl,fun j hj x hxj=>by
     rcases Nat.lt_or_ge j 3 with h|h
     ·exact HN.out j h x hxj
     ·obtain rfl:j=3:=by omega
      injection hxj with hxj;subst hxj;exact Hp.out,hext⟩
    case measure=>simp[intOf]
  ·have hz':z=4:=by omega
   subst hz'
   clear hz hk
   have HN:=Lib.hid (hno:∀j,j<4→∀x,zd4[j]?=some x→List.isPrefixOf x s.data.toList=false)
   have hix:=zri
   clear hno
   cases hp:List.isPrefixOf [126,124] s.data.toList with
   |true =>
    rw[hp]at HP4
    have Hp:=Lib.hid hp
    go_wp2_with (refine(HP4.out _).mono ?_;rintro e w' ⟨rfl,rfl⟩)
    go_ret
    exact⟨zm (by rw[HQ.out,zgq (p:=fun x=>x.isPrefixOf s.data.toList) (k:=4) rfl Hp.out HN.out];rfl),hx.trans hext⟩
   |false =>
    rw[hp]at HP4
    have Hp:=Lib.hid hp
    go_wp2_with (refine(HP4.out _).mono ?_;rintro e w' ⟨rfl,rfl⟩)
    go_roundw
    case rel=>exact⟨5,by omega,5,rfl,rfl,fun j hj x hxj=>by
     rcases Nat.lt_or_ge j 4 with h|h
     ·exact HN.out j h x hxj
     ·obtain rfl:j=4:=by omega
      injection hxj with hxj;subst hxj;exact Hp.out,hext⟩
    case measure=>simp[intOf]
  ·have hz':z=5:=by omega
   subst hz'
   clear hz hk
   have HN:=Lib.hid (hno:∀j,j<5→∀x,zd4[j]?=some x→List.isPrefixOf x s.data.toList=false)
   have hix:=zrj
   clear hno
   cases hp:List.isPrefixOf [126,38] s.data.toList with
   |true =>
    rw[hp]at HP5
    have Hp:=Lib.hid hp
    go_wp2_with (refine(HP5.out _).mono ?_;rintro e w' ⟨rfl,rfl⟩)
    go_ret
    exact⟨zm (by rw[HQ.out,zgq (p:=fun x=>x.isPrefixOf s.data.toList) (k:=5) rfl Hp.out HN.out];rfl),hx.trans hext⟩
   |false =>
    rw[hp]at HP5
    have Hp:=Lib.hid hp
    go_wp2_with (refine(HP5.out _).mono ?_;rintro e w' ⟨rfl,rfl⟩)
    go_roundw
    case rel=>exact⟨6,by omega,6,rfl,rfl,fun j hj x hxj=>by
     rcases Nat.lt_or_ge j 5 with h|h
     ·exact HN.out j h x hxj
     ·obtain rfl:j=5:=by omega
      injection hxj with hxj;subst hxj;exact Hp.out,hext⟩
    case measure=>simp[intOf]
  ·have hz':z=6:=by omega
   subst hz'
   clear hz hk
   have HN:=Lib.hid (hno:∀j,j<6→∀x,zd4[j]?=some x→List.isPrefixOf x s.data.toList=false)
   have hix:=zrk
   clear hno
   cases hp:List.isPrefixOf [33,61] s.data.toList with
   |true =>
    rw[hp]at HP6
    have Hp:=Lib.hid hp
    go_wp2_with (refine(HP6.out _).mono ?_;rintro e w' ⟨rfl,rfl⟩)
    go_ret
    exact⟨zm (by rw[HQ.out,zgq (p:=fun x=>x.isPrefixOf s.data.toList) (k:=6) rfl Hp.out HN.out];rfl),hx.trans hext⟩
   |false =>
    rw[hp]at HP6
    have Hp:=Lib.hid hp
    go_wp2_with (refine(HP6.out _).mono ?_;rintro e w' ⟨rfl,rfl⟩)
    go_roundw
    case rel=>exact⟨7,by omega,7,rfl,rfl,fun j hj x hxj=>by
     rcases Nat.lt_or_ge j 6 with h|h
     ·exact HN.out j h x hxj
     ·obtain rfl:j=6:=by omega
      injection hxj with hxj;subst hxj;exact Hp.out,hext⟩
    case measure=>simp[intOf]
  ·have hz':z=7:=by omega
   subst hz'
   clear hz hk
   have HN:=Lib.hid (hno:∀j,j<7→∀x,zd4[j]?=some x→List.isPrefixOf x s.data.toList=false)
   clear hno
   have HQ2:=Lib.hid (show q=if zhc.contains s[0]then 1 else 0 by rw[HQ.out,zvp (L:=zd4) (p:=fun x=>x.isPrefixOf s.data.toList) HN.out,HL.out])
   have Hd:=Lib.hid (zny zhc s[0])
   change Hid (∀w,Calls _ _ _ w fun e w'=>e=.returned (.int .i64 (Lib.indexByte zhc s[0]))∧w'=w)at HX
   generalize Lib.indexByte zhc s[0]=n at HX Hd
   cases hd:zhc.contains s[0] with
   |true =>
    have hd2:decide (0≤n)=true:=by rw[Hd.out,hd]
    have HQ3:=Lib.hid (show q=1 by rw[HQ2.out,hd];rfl)
    clear hd
    go_wp2_with (refine(HX.out _).mono ?_;rintro e w' ⟨rfl,rfl⟩)
    go_ret
    exact⟨zm (by rw[HQ3.out];rfl),hx.trans hext⟩
   |false =>
    have hd2:decide (0≤n)=false:=by rw[Hd.out,hd]
    have HQ3:=Lib.hid (show q=0 by rw[HQ2.out,hd];rfl)
    clear hd
    go_wp2_with (refine(HX.out _).mono ?_;rintro e w' ⟨rfl,rfl⟩)
    go_ret
    exact⟨zm (by rw[HQ3.out];rfl),hx.trans hext⟩
def zrm:List (List UInt8):=zd4++zhc.map fun c=>[c]
theorem zkh (l:List UInt8):∀L:List UInt8,((L.map fun c=>[c]).find? fun x=>x.isPrefixOf l)=match l with|[]=>none|c::_=>if L.contains c then some [c]else none
 |[]=>by cases l<;>rfl
 |a::L=>by
  rw[List.map_cons,List.find?_cons,zkh l L]
  cases l with
  |nil=>rfl
  |cons c l =>
   by_cases h:a=c
   ·subst h;simp[List.isPrefixOf]
   ·have h1:(a==c)=false:=by rw[beq_eq_false_iff_ne];exact h
    have h2:(c==a)=false:=by rw[beq_eq_false_iff_ne];exact fun e=>h e.symm
    simp only[List.isPrefixOf,h1,Bool.false_and,List.contains_cons,h2,Bool.false_or]
theorem zt0 (l:List UInt8):zdx l=match zrm.find? fun x=>x.isPrefixOf l with|some x=>x.length|none=>0:=by
 unfold zdx zrm
 rw[List.find?_append,zkh]
 cases zd4.find? fun x=>x.isPrefixOf l with
 |some x=>rfl
 |none =>
  cases l with
  |nil=>rfl
  |cons c l =>
   cases hc:zhc.contains c
   ·simp only[hc,Bool.false_eq_true,if_false,Option.none_or]
   ·simp only[hc,if_true,Option.none_or];rfl
def z8 (s:ByteArray) (k:Nat):Int×Nat :=
 if 97≤byt s k∧byt s k≤122 then (1,zaj zp s k)
 else if 65≤byt s k∧byt s k≤90 then (2,zaj zp s k)
 else if 48≤byt s k∧byt s k≤57 then (5,zaj zcl s k)
 else if byt s k=36 then (3,if 97≤byt s (k+1)∧byt s (k+1)≤122 then zaj zp s (k+1)else k)
 else if byt s k=39 then (4,zak s k)
 else (6,k+zdx (s.data.toList.drop k))
def zbk (s:ByteArray) (k:Nat):Nat:=(z8 s k).2
def za1 (s:ByteArray) (k:Nat):Tok:=⟨(z8 s k).1,if (z8 s k).1=4 then s.extract (k+1) (zbk s k-1)else s.extract k (zbk s k),k⟩
def zba (s:ByteArray) (k:Nat) (w:World) (e:Ending) (w':World):Prop :=
 (∃t:Tok,e=.returned (.tuple #[.agg t.vals,.int .i64 (zbk s k:Nat)])∧(k<zbk s k→t=za1 s k))∧Ext w w'
theorem zmu (l:List UInt8):zdx l≤l.length:=by
 rw[zt0]
 cases h:zrm.find? fun x=>x.isPrefixOf l with
 |none=>exact Nat.zero_le _
 |some x =>
  have:=List.find?_some h
  exact(List.isPrefixOf_iff_prefix.1 this).length_le
theorem ze6 (s:ByteArray) (k:Nat):k≤zak s k:=by
 unfold zak
 have:=zb9 zb6 s (k+1)
 split<;>omega
theorem ze7 {s:ByteArray}{k:Nat}(hk:k<s.size):zak s k≤s.size:=by
 unfold zak
 have h2:=zca (p:=zb6) (s:=s) (k:=k+1) (by omega)
 split
 ·omega
 ·rename_i h
  rcases Nat.lt_or_ge (zaj zb6 s (k+1)) s.size with h3|h3
  ·omega
  ·exact absurd (.inr (by rw[zds h3];omega)) h
theorem zhd {s:ByteArray}{k:Nat}(h:k<zak s k):k+2<zak s k:=by
 unfold zak at h ⊢
 have h1:=zb9 zb6 s (k+1)
 split at h
 ·omega
 ·rename_i hc
  rw[if_neg hc]
  have:zaj zb6 s (k+1)≠k+1:=fun e=>hc (.inl e)
  omega
theorem zpe (s:ByteArray) (k:Nat):k≤zbk s k:=by
 unfold zbk z8
 have h1:=zb9 zp s k
 have h2:=zb9 zcl s k
 have h3:=zb9 zp s (k+1)
 have h4:=ze6 s k
 repeat' split
 all_goals first|exact h1|exact h2|exact h4|(simp only;omega)
theorem zpf {s:ByteArray}{k:Nat}(hk:k<s.size):zbk s k≤s.size:=by
 unfold zbk z8
 have h1:=zca (p:=zp) (s:=s) (k:=k) (by omega)
 have h2:=zca (p:=zcl) (s:=s) (k:=k) (by omega)
 have h3:=zca (p:=zp) (s:=s) (k:=k+1) (by omega)
 have h4:=ze7 hk
 have h5:=zmu (s.data.toList.drop k)
 have h6:(s.data.toList.drop k).length=s.size-k:=by simp
 repeat' split
 all_goals first|exact h1|exact h2|exact h4|(simp only;omega)
theorem zbu {s:ByteArray}{k r:Nat}{n:Int}(h:z8 s k=(n,r)) (h4:n≠4):zbk s k=r∧za1 s k=⟨n,s.extract k r,k⟩:=by
 have h1:zbk s k=r:=by unfold zbk;rw[h]
 refine⟨h1,?_⟩
 unfold za1
 rw[h1,h]
 simp only
 rw[if_neg h4]
theorem zgr {s:ByteArray}{k r:Nat}(h:z8 s k=(4,r)):zbk s k=r∧za1 s k=⟨4,s.extract (k+1) (r-1),k⟩:=by
 have h1:zbk s k=r:=by unfold zbk;rw[h]
 refine⟨h1,?_⟩
 unfold za1
 rw[h1,h]
 simp only
 rw[if_pos trivial]
theorem zj2 (s:ByteArray) (i j:Nat) (a b:Int) (ha:a=i) (hb:b=j) (hij:i≤j) (hj:j≤s.size) (w:World) :
  (Instr.slice 9 (.string s) (some (.int .i64 a)) (some (.int .i64 b)) none).run Tryz.prog w=.ok (.string (s.extract i j)) w:=by
 subst ha;subst hb
 have h1:(i:Int)≤(j:Nat):=by omega
 have h2:(j:Int)≤(s.size:Nat):=by omega
 first|(go_simp;done)|simp[Instr.slice,run_underlying (Tryz.underlying9),Instr.sliceBounds,run_sliceBound,sliced, *]
theorem zbv (s:ByteArray) (k:Nat) (hk:k<s.size):zg6 s[k]=decide (97≤byt s k∧byt s k≤122):=by
 rw[zbs hk];unfold zg6;rw[Bool.eq_iff_iff];simp;omega
theorem zcm (s:ByteArray) (k:Nat) (hk:k<s.size):zmr s[k]=decide (65≤byt s k∧byt s k≤90):=by
 rw[zbs hk];unfold zmr;rw[Bool.eq_iff_iff];simp;omega
theorem zcn (s:ByteArray) (k:Nat) (hk:k<s.size):zcl s[k]=decide (48≤byt s k∧byt s k≤57):=by
 rw[zbs hk];unfold zcl;rw[Bool.eq_iff_iff];simp;omega
theorem zvq (s:ByteArray) (hs:s.size≤1073741824) (k:Nat) (hk:k<s.size) (w:World) (c1:97≤byt s k∧byt s k≤122) :
  Calls Tryz.prog 172 #[.string s,.int .i64 k] w (zba s k w):=by
 have hk':(k:Int)<(s.size:Nat):=by omega
 have hwk:IntKind.i64.wrap ((k:Int)+1)=(k:Int)+1:=IntWalk.i64_in _ (by omega)
 have hcl:=s[k].toNat_lt
 have HS:=Lib.hid (fun w=>zaf s[k] w)
 have HG:=Lib.hid (fun w=>za0 s[k] w)
 have HD:=Lib.hid (fun w=>zao s[k] w)
 rw[zbv s k hk]at HS
 rw[zcm s k hk]at HG
 rw[zcn s k hk]at HD
 rw[decide_eq_true c1]at HS
 have HW:=Lib.hid (fun w=>zdo s hs k (by omega) w)
 have h1:=zb9 zp s k
 have h2:=zca (p:=zp) (s:=s) (k:=k) (by omega)
 have HO:=Lib.hid (zbu (s:=s) (k:=k) (r:=zaj zp s k) (n:=1) (by unfold z8;simp only[*,if_true,and_self]) (by decide))
 unfold zba
 generalize zaj zp s k=r at HW h1 h2 HO
 have h1':(k:Int)≤(r:Nat):=by omega
 have h2':(r:Int)≤(s.size:Nat):=by omega
 go_enter Tryz.func172,Tryz.ntmps172
 go_wp2_with (first|(go_at_call 127;refine(HS.out _).mono ?_;rintro e w' ⟨rfl,rfl⟩)|(go_at_call 161;refine(HG.out _).mono ?_;rintro e w' ⟨rfl,rfl⟩)|(go_at_call 162;refine(HD.out _).mono ?_;rintro e w' ⟨rfl,rfl⟩)|(go_at_call 122;refine(HW.out _).mono ?_;rintro e w' ⟨rfl,rfl⟩))
 refine bodyPost_ret (v:=.tuple #[.agg #[.int .i64 1,.string (s.extract k r),.int .i64 k],.int .i64 r]) (by simp[results,Tryz.results172,go_sem]) rfl ?_
 exact⟨⟨⟨1,s.extract k r,k⟩,by rw[HO.out.1];rfl,fun _=>HO.out.2.symm⟩,by go_grown⟩
theorem zvr (s:ByteArray) (hs:s.size≤1073741824) (k:Nat) (hk:k<s.size) (w:World) (c1:¬(97≤byt s k∧byt s k≤122)) (c2:65≤byt s k∧byt s k≤90) :
  Calls Tryz.prog 172 #[.string s,.int .i64 k] w (zba s k w):=by
 have hk':(k:Int)<(s.size:Nat):=by omega
 have hwk:IntKind.i64.wrap ((k:Int)+1)=(k:Int)+1:=IntWalk.i64_in _ (by omega)
 have hcl:=s[k].toNat_lt
 have HS:=Lib.hid (fun w=>zaf s[k] w)
 have HG:=Lib.hid (fun w=>za0 s[k] w)
 have HD:=Lib.hid (fun w=>zao s[k] w)
 rw[zbv s k hk]at HS
 rw[zcm s k hk]at HG
 rw[zcn s k hk]at HD
 rw[(show decide (97≤byt s k∧byt s k≤122)=false from decide_eq_false c1)]at HS
 rw[decide_eq_true c2]at HG
 have HW:=Lib.hid (fun w=>zdo s hs k (by omega) w)
 have h1:=zb9 zp s k
 have h2:=zca (p:=zp) (s:=s) (k:=k) (by omega)
 have HO:=Lib.hid (zbu (s:=s) (k:=k) (r:=zaj zp s k) (n:=2) (by unfold z8;simp only[*,if_true,if_false,and_self]) (by decide))
 unfold zba
 generalize zaj zp s k=r at HW h1 h2 HO
 have h1':(k:Int)≤(r:Nat):=by omega
 have h2':(r:Int)≤(s.size:Nat):=by omega
 go_enter Tryz.func172,Tryz.ntmps172
 go_wp2_with (first|(go_at_call 127;refine(HS.out _).mono ?_;rintro e w' ⟨rfl,rfl⟩)|(go_at_call 161;refine(HG.out _).mono ?_;rintro e w' ⟨rfl,rfl⟩)|(go_at_call 162;refine(HD.out _).mono ?_;rintro e w' ⟨rfl,rfl⟩)|(go_at_call 122;refine(HW.out _).mono ?_;rintro e w' ⟨rfl,rfl⟩))
 refine bodyPost_ret (v:=.tuple #[.agg #[.int .i64 2,.string (s.extract k r),.int .i64 k],.int .i64 r]) (by simp[results,Tryz.results172,go_sem]) rfl ?_
 exact⟨⟨⟨2,s.extract k r,k⟩,by rw[HO.out.1];rfl,fun _=>HO.out.2.symm⟩,by go_grown⟩
theorem zvs (s:ByteArray) (hs:s.size≤1073741824) (k:Nat) (hk:k<s.size) (w:World) (c1:¬(97≤byt s k∧byt s k≤122)) (c2:¬(65≤byt s k∧byt s k≤90)) (c3:48≤byt s k∧byt s k≤57) :
  Calls Tryz.prog 172 #[.string s,.int .i64 k] w (zba s k w):=by
 have hk':(k:Int)<(s.size:Nat):=by omega
 have hwk:IntKind.i64.wrap ((k:Int)+1)=(k:Int)+1:=IntWalk.i64_in _ (by omega)
 have hcl:=s[k].toNat_lt
 have HS:=Lib.hid (fun w=>zaf s[k] w)
 have HG:=Lib.hid (fun w=>za0 s[k] w)
 have HD:=Lib.hid (fun w=>zao s[k] w)
 rw[zbv s k hk]at HS
 rw[zcm s k hk]at HG
 rw[zcn s k hk]at HD
 rw[(show decide (97≤byt s k∧byt s k≤122)=false from decide_eq_false c1)]at HS
 rw[(show decide (65≤byt s k∧byt s k≤90)=false from decide_eq_false c2)]at HG
 rw[decide_eq_true c3]at HD
 have HW:=Lib.hid (fun w=>zmf s hs k (by omega) w)
 have h1:=zb9 zcl s k
 have h2:=zca (p:=zcl) (s:=s) (k:=k) (by omega)
 have HO:=Lib.hid (zbu (s:=s) (k:=k) (r:=zaj zcl s k) (n:=5) (by unfold z8;simp only[*,if_true,if_false,and_self]) (by decide))
 unfold zba
 generalize zaj zcl s k=r at HW h1 h2 HO
 have h1':(k:Int)≤(r:Nat):=by omega
 have h2':(r:Int)≤(s.size:Nat):=by omega
 go_enter Tryz.func172,Tryz.ntmps172
 go_wp2_with (first|(go_at_call 127;refine(HS.out _).mono ?_;rintro e w' ⟨rfl,rfl⟩)|(go_at_call 161;refine(HG.out _).mono ?_;rintro e w' ⟨rfl,rfl⟩)|(go_at_call 162;refine(HD.out _).mono ?_;rintro e w' ⟨rfl,rfl⟩)|(go_at_call 122;refine(HW.out _).mono ?_;rintro e w' ⟨rfl,rfl⟩))
 refine bodyPost_ret (v:=.tuple #[.agg #[.int .i64 5,.string (s.extract k r),.int .i64 k],.int .i64 r]) (by simp[results,Tryz.results172,go_sem]) rfl ?_
 exact⟨⟨⟨5,s.extract k r,k⟩,by rw[HO.out.1];rfl,fun _=>HO.out.2.symm⟩,by go_grown⟩
theorem zrn (s:ByteArray) (hs:s.size≤1073741824) (k:Nat) (hk:k<s.size) (w:World) (c1:¬(97≤byt s k∧byt s k≤122)) (c2:¬(65≤byt s k∧byt s k≤90)) (c3:¬(48≤byt s k∧byt s k≤57)) (c4:byt s k=36) (hk1:k+1<s.size) (c5:97≤byt s (k+1)∧byt s (k+1)≤122) :
  Calls Tryz.prog 172 #[.string s,.int .i64 k] w (zba s k w):=by
 have hk':(k:Int)<(s.size:Nat):=by omega
 have hwk:IntKind.i64.wrap ((k:Int)+1)=(k:Int)+1:=IntWalk.i64_in _ (by omega)
 have hcl:=s[k].toNat_lt
 have HS:=Lib.hid (fun w=>zaf s[k] w)
 have HG:=Lib.hid (fun w=>za0 s[k] w)
 have HD:=Lib.hid (fun w=>zao s[k] w)
 rw[zbv s k hk]at HS
 rw[zcm s k hk]at HG
 rw[zcn s k hk]at HD
 rw[(show decide (97≤byt s k∧byt s k≤122)=false from decide_eq_false c1)]at HS
 rw[(show decide (65≤byt s k∧byt s k≤90)=false from decide_eq_false c2)]at HG
 rw[(show decide (48≤byt s k∧byt s k≤57)=false from decide_eq_false c3)]at HD
 have HW:=Lib.hid (fun w=>zdo s hs (k+1) (by omega) w)
 rw[show((k+1:Nat):Int)=(k:Int)+1 by omega]at HW
 have HS2:=Lib.hid (fun w=>zaf s[k+1] w)
 rw[zbv s (k+1) hk1,decide_eq_true c5]at HS2
 have h1:=zb9 zp s (k+1)
 have h2:=zca (p:=zp) (s:=s) (k:=k+1) (by omega)
 have HO:=Lib.hid (zbu (s:=s) (k:=k) (r:=zaj zp s (k+1)) (n:=3) (by unfold z8;rw[if_neg c1,if_neg c2,if_neg c3,if_pos c4,if_pos c5]) (by decide))
 have d4:((s[k].toNat:Int)==36)=true:=by rw[beq_iff_eq,←zbs hk];exact c4
 have d5:decide ((k:Int)+1<(s.size:Nat))=true:=decide_eq_true (by omega)
 have d6:(k:Int)+1<(s.size:Nat):=by omega
 unfold zba
 generalize zaj zp s (k+1)=r at HW h1 h2 HO
 have h1':(k:Int)≤(r:Nat):=by omega
 have h2':(r:Int)≤(s.size:Nat):=by omega
 clear c1 c2 c3 c4 c5
 go_enter Tryz.func172,Tryz.ntmps172
 go_wp2_with (first|(go_at_call 127;with_reducible refine(HS2.out _).mono ?_;rintro e w' ⟨rfl,rfl⟩)|(go_at_call 127;refine(HS.out _).mono ?_;rintro e w' ⟨rfl,rfl⟩)|(go_at_call 161;refine(HG.out _).mono ?_;rintro e w' ⟨rfl,rfl⟩)|(go_at_call 162;refine(HD.out _).mono ?_;rintro e w' ⟨rfl,rfl⟩)|(go_at_call 122;refine(HW.out _).mono ?_;rintro e w' ⟨rfl,rfl⟩))
 refine bodyPost_ret (v:=.tuple #[.agg #[.int .i64 3,.string (s.extract k r),.int .i64 k],.int .i64 r]) (by simp[results,Tryz.results172,go_sem]) rfl ?_
 exact⟨⟨⟨3,s.extract k r,k⟩,by rw[HO.out.1];rfl,fun _=>HO.out.2.symm⟩,by go_grown⟩
theorem zro (s:ByteArray) (hs:s.size≤1073741824) (k:Nat) (hk:k<s.size) (w:World) (c1:¬(97≤byt s k∧byt s k≤122)) (c2:¬(65≤byt s k∧byt s k≤90)) (c3:¬(48≤byt s k∧byt s k≤57)) (c4:byt s k=36) (hk1:k+1<s.size) (c5:¬(97≤byt s (k+1)∧byt s (k+1)≤122)) :
  Calls Tryz.prog 172 #[.string s,.int .i64 k] w (zba s k w):=by
 have hk':(k:Int)<(s.size:Nat):=by omega
 have hwk:IntKind.i64.wrap ((k:Int)+1)=(k:Int)+1:=IntWalk.i64_in _ (by omega)
 have hcl:=s[k].toNat_lt
 have HS:=Lib.hid (fun w=>zaf s[k] w)
 have HG:=Lib.hid (fun w=>za0 s[k] w)
 have HD:=Lib.hid (fun w=>zao s[k] w)
 rw[zbv s k hk]at HS
 rw[zcm s k hk]at HG
 rw[zcn s k hk]at HD
 rw[(show decide (97≤byt s k∧byt s k≤122)=false from decide_eq_false c1)]at HS
 rw[(show decide (65≤byt s k∧byt s k≤90)=false from decide_eq_false c2)]at HG
 rw[(show decide (48≤byt s k∧byt s k≤57)=false from decide_eq_false c3)]at HD
 have HS2:=Lib.hid (fun w=>zaf s[k+1] w)
 rw[zbv s (k+1) hk1,(show decide (97≤byt s (k+1)∧byt s (k+1)≤122)=false from decide_eq_false c5)]at HS2
 have HO:=Lib.hid (zbu (s:=s) (k:=k) (r:=k) (n:=3) (by unfold z8;rw[if_neg c1,if_neg c2,if_neg c3,if_pos c4,if_neg c5]) (by decide))
 have d4:((s[k].toNat:Int)==36)=true:=by rw[beq_iff_eq,←zbs hk];exact c4
 have d5:decide ((k:Int)+1<(s.size:Nat))=true:=decide_eq_true (by omega)
 have d6:(k:Int)+1<(s.size:Nat):=by omega
 unfold zba
 clear c1 c2 c3 c4 c5
 have hsl:=fun w=>zj2 s k k k k rfl rfl (Nat.le_refl _) (by omega) w
 generalize s.extract k k=tx at hsl
 go_enter Tryz.func172,Tryz.ntmps172
 go_wp2_with (first|(go_at_call 127;with_reducible refine(HS2.out _).mono ?_;rintro e w' ⟨rfl,rfl⟩)|(go_at_call 127;refine(HS.out _).mono ?_;rintro e w' ⟨rfl,rfl⟩)|(go_at_call 161;refine(HG.out _).mono ?_;rintro e w' ⟨rfl,rfl⟩)|(go_at_call 162;refine(HD.out _).mono ?_;rintro e w' ⟨rfl,rfl⟩))
 refine bodyPost_ret (v:=.tuple #[.agg #[.int .i64 3,.string tx,.int .i64 k],.int .i64 k]) (by simp[results,Tryz.results172,go_sem]) rfl ?_
 exact⟨⟨⟨3,tx,k⟩,by rw[HO.out.1];rfl,fun h=>by rw[HO.out.1]at h;exact absurd h (Nat.lt_irrefl _)⟩,by go_grown⟩
theorem zrp (s:ByteArray) (hs:s.size≤1073741824) (k:Nat) (hk:k<s.size) (w:World) (c1:¬(97≤byt s k∧byt s k≤122)) (c2:¬(65≤byt s k∧byt s k≤90)) (c3:¬(48≤byt s k∧byt s k≤57)) (c4:byt s k=36) (hk1:¬k+1<s.size) (c5:¬(97≤byt s (k+1)∧byt s (k+1)≤122)) :
  Calls Tryz.prog 172 #[.string s,.int .i64 k] w (zba s k w):=by
 have hk':(k:Int)<(s.size:Nat):=by omega
 have hwk:IntKind.i64.wrap ((k:Int)+1)=(k:Int)+1:=IntWalk.i64_in _ (by omega)
 have hcl:=s[k].toNat_lt
 have HS:=Lib.hid (fun w=>zaf s[k] w)
 have HG:=Lib.hid (fun w=>za0 s[k] w)
 have HD:=Lib.hid (fun w=>zao s[k] w)
 rw[zbv s k hk]at HS
 rw[zcm s k hk]at HG
 rw[zcn s k hk]at HD
 rw[(show decide (97≤byt s k∧byt s k≤122)=false from decide_eq_false c1)]at HS
 rw[(show decide (65≤byt s k∧byt s k≤90)=false from decide_eq_false c2)]at HG
 rw[(show decide (48≤byt s k∧byt s k≤57)=false from decide_eq_false c3)]at HD
 have HO:=Lib.hid (zbu (s:=s) (k:=k) (r:=k) (n:=3) (by unfold z8;rw[if_neg c1,if_neg c2,if_neg c3,if_pos c4,if_neg c5]) (by decide))
 have d4:((s[k].toNat:Int)==36)=true:=by rw[beq_iff_eq,←zbs hk];exact c4
 have d5:decide ((k:Int)+1<(s.size:Nat))=false:=decide_eq_false (by omega)
 unfold zba
 clear c1 c2 c3 c4 c5
 have hsl:=fun w=>zj2 s k k k k rfl rfl (Nat.le_refl _) (by omega) w
 generalize s.extract k k=tx at hsl
 go_enter Tryz.func172,Tryz.ntmps172
 go_wp2_with (first|(go_at_call 127;refine(HS.out _).mono ?_;rintro e w' ⟨rfl,rfl⟩)|(go_at_call 161;refine(HG.out _).mono ?_;rintro e w' ⟨rfl,rfl⟩)|(go_at_call 162;refine(HD.out _).mono ?_;rintro e w' ⟨rfl,rfl⟩))
 refine bodyPost_ret (v:=.tuple #[.agg #[.int .i64 3,.string tx,.int .i64 k],.int .i64 k]) (by simp[results,Tryz.results172,go_sem]) rfl ?_
 exact⟨⟨⟨3,tx,k⟩,by rw[HO.out.1];rfl,fun h=>by rw[HO.out.1]at h;exact absurd h (Nat.lt_irrefl _)⟩,by go_grown⟩
theorem zt1 (s:ByteArray) (hs:s.size≤1073741824) (k:Nat) (hk:k<s.size) (w:World) (c1:¬(97≤byt s k∧byt s k≤122)) (c2:¬(65≤byt s k∧byt s k≤90)) (c3:¬(48≤byt s k∧byt s k≤57)) (c4:byt s k=39) (c5:k<zak s k) :
  Calls Tryz.prog 172 #[.string s,.int .i64 k] w (zba s k w):=by
 have hk':(k:Int)<(s.size:Nat):=by omega
 have hwk:IntKind.i64.wrap ((k:Int)+1)=(k:Int)+1:=IntWalk.i64_in _ (by omega)
 have hcl:=s[k].toNat_lt
 have HS:=Lib.hid (fun w=>zaf s[k] w)
 have HG:=Lib.hid (fun w=>za0 s[k] w)
 have HD:=Lib.hid (fun w=>zao s[k] w)
 rw[zbv s k hk]at HS
 rw[zcm s k hk]at HG
 rw[zcn s k hk]at HD
 rw[(show decide (97≤byt s k∧byt s k≤122)=false from decide_eq_false c1)]at HS
 rw[(show decide (65≤byt s k∧byt s k≤90)=false from decide_eq_false c2)]at HG
 rw[(show decide (48≤byt s k∧byt s k≤57)=false from decide_eq_false c3)]at HD
 have HW:=Lib.hid (fun w=>zg9 s hs k hk w)
 have hq2:=@zhd s k
 have hq1:=ze7 hk
 have hq0:=ze6 s k
 have HO:=Lib.hid (zgr (s:=s) (k:=k) (r:=zak s k) (by unfold z8;rw[if_neg c1,if_neg c2,if_neg c3,if_neg (by omega),if_pos c4]))
 have d4:((s[k].toNat:Int)==36)=false:=by rw[beq_eq_false_iff_ne,←zbs hk];omega
 have d5:((s[k].toNat:Int)==39)=true:=by rw[beq_iff_eq,←zbs hk];exact c4
 unfold zba
 generalize zak s k=r at *
 clear c1 c2 c3 c4
 have h2:=hq2 c5
 have d6:decide ((k:Int)<(r:Nat))=true:=decide_eq_true (by omega)
 have d7:(k:Int)+1≤(r:Int)-1:=by omega
 have d8:(r:Int)-1≤(s.size:Nat):=by omega
 have d9:IntKind.i64.wrap ((r:Int)-1)=(r:Int)-1:=IntWalk.i64_in _ (by omega)
 have d10:((r:Int)-1).toNat=r-1:=by omega
 have d11:((k:Int)+1).toNat=k+1:=by omega
 have hsl:=fun w=>zj2 s (k+1) (r-1) ((k:Int)+1) ((r:Int)-1) (by omega) (by omega) (by omega) (by omega) w
 generalize s.extract (k+1) (r-1)=tx at hsl HO
 clear hq2 d10 d11 d7 d8
 go_enter Tryz.func172,Tryz.ntmps172
 go_wp2_with (first|(go_at_call 190;refine(HW.out _).mono ?_;rintro e w' ⟨rfl,rfl⟩)|(go_at_call 127;refine(HS.out _).mono ?_;rintro e w' ⟨rfl,rfl⟩)|(go_at_call 161;refine(HG.out _).mono ?_;rintro e w' ⟨rfl,rfl⟩)|(go_at_call 162;refine(HD.out _).mono ?_;rintro e w' ⟨rfl,rfl⟩))
 refine bodyPost_ret (v:=.tuple #[.agg #[.int .i64 4,.string (tx),.int .i64 k],.int .i64 r]) (by simp[results,Tryz.results172,go_sem]) rfl ?_
 exact⟨⟨⟨4,tx,k⟩,by rw[HO.out.1];rfl,fun _=>HO.out.2.symm⟩,by go_grown⟩
theorem zt2 (s:ByteArray) (hs:s.size≤1073741824) (k:Nat) (hk:k<s.size) (w:World) (c1:¬(97≤byt s k∧byt s k≤122)) (c2:¬(65≤byt s k∧byt s k≤90)) (c3:¬(48≤byt s k∧byt s k≤57)) (c4:byt s k=39) (c5:¬k<zak s k) :
  Calls Tryz.prog 172 #[.string s,.int .i64 k] w (zba s k w):=by
 have hk':(k:Int)<(s.size:Nat):=by omega
 have hwk:IntKind.i64.wrap ((k:Int)+1)=(k:Int)+1:=IntWalk.i64_in _ (by omega)
 have hcl:=s[k].toNat_lt
 have HS:=Lib.hid (fun w=>zaf s[k] w)
 have HG:=Lib.hid (fun w=>za0 s[k] w)
 have HD:=Lib.hid (fun w=>zao s[k] w)
 rw[zbv s k hk]at HS
 rw[zcm s k hk]at HG
 rw[zcn s k hk]at HD
 rw[(show decide (97≤byt s k∧byt s k≤122)=false from decide_eq_false c1)]at HS
 rw[(show decide (65≤byt s k∧byt s k≤90)=false from decide_eq_false c2)]at HG
 rw[(show decide (48≤byt s k∧byt s k≤57)=false from decide_eq_false c3)]at HD
 have HW:=Lib.hid (fun w=>zg9 s hs k hk w)
 have hq2:=@zhd s k
 have hq1:=ze7 hk
 have hq0:=ze6 s k
 have HO:=Lib.hid (zgr (s:=s) (k:=k) (r:=zak s k) (by unfold z8;rw[if_neg c1,if_neg c2,if_neg c3,if_neg (by omega),if_pos c4]))
 have d4:((s[k].toNat:Int)==36)=false:=by rw[beq_eq_false_iff_ne,←zbs hk];omega
 have d5:((s[k].toNat:Int)==39)=true:=by rw[beq_iff_eq,←zbs hk];exact c4
 unfold zba
 generalize zak s k=r at *
 clear c1 c2 c3 c4
 have d6:decide ((k:Int)<(r:Nat))=false:=decide_eq_false (by omega)
 clear hq2
 go_enter Tryz.func172,Tryz.ntmps172
 go_wp2_with (first|(go_at_call 190;refine(HW.out _).mono ?_;rintro e w' ⟨rfl,rfl⟩)|(go_at_call 127;refine(HS.out _).mono ?_;rintro e w' ⟨rfl,rfl⟩)|(go_at_call 161;refine(HG.out _).mono ?_;rintro e w' ⟨rfl,rfl⟩)|(go_at_call 162;refine(HD.out _).mono ?_;rintro e w' ⟨rfl,rfl⟩))
 refine bodyPost_ret (v:=.tuple #[.agg #[.int .i64 4,.string (⟨#[]⟩),.int .i64 k],.int .i64 r]) (by simp[results,Tryz.results172,go_sem]) rfl ?_
 exact⟨⟨⟨4,⟨#[]⟩,k⟩,by rw[HO.out.1];rfl,fun h=>by rw[HO.out.1]at h;exact absurd h c5⟩,by go_grown⟩
theorem zyu (s:ByteArray) (hs:s.size≤1073741824) (k:Nat) (hk:k<s.size) (w:World) (c1:¬(97≤byt s k∧byt s k≤122)) (c2:¬(65≤byt s k∧byt s k≤90)) (c3:¬(48≤byt s k∧byt s k≤57)) (c4:¬byt s k=36) (c5:¬byt s k=39) :
  Calls Tryz.prog 172 #[.string s,.int .i64 k] w (zba s k w):=by
 have hk':(k:Int)<(s.size:Nat):=by omega
 have hwk:IntKind.i64.wrap ((k:Int)+1)=(k:Int)+1:=IntWalk.i64_in _ (by omega)
 have hcl:=s[k].toNat_lt
 have HS:=Lib.hid (fun w=>zaf s[k] w)
 have HG:=Lib.hid (fun w=>za0 s[k] w)
 have HD:=Lib.hid (fun w=>zao s[k] w)
 rw[zbv s k hk]at HS
 rw[zcm s k hk]at HG
 rw[zcn s k hk]at HD
 rw[(show decide (97≤byt s k∧byt s k≤122)=false from decide_eq_false c1)]at HS
 rw[(show decide (65≤byt s k∧byt s k≤90)=false from decide_eq_false c2)]at HG
 rw[(show decide (48≤byt s k∧byt s k≤57)=false from decide_eq_false c3)]at HD
 have hsz:(s.extract k s.size).size=s.size-k:=by simp
 have hsl:=zmu (s.data.toList.drop k)
 rw[show(s.data.toList.drop k).length=s.size-k by simp]at hsl
 have HX:=Lib.hid (fun w=>zrl (s.extract k s.size) (by omega) (by omega) w)
 rw[Lib.extract_to_end]at HX
 have HO:=Lib.hid (zbu (s:=s) (k:=k) (r:=k+zdx (s.data.toList.drop k)) (n:=6) (by unfold z8;rw[if_neg c1,if_neg c2,if_neg c3,if_neg c4,if_neg c5]) (by decide))
 have d4:((s[k].toNat:Int)==36)=false:=by rw[beq_eq_false_iff_ne,←zbs hk];exact c4
 have d5:((s[k].toNat:Int)==39)=false:=by rw[beq_eq_false_iff_ne,←zbs hk];exact c5
 unfold zba
 generalize zdx (s.data.toList.drop k)=n at HX hsl HO
 have hn:(k:Int)+(n:Nat)≤(s.size:Nat):=by omega
 have hn0:(0:Int)≤(n:Nat):=by omega
 have hsl2:=fun w=>zj2 s k (k+n) (k:Int) ((k:Int)+(n:Nat)) rfl (by omega) (by omega) (by omega) w
 generalize s.extract k (k+n)=tx at hsl2 HO
 have hwn:IntKind.i64.wrap ((k:Int)+(n:Nat))=(k:Int)+(n:Nat):=IntWalk.i64_in _ (by omega)
 clear c1 c2 c3 c4 c5 hsl
 obtain⟨W,hW⟩:∃W,W=w.alloc (.cells #[.int .i64 0,.string ⟨#[]⟩,.int .i64 k] 77):=⟨_,rfl⟩
 have hx:Ext w W:=by subst hW;go_grown
 have ho:=own3 w (.int .i64 0) (.string ⟨#[]⟩) (.int .i64 k) 77
 rw[←hW]at ho
 go_enter Tryz.func172,Tryz.ntmps172
 go_wp2_with (first|(go_at_call 191;rw[←hW];clear hW;refine(HX.out _).mono ?_;rintro e w' ⟨rfl,hw'⟩;have ho1:=ho.ext hw';obtain⟨t0,u0⟩:=ho1 0 _ rfl;obtain⟨t1,u1⟩:=ho1 1 _ rfl;obtain⟨t2,u2⟩:=ho1 2 _ rfl)|(go_at_call 127;refine(HS.out _).mono ?_;rintro e w' ⟨rfl,rfl⟩)|(go_at_call 161;refine(HG.out _).mono ?_;rintro e w' ⟨rfl,rfl⟩)|(go_at_call 162;refine(HD.out _).mono ?_;rintro e w' ⟨rfl,rfl⟩))
 have hf:=((((ho1.set (i:=0) (by simp) (.int .i64 6)).set (i:=1) (by simp) (.string tx)).set (i:=0) (by simp) (.int .i64 6)).set (i:=1) (by simp) (.string tx)).set (i:=2) (by simp) (.int .i64 k)
 have r0:=(hf 0 (.int .i64 6) rfl).1
 have r1:=(hf 1 (.string tx) rfl).1
 have r2:=(hf 2 (.int .i64 k) rfl).1
 refine bodyPost_ret (v:=.tuple #[.agg #[.int .i64 6,.string tx,.int .i64 k],.int .i64 ((k:Int)+(n:Nat))]) (by simp[results,Tryz.results172,go_sem,r0,r1,r2]) rfl ?_
 refine⟨⟨⟨6,tx,k⟩,by rw[HO.out.1];rfl,fun _=>HO.out.2.symm⟩,Chg.ext (S:=[w.heap.size]) (hx.trans hw') ?_ (by simp)⟩
 exact(((((Chg.refl _ _).setCell _ (.inl (by simp))).setCell _ (.inl (by simp))).setCell _ (.inl (by simp))).setCell _ (.inl (by simp))).setCell _ (.inl (by simp))
theorem zvt (s:ByteArray) (hs:s.size≤1073741824) (k:Nat) (hk:k<s.size) (w:World):Calls Tryz.prog 172 #[.string s,.int .i64 k] w (zba s k w):=by
 by_cases c1:97≤byt s k∧byt s k≤122
 ·exact zvq s hs k hk w c1
 by_cases c2:65≤byt s k∧byt s k≤90
 ·exact zvr s hs k hk w c1 c2
 by_cases c3:48≤byt s k∧byt s k≤57
 ·exact zvs s hs k hk w c1 c2 c3
 by_cases c4:byt s k=36
 ·by_cases h1:k+1<s.size
  ·by_cases c5:97≤byt s (k+1)∧byt s (k+1)≤122
   ·exact zrn s hs k hk w c1 c2 c3 c4 h1 c5
   ·exact zro s hs k hk w c1 c2 c3 c4 h1 c5
  ·exact zrp s hs k hk w c1 c2 c3 c4 h1 (by rw[zds (by omega)];omega)
 by_cases c5:byt s k=39
 ·by_cases h1:k<zak s k
  ·exact zt1 s hs k hk w c1 c2 c3 c5 h1
  ·exact zt2 s hs k hk w c1 c2 c3 c5 h1
 ·exact zyu s hs k hk w c1 c2 c3 c4 c5
inductive CStep where
 |done
 |skip (k:Nat)
 |bad (e:Int)
 |tok (t:Tok) (k:Nat)
def zac (s:ByteArray) (k:Nat):CStep :=
 if s.size≤k then .done
 else if byt s k=32∨byt s k=9∨byt s k=10∨byt s k=13 then .skip (k+1)
 else if zar s k≠k then .skip (zar s k)
 else if zbk s k=k then .bad 220
 else if (za1 s k).kind≠6∧40<(za1 s k).text.size then .bad 3
 else .tok (za1 s k) (zbk s k)
def ze8 (s:ByteArray):Tok:=⟨7,⟨#[]⟩,s.size⟩
def zgc (s:ByteArray):Nat→Nat→List Tok×Nat×Int
 |0,_=>([],0,0)
 |f+1,k=>match zac s k with
  |.done=>([ze8 s],0,0)
  |.skip k'=>zgc s f k'
  |.bad e=>([],k,e)
  |.tok t k'=>(t::(zgc s f k').1,(zgc s f k').2)
theorem zt3 {s:ByteArray}{i j:Nat}(h:zcc s i=some j):i+2≤j:=by
 unfold zcc at h
 split at h
 ·injection h with h;omega
 ·cases h
theorem zmv {s:ByteArray}{i j:Nat}(hi:i≤s.size) (h:zcc s i=some j):j≤s.size:=by
 by_cases h1:i<s.size
 ·rw[zja h1]at h
  split at h
  ·rename_i hc
   injection h with h
   rcases Nat.lt_or_ge (i+1) s.size with h2|h2
   ·omega
   ·have:=hc.2;rw[zds h2]at this;omega
  ·exact zmv (by omega) h
 ·rw[zrd (by omega)]at h;cases h
termination_by s.size-i
theorem zjb (s:ByteArray) (k:Nat):k≤zar s k:=by
 unfold zar
 split
 ·exact zb9 _ _ _
 ·split
  ·cases h:zcc s (k+2) with
   |none=>exact Nat.le_refl _
   |some j=>have:=zt3 h;simp;omega
  ·exact Nat.le_refl _
theorem zjc {s:ByteArray}{k:Nat}(hk:k<s.size):zar s k≤s.size:=by
 unfold zar
 split
 ·exact zca (by omega)
 ·split
  ·rename_i hc
   cases h:zcc s (k+2) with
   |none=>simp;omega
   |some j =>
    have:k+1<s.size:=by
     rcases Nat.lt_or_ge (k+1) s.size with h2|h2
     ·exact h2
     ·have:=hc.2;rw[zds h2]at this;omega
    exact zmv (by omega) h
  ·omega
theorem ze9 {s:ByteArray}{k:Nat}(h1:byt s k≠37) (h2:byt s k≠47):zar s k=k:=by
 unfold zar
 rw[if_neg h1,if_neg (fun h=>h2 h.1)]
theorem zd5 {s:ByteArray}{k k':Nat}(h:zac s k=.skip k'):k<k'∧k'≤s.size:=by
 unfold zac at h
 split at h
 ·cases h
 ·rename_i hk
  split at h
  ·injection h with h;omega
  ·split at h
   ·rename_i hr
    injection h with h
    have:=zjb s k
    have:=zjc (s:=s) (k:=k) (by omega)
    omega
   ·split at h
    ·cases h
    ·split at h<;>cases h
theorem zeo {s:ByteArray}{k k':Nat}{t:Tok}(h:zac s k=.tok t k'):k<k'∧k'≤s.size∧k<s.size∧t=za1 s k∧k'=zbk s k:=by
 unfold zac at h
 split at h
 ·cases h
 ·rename_i hk
  split at h
  ·cases h
  ·split at h
   ·cases h
   ·split at h
    ·cases h
    ·rename_i ho
     split at h
     ·cases h
     ·injection h with h1 h2
      have:=zpe s k
      have:=zpf (s:=s) (k:=k) (by omega)
      exact⟨by omega,by omega,by omega,h1.symm,h2.symm⟩
theorem zep {s:ByteArray}:∀ {f g k:Nat},s.size<f+k→s.size<g+k→k≤s.size→zgc s f k=zgc s g k
 |0,_,_,h,_,_=>by omega
 |_+1,0,_,_,h,_=>by omega
 |f+1,g+1,k,h1,h2,hk=>by
  unfold zgc
  cases hc:zac s k with
  |done=>rfl
  |skip k'=>obtain⟨h3,h4⟩:=zd5 hc;exact zep (by omega) (by omega) h4
  |bad e=>rfl
  |tok t k' =>
   obtain⟨h3,h4,-⟩:=zeo hc
   simp only
   rw[zep (f:=f) (g:=g) (by omega) (by omega) h4]
def zq (s:ByteArray) (k:Nat):List Tok×Nat×Int:=zgc s (s.size+1-k) k
theorem zc1 {s:ByteArray}{k:Nat}(hk:k≤s.size):zq s k=match zac s k with
  |.done=>([ze8 s],0,0)
  |.skip k'=>zq s k'
  |.bad e=>([],k,e)
  |.tok t k'=>(t::(zq s k').1,(zq s k').2):=by
 unfold zq
 rw[show s.size+1-k=(s.size-k)+1 by omega]
 conv=>lhs;unfold zgc
 cases hc:zac s k with
 |done=>rfl
 |skip k' =>
  obtain⟨h3,h4⟩:=zd5 hc
  exact zep (by omega) (by omega) h4
 |bad e=>rfl
 |tok t k' =>
  obtain⟨h3,h4,-⟩:=zeo hc
  simp only
  rw[zep (f:=s.size-k) (g:=s.size+1-k') (by omega) (by omega) h4]
theorem zpg (s:ByteArray) (k:Nat):1≤(z8 s k).1∧(z8 s k).1≤6:=by
 unfold z8
 repeat' split
 all_goals (simp only;omega)
theorem zvu {s:ByteArray}(hs:s.size≤1073741824){k:Nat}(hk:k<s.size):(za1 s k).ok:=by
 obtain⟨h1,h2⟩:=zpg s k
 refine⟨⟨by unfold za1;simp only;omega,by unfold za1;simp only;omega⟩,?_,by unfold za1;simp only;omega,by unfold za1;simp only;omega⟩
 unfold za1
 simp only
 split<;>simp<;>omega
theorem zvv {s:ByteArray}(hs:s.size≤1073741824):(ze8 s).ok:=⟨by unfold ze8;simp,by unfold ze8;exact Nat.zero_le _,by unfold ze8;simp only;omega,by unfold ze8;simp only;omega⟩
def TokRow (B:Nat) (w:World) (v:Value) (l:List Tok):Prop:=GRow (z6 3) 77 B w v (l.map Tok.dat)
def zfa (s:ByteArray):List Tok×Nat×Int:=if (zq s 0).2.2=0 then ((zq s 0).1,0,0)else ([],(zq s 0).2)
def cutS (s:ByteArray):List Tok×Nat×Int:=if 8000<s.size then ([],0,3)else zfa s
def CutSays (c:List Tok×Nat×Int) (w:World) (e:Ending) (w':World):Prop:=(∃v,e=.returned (.tuple #[v,.int .i64 (c.2.1:Nat),.int .i64 c.2.2])∧TokRow w.heap.size w' v c.1)∧Ext w w'
theorem CutSays.mk {c:List Tok×Nat×Int}{w w':World}{v:Value}{e:Ending}(h1:e=.returned (.tuple #[v,.int .i64 (c.2.1:Nat),.int .i64 c.2.2])) (h2:TokRow w.heap.size w' v c.1) (h3:Ext w w'):CutSays c w e w':=⟨⟨v,h1,h2⟩,h3⟩
def Ends (ks:List Tok):Prop:=∃p t,ks=p++[t]∧t.kind=7
theorem Ends.tail {t:Tok}{r:List Tok}(h:Ends (t::r)) (ht:t.kind≠7):Ends r:=by
 obtain⟨p,u,h1,h2⟩:=h
 cases p with
 |nil =>
  simp only[List.nil_append,List.cons.injEq]at h1
  rw[h1.1]at ht;exact absurd h2 ht
 |cons x p =>
  rw[List.cons_append]at h1
  injection h1 with _ h1
  exact⟨p,u,h1,h2⟩
def Pres {α:Type}(one:List Tok→Rd α):Prop:=∀ks x r,Ends ks→one ks=.ok x r→Ends r
theorem zbn {s:ByteArray}{ks r:List Tok}(he:Ends ks) (h:zx s ks=some r):Ends r:=by
 cases ks with
 |nil=>cases h
 |cons t ks =>
  rw[zce]at h
  split at h
  ·rename_i ht
   injection h with h;subst h
   refine he.tail ?_
   unfold Tok.sign at ht
   rw[Bool.and_eq_true,decide_eq_true_eq]at ht
   rw[ht.1];decide
  ·cases h
theorem zas (s:ByteArray):Pres (zw s):=fun ks x r he h=>by
 unfold zw at h
 split at h
 ·rename_i h';injection h with _ h;subst h;exact zbn he h'
 ·cases h
theorem zik {k:Int}(hk:k≠7):Pres (za5 k):=fun ks x r he h=>by
 cases ks with
 |nil=>cases h
 |cons t ks =>
  rw[zcf]at h
  split at h
  ·rename_i ht;injection h with _ h;subst h;exact he.tail (by rw[ht];exact hk)
  ·cases h
theorem zmw {α:Type}{one:List Tok→Rd α}{sep:ByteArray}(h1:Pres one):∀f,Pres (ze4 one sep f)
 |0=>fun ks x r he h=>by cases h
 |f+1=>fun ks x r he h=>by
  unfold ze4 at h
  split at h
  ·injection h with _ h;subst h;exact he
  ·rename_i r1 ht
   obtain⟨y,r2,h2,h⟩:=bind_ok h
   obtain⟨z,h3,-⟩:=map_ok h
   exact zmw h1 f r2 z r (h1 _ _ _ (zbn he ht) h2) h3
theorem zki {α:Type}{one:List Tok→Rd α}{sep:ByteArray}(h1:Pres one):Pres (more one sep):=fun ks x r he h=>zmw h1 _ ks x r he h
theorem zkj {α:Type}{one:List Tok→Rd α}{sep:ByteArray}(h1:Pres one):Pres (rowR one sep):=fun ks x r he h=>by
 unfold rowR at h
 obtain⟨y,r2,h2,h⟩:=bind_ok h
 obtain⟨z,h3,-⟩:=map_ok h
 exact zki h1 r2 z r (h1 _ _ _ he h2) h3
theorem zmx {t:Tok}(h:t.named=true):t.kind≠7:=fun h7=>by
 unfold Tok.named at h;rw[h7]at h;simp at h
theorem znz {one:List Tok→Rd Ex}(h1:Pres one):Pres (zdt one):=fun ks x r he h=>by
 cases ks with
 |nil=>cases h
 |cons t ks =>
  rw[zam]at h
  split at h
  ·rename_i h2;injection h with _ h;subst h;exact he.tail (by rw[h2];decide)
  ·split at h
   ·rename_i hn
    have he2:=he.tail (zmx hn)
    split at h
    ·injection h with _ h;subst h;exact he2
    ·rename_i r1 ht
     obtain⟨y,r2,h2,h⟩:=bind_ok h
     obtain⟨z,h3,-⟩:=map_ok h
     exact zas _ _ _ _ (zkj h1 _ _ _ (zbn he2 ht) h2) h3
   ·cases h
theorem zkk:∀f,Pres (zhw f)
 |0=>fun ks x r he h=>by cases h
 |f+1=>znz (zkk f)
theorem zil:Pres za2:=fun ks x r he h=>zkk _ ks x r he h
theorem zph:Pres za3:=fun ks x r he h=>by
 have tl:∀tx:ByteArray,(ks.head?.map fun t=>decide (t.kind=3)&&decide (t.text=tx))=some true→Ends ks.tail:=fun tx ht=>by
  cases ks with
  |nil=>cases ht
  |cons t ks =>
   simp only[List.head?_cons,Option.map_some,Option.some.injEq,Bool.and_eq_true,decide_eq_true_eq]at ht
   exact he.tail (by rw[ht.1];decide)
 unfold za3 at h
 split at h
 ·rename_i ht;injection h with _ h;subst h;exact tl _ ht
 ·split at h
  ·rename_i ht;injection h with _ h;subst h;exact tl _ ht
  ·obtain⟨y,r2,h2,h⟩:=bind_ok h
   have he2:=zil _ _ _ he h2
   split at h
   ·rename_i ht
    obtain⟨z,h3,-⟩:=map_ok h
    exact zil _ _ _ (zbn he2 ht) h3
   ·split at h
    ·rename_i ht
     obtain⟨z,h3,-⟩:=map_ok h
     exact zil _ _ _ (zbn he2 ht) h3
    ·split at h
     ·cases h
     ·injection h with _ h;subst h;exact he2
theorem zgd {u:List Tok→Rd Fm}(h1:Pres u) (op:Int):Pres (zad u op):=fun ks x r he h=>by
 unfold zad at h
 obtain⟨_,r1,h2,h⟩:=bind_ok h
 obtain⟨_,r2,h3,h⟩:=bind_ok h
 obtain⟨_,r3,h4,h⟩:=bind_ok h
 obtain⟨_,r4,h5,h⟩:=bind_ok h
 obtain⟨z,h6,-⟩:=map_ok h
 exact h1 _ _ _ (zas _ _ _ _ (zas _ _ _ _ (zkj (zik (by decide)) _ _ _ (zas _ _ _ _ he h2) h3) h4) h5) h6
theorem zkl {u:List Tok→Rd Fm}(h1:Pres u) (f:Fm):Pres (zc6 u f):=fun ks x r he h=>by
 cases ks with
 |nil=>injection h with _ h;subst h;exact he
 |cons t ks =>
  rw[zl]at h
  split at h
  ·injection h with _ h;subst h;exact he
  ·rename_i h6
   split at h
   ·obtain⟨z,h3,-⟩:=map_ok h;exact zki h1 _ _ _ he h3
   ·split at h
    ·obtain⟨z,h3,-⟩:=map_ok h;exact zki h1 _ _ _ he h3
    ·split at h
     ·obtain⟨z,h3,-⟩:=map_ok h
      exact h1 _ _ _ (he.tail (by have:t.kind=6:=Classical.not_not.1 h6;rw[this];decide)) h3
     ·injection h with _ h;subst h;exact he
theorem zhe {u:List Tok→Rd Fm}(h1:Pres u):Pres (zh u):=fun ks x r he h=>by
 unfold zh at h
 obtain⟨y,r2,h2,h⟩:=bind_ok h
 exact zkl h1 y _ _ _ (h1 _ _ _ he h2) h
theorem zn0 {u:List Tok→Rd Fm}(h1:Pres u):Pres (zan u):=fun ks x r he h=>by
 unfold zan at h
 split at h
 ·rename_i ht
  obtain⟨z,h3,-⟩:=map_ok h
  exact h1 _ _ _ (zbn he ht) h3
 ·split at h
  ·rename_i ht;exact zgd h1 _ _ _ _ (zbn he ht) h
  ·split at h
   ·rename_i ht;exact zgd h1 _ _ _ _ (zbn he ht) h
   ·split at h
    ·rename_i ht
     obtain⟨y,r2,h2,h⟩:=bind_ok h
     obtain⟨z,h3,-⟩:=map_ok h
     exact zas _ _ _ _ (zhe h1 _ _ _ (zbn he ht) h2) h3
    ·exact zph _ _ _ he h
theorem zkm:∀f,Pres (zh0 f)
 |0=>fun ks x r he h=>by cases h
 |f+1=>zn0 (zkm f)
theorem zt4:Pres zr:=fun ks x r he h=>zkm _ ks x r he h
theorem zt5:Pres zex:=fun ks x r he h=>zhe zt4 ks x r he h
theorem zjd {s:ByteArray}:∀ {k:Nat},k≤s.size→(zq s k).2.2=0→Ends (zq s k).1:=by
 suffices h:∀n k,n=s.size-k→k≤s.size→(zq s k).2.2=0→Ends (zq s k).1 from fun {k} hk h0=>h _ k rfl hk h0
 intro n
 induction n using Nat.strongRecOn with
 |ind n ih =>
  intro k hn hk h0
  rw[zc1 hk]at h0 ⊢
  cases hc:zac s k with
  |done=>exact⟨[],ze8 s,rfl,rfl⟩
  |skip k' =>
   rw[hc]at h0
   obtain⟨h1,h2⟩:=zd5 hc
   exact ih _ (by omega) k' rfl h2 h0
  |bad e =>
   rw[hc]at h0
   unfold zac at hc
   have:e=220∨e=3:=by
    repeat' (split at hc)
    all_goals first
     |(cases hc;done)
     |(injection hc with hc;exact .inl hc.symm)
     |(injection hc with hc;exact .inr hc.symm)
   simp only at h0
   omega
  |tok t k' =>
   rw[hc]at h0
   obtain⟨h1,h2,-⟩:=zeo hc
   obtain⟨p,u,h3,h4⟩:=ih _ (by omega) k' rfl h2 h0
   exact⟨t::p,u,by simp only[h3,List.cons_append],h4⟩
theorem zkn {s:ByteArray}:∀ {k:Nat},k≤s.size→(zq s k).1.length≤s.size+1-k:=by
 suffices h:∀n k,n=s.size-k→k≤s.size→(zq s k).1.length≤s.size+1-k from fun {k} hk=>h _ k rfl hk
 intro n
 induction n using Nat.strongRecOn with
 |ind n ih =>
  intro k hn hk
  rw[zc1 hk]
  cases hc:zac s k with
  |done=>simp;omega
  |skip k' =>
   obtain⟨h1,h2⟩:=zd5 hc
   have:=ih _ (by omega) k' rfl h2
   simp only
   omega
  |bad e=>simp
  |tok t k' =>
   obtain⟨h1,h2,-⟩:=zeo hc
   have:=ih _ (by omega) k' rfl h2
   simp only[List.length_cons]
   omega
theorem zim (n:Nat) (want:Int) (hn:n≤1073741824) (hw:-1000≤want) (hw':want≤1000) (w:World) :
  Calls Tryz.prog 99 #[.int .i64 n,.int .i64 want] w fun e w'=>e=.returned (.bool (zaw n want))∧w=w':=by
 by_cases h1:(n:Int)=want
 ·have q1:((n:Int)==want)=true:=by rw[beq_iff_eq];exact h1
  have HR:=Lib.hid (show zaw n want=true by unfold zaw;rw[if_neg (by omega),decide_eq_true h1])
  clear h1
  go_enter Tryz.func99,Tryz.ntmps99
  go_wp2
  go_ret
  exact⟨ze HR.out.symm,rfl⟩
 have q1:((n:Int)==want)=false:=by rw[beq_eq_false_iff_ne];exact h1
 by_cases h2:want<0
 ·have q2:decide (want<0)=true:=decide_eq_true h2
  have hneg:IntKind.i64.wrap (-want)=-want:=IntWalk.i64_in _ (by omega)
  by_cases h3:-want≤n
  ·have q3:decide (-want≤n)=true:=decide_eq_true h3
   have HR:=Lib.hid (show zaw n want=true by unfold zaw;rw[if_pos h2,decide_eq_true h3])
   clear h1 h2 h3
   go_enter Tryz.func99,Tryz.ntmps99
   go_wp2
   go_ret
   exact⟨ze (by rw[HR.out]),rfl⟩
  ·have q3:decide (-want≤n)=false:=decide_eq_false h3
   have HR:=Lib.hid (show zaw n want=false by unfold zaw;rw[if_pos h2,decide_eq_false h3])
   clear h1 h2 h3
   go_enter Tryz.func99,Tryz.ntmps99
   go_wp2
   go_ret
   exact⟨ze (by rw[HR.out]),rfl⟩
 ·have q2:decide (want<0)=false:=decide_eq_false h2
  have HR:=Lib.hid (show zaw n want=false by unfold zaw;rw[if_neg h2,decide_eq_false h1])
  clear h1 h2
  go_enter Tryz.func99,Tryz.ntmps99
  go_wp2
  go_ret
  exact⟨ze (by rw[HR.out]),rfl⟩
theorem zpi (s:ByteArray) (hs:s.size≤1073741824) (w:World) :
  Calls Tryz.prog 100 #[.string s] w fun e w'=>e=.returned (.bool (zcg s))∧w=w':=by
 have HN:=Lib.hid (fun w=>zdw s hs w)
 unfold zcg
 cases hn:named s with
 |false =>
  rw[hn]at HN
  go_enter Tryz.func100,Tryz.ntmps100
  go_wp2_with (go_at_call 69;refine(HN.out _).mono ?_;rintro e w' ⟨rfl,rfl⟩)
  go_ret
  exact⟨rfl,rfl⟩
 |true =>
  rw[hn]at HN
  have h1:=(zee hn).1
  have hi:(0:Int)<(s.size:Nat):=by omega
  have hi':0<s.size:=by omega
  have hb:=zbs hi'
  have hcl:=s[0].toNat_lt
  by_cases h65:65≤(s[0].toNat:Int)
  ·have q1:decide ((65:Int)≤s[0].toNat)=true:=decide_eq_true h65
   by_cases h90:(s[0].toNat:Int)≤90
   ·have q2:decide ((s[0].toNat:Int)≤90)=true:=decide_eq_true h90
    have HR:=Lib.hid (show(true&&decide (65≤byt s 0∧byt s 0≤90))=true by rw[hb,decide_eq_true ⟨h65,h90⟩];rfl)
    clear hb h65 h90
    go_enter Tryz.func100,Tryz.ntmps100
    go_wp2_with (go_at_call 69;refine(HN.out _).mono ?_;rintro e w' ⟨rfl,rfl⟩)
    go_ret
    exact⟨ze (by rw[HR.out]),rfl⟩
   ·have q2:decide ((s[0].toNat:Int)≤90)=false:=decide_eq_false h90
    have HR:=Lib.hid (show(true&&decide (65≤byt s 0∧byt s 0≤90))=false by rw[hb,decide_eq_false (fun h=>h90 h.2)];rfl)
    clear hb h65 h90
    go_enter Tryz.func100,Tryz.ntmps100
    go_wp2_with (go_at_call 69;refine(HN.out _).mono ?_;rintro e w' ⟨rfl,rfl⟩)
    go_ret
    exact⟨ze (by rw[HR.out]),rfl⟩
  ·have q1:decide ((65:Int)≤s[0].toNat)=false:=decide_eq_false h65
   have HR:=Lib.hid (show(true&&decide (65≤byt s 0∧byt s 0≤90))=false by rw[hb,decide_eq_false (fun h=>h65 h.1)];rfl)
   clear hb h65
   go_enter Tryz.func100,Tryz.ntmps100
   go_wp2_with (go_at_call 69;refine(HN.out _).mono ?_;rintro e w' ⟨rfl,rfl⟩)
   go_ret
   exact⟨ze (by rw[HR.out]),rfl⟩
theorem zje (s:ByteArray) (hs:s.size≤1073741824) (w:World) :
  Calls Tryz.prog 144 #[.string s] w fun e w'=>e=.returned (.bool (zcg s))∧w=w':=by
 have HN:=Lib.hid (fun w=>zd3 s hs w)
 unfold zcg
 cases hn:named s with
 |false =>
  rw[hn]at HN
  go_enter Tryz.func144,Tryz.ntmps144
  go_wp2_with (go_at_call 72;refine(HN.out _).mono ?_;rintro e w' ⟨rfl,rfl⟩)
  go_ret
  exact⟨rfl,rfl⟩
 |true =>
  rw[hn]at HN
  have h1:=(zee hn).1
  have hi:(0:Int)<(s.size:Nat):=by omega
  have hi':0<s.size:=by omega
  have hb:=zbs hi'
  have hcl:=s[0].toNat_lt
  by_cases h65:65≤(s[0].toNat:Int)
  ·have q1:decide ((65:Int)≤s[0].toNat)=true:=decide_eq_true h65
   by_cases h90:(s[0].toNat:Int)≤90
   ·have q2:decide ((s[0].toNat:Int)≤90)=true:=decide_eq_true h90
    have HR:=Lib.hid (show(true&&decide (65≤byt s 0∧byt s 0≤90))=true by rw[hb,decide_eq_true ⟨h65,h90⟩];rfl)
    clear hb h65 h90
    go_enter Tryz.func144,Tryz.ntmps144
    go_wp2_with (go_at_call 72;refine(HN.out _).mono ?_;rintro e w' ⟨rfl,rfl⟩)
    go_ret
    exact⟨ze (by rw[HR.out]),rfl⟩
   ·have q2:decide ((s[0].toNat:Int)≤90)=false:=decide_eq_false h90
    have HR:=Lib.hid (show(true&&decide (65≤byt s 0∧byt s 0≤90))=false by rw[hb,decide_eq_false (fun h=>h90 h.2)];rfl)
    clear hb h65 h90
    go_enter Tryz.func144,Tryz.ntmps144
    go_wp2_with (go_at_call 72;refine(HN.out _).mono ?_;rintro e w' ⟨rfl,rfl⟩)
    go_ret
    exact⟨ze (by rw[HR.out]),rfl⟩
  ·have q1:decide ((65:Int)≤s[0].toNat)=false:=decide_eq_false h65
   have HR:=Lib.hid (show(true&&decide (65≤byt s 0∧byt s 0≤90))=false by rw[hb,decide_eq_false (fun h=>h65 h.1)];rfl)
   clear hb h65
   go_enter Tryz.func144,Tryz.ntmps144
   go_wp2_with (go_at_call 72;refine(HN.out _).mono ?_;rintro e w' ⟨rfl,rfl⟩)
   go_ret
   exact⟨ze (by rw[HR.out]),rfl⟩
def zvw (x:Ex):Prop:=∀(P:Nat→Prop) (w:World) (a b c:Value),IsEx P w a b c x→Calls Tryz.prog 101 #[.agg #[a,b,c]] w fun e w'=>e=.returned (.bool x.may)∧Ext w w'
theorem zvx {x:Ex}(hx:zvw x){P:Nat→Prop}{w:World}{a b c:Value}(h:IsEx P w a b c x):Calls Tryz.prog 143 #[.agg #[a,b,c]] w fun e w'=>e=.returned (.bool (!x.may))∧Ext w w':=by
 have H:=Lib.hid (fun w' (hx':Ext w w')=>hx P w' a b c (h.ext hx'))
 obtain⟨aa,cc,rfl,rfl,rfl,-⟩:=h.form
 clear hx
 go_enter Tryz.func143,Tryz.ntmps143
 go_wp2_with (go_at_call 101;refine(H.out _ (zb _ _)).mono ?_;rintro e w' ⟨rfl,hx1⟩)
 go_ret
 exact⟨rfl,(zb _ _).trans hx1⟩
theorem zpj {l:List Ex}(hl:∀x∈l,zvw x) (hn:l.length≤1073741824){P:Nat→Prop}{w:World}{a:Option Addr}{c:Nat}(h:IsExs P w a l) :
  Calls Tryz.prog 178 #[.slice a l.length c,.func (.func 143) #[] #[]] w fun e w'=>(∃k:Int,e=.returned (.int .i64 k)∧decide (0≤k)=!(Ex.mays l))∧Ext w w':=by
 have HL:=Lib.hid (fun w' k (hk:k<l.length) (P:Nat→Prop) a b c (h:IsEx P w' a b c l[k])=>zvx (hl _ (List.getElem_mem hk)) h)
 clear hl
 go_enter Tryz.func178,Tryz.ntmps178
 go_wp2_with fail
 go_loopw [8] (fun i wr=>∃k:Nat,k≤l.length∧i=.int .i64 k∧Ext w wr∧Ex.mays (l.take k)=true) (fun i _=>l.length-(intOf i).toNat)
 case atStart=>exact⟨0,Nat.zero_le _,rfl,Below.refl _ _,rfl⟩
 case round =>
  obtain⟨k,hk,rfl,hx,hm⟩:=hrel
  have HM:=Lib.hid hm;clear hm
  by_cases hlt:k<l.length
  ·obtain⟨b,o,a',c',rfl,hb,g1,g2,g3,hi⟩:=(h.ext hx).look hlt
   have hlt':(k:Int)<l.length:=by omega
   have HE:=Lib.hid (HL.out wr k hlt P _ _ _ hi)
   have hst:Ex.mays (l.take (k+1))=(Ex.mays (l.take k)&&l[k].may):=by
    rw[Ex.mays_all,Ex.mays_all,List.take_succ_eq_append_getElem hlt,List.all_append];simp
   have HST:=Lib.hid hst;clear hst
   cases hm:l[k].may with
   |true =>
    rw[hm]at HE HST
    have HMK:=Lib.hid hm
    clear hm
    go_wp2_with (go_at_call 143;refine(HE.out).mono ?_;rintro e w1 ⟨rfl,hx1⟩)
    go_roundw
    case rel=>exact⟨k+1,by omega,by go_num,hx.trans hx1,by rw[HST.out,HM.out];rfl⟩
    case measure=>simp[intOf];omega
   |false =>
    rw[hm]at HE
    have HMK:=Lib.hid hm
    clear hm
    go_wp2_with (go_at_call 143;refine(HE.out).mono ?_;rintro e w1 ⟨rfl,hx1⟩)
    go_ret
    refine⟨⟨k,rfl,?_⟩,hx.trans hx1⟩
    have h1:Ex.mays l=false:=by
     rw[Ex.mays_all]
     cases h2:l.all Ex.may with
     |false=>rfl
     |true=>have:=List.all_eq_true.1 h2 l[k] (List.getElem_mem hlt);rw[HMK.out]at this;cases this
    rw[h1,decide_eq_true (by omega)];rfl
  ·have hlt':¬(k:Int)<l.length:=by omega
   go_wp2_with fail
   go_ret
   refine⟨⟨-1,rfl,?_⟩,hx⟩
   have:k=l.length:=by omega
   subst this
   have:=HM.out
   rw[List.take_length]at this
   rw[this];rfl
theorem zt6 {l:List Ex}(hl:∀x∈l,zvw x) (hn:l.length≤1073741824){P:Nat→Prop}{w:World}{a:Option Addr}{c:Nat}(h:IsExs P w a l) :
  Calls Tryz.prog 142 #[.slice a l.length c,.func (.func 143) #[] #[]] w fun e w'=>e=.returned (.bool (!(Ex.mays l)))∧Ext w w':=by
 have H:=Lib.hid (zpj hl hn (c:=c) h)
 clear h hl
 go_enter Tryz.func142,Tryz.ntmps142
 go_wp2_with (go_at_call 178;refine(H.out).mono ?_;rintro e w1 ⟨⟨k,rfl,hk⟩,hx1⟩;have HK:=Lib.hid hk;clear hk)
 go_ret
 exact⟨ze HK.out,hx1⟩
theorem zrq (t:Ex) (hsz:t.size≤4194304):zvw t:=by
 induction t using Ex.ind with
 |h v nm l ih =>
  intro P w x y z ht
  have hkl:=Ex.length_le_sizes l
  simp only[Ex.size]at hsz
  have ih':∀a∈l,zvw a:=fun a ha=>by
   obtain⟨i,hi,rfl⟩:=List.getElem_of_mem ha
   exact ih _ ha (by have:=Ex.size_le_sizes hi;omega)
  obtain⟨a,c,rfl,rfl,rfl,hn,hc1,hk⟩:=ht.form
  simp only[Ex.var,Ex.name,Ex.args]at hn hc1 hk ⊢
  have HU:=Lib.hid (fun w=>zpi nm hn w)
  have HN:=Lib.hid (fun w=>zdw nm hn w)
  have HA:=Lib.hid (fun w' (hx:Ext w w')=>zt6 ih' (show l.length≤1073741824 by omega) (c:=c) (IsExs.ext hk hx))
  clear ih ih' ht hk
  simp only[Ex.may]
  cases v with
  |true =>
   have hp:l.length=0∨0<l.length:=by omega
   rcases hp with hp|hp
   ·have q1:((l.length:Int)==0)=true:=by rw[beq_iff_eq];omega
    have HD:=Lib.hid (show decide (l.length=0)=true from decide_eq_true hp)
    clear hp
    go_enter Tryz.func101,Tryz.ntmps101
    go_wp2_with (go_at_call 100;refine(HU.out _).mono ?_;rintro e w1 ⟨rfl,rfl⟩)
    go_ret
    exact⟨ze (by have h0:=of_decide_eq_true HD.out;have h1:l=[]:=List.eq_nil_of_length_eq_zero h0;simp[h1]),zb _ _⟩
   ·have q1:((l.length:Int)==0)=false:=by rw[beq_eq_false_iff_ne];omega
    have HD:=Lib.hid (show decide (l.length=0)=false from decide_eq_false (by omega))
    clear hp
    go_enter Tryz.func101,Tryz.ntmps101
    go_wp2_with fail
    go_ret
    exact⟨ze (by have h0:=of_decide_eq_false HD.out;have h1:l≠[]:=fun h=>h0 (by rw[h];rfl);simp[h1]),zb _ _⟩
  |false =>
   cases hnm:named nm with
   |false =>
    rw[hnm]at HN
    clear hnm
    go_enter Tryz.func101,Tryz.ntmps101
    go_wp2_with (go_at_call 69;refine(HN.out _).mono ?_;rintro e w1 ⟨rfl,rfl⟩)
    go_ret
    exact⟨rfl,zb _ _⟩
   |true =>
    rw[hnm]at HN
    clear hnm
    go_enter Tryz.func101,Tryz.ntmps101
    go_wp2_with (first|(go_at_call 69;refine(HN.out _).mono ?_;rintro e w1 ⟨rfl,rfl⟩)|(go_at_call 142;refine(HA.out _ (zb _ _)).mono ?_;rintro e w2 ⟨rfl,hx2⟩))
    go_ret
    exact⟨ze (by simp),(zb _ _).trans hx2⟩
end Go.Proofs.YtnclgkdpafhogaaGreat
