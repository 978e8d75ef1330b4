/- The walk of the law TptpWrites; Great. Conditions: at most 1048576 entries, each with a formula of at most 1048576 parts; bytealg.MaxLen holds some integer.
The walk of the law TptpBack (printed by gen_lawt4.py). Conditions: at most 1048576 entries, each with a formula of at most 1048576 parts; a text of at most 1048576 bytes; bytealg.MaxLen holds some integer. -/
import Derived.Test.YtnclgkdpafhogaaGreatQe37
import Derived.Test.YtnclgkdpafhogaaGreatQe33
import Derived.Test.YtnclgkdpafhogaaGreatQe34
import Derived.Test.YtnclgkdpafhogaaGreatQe38
set_option maxHeartbeats 16000000
set_option maxRecDepth 100000
namespace Go.Proofs.YtnclgkdpafhogaaGreat
open Go.ChangeShapes Go.WideShapes Go.ChangeAt Go.RowKit
theorem zfv:∀ {l:List Ent}{x:Ent},x∈l→x.form.size≤zf5 l
 |a::l,x,h=>by
  unfold zf5
  rcases List.mem_cons.1 h with rfl|h
  ·omega
  ·have:=zfv h;omega
def zi0 (len:Nat):List Ent→Nat→Nat→Bool
 |[],_,n=>decide (300<len) || decide (20000<n)
 |x::r,i,n=>if i≤300∧n≤20000 then (if zo7 x.form then true else zi0 len r (i+1) (n+x.form.size))else decide (300<len) || decide (20000<n)
def znr (l:List Ent):Bool:=zi0 l.length l 0 0
theorem zns {l:List Ent}{k n:Nat}(h:k<l.length):zi0 l.length (l.drop k) k n=if k≤300∧n≤20000 then (if zo7 l[k].form then true else zi0 l.length (l.drop (k+1)) (k+1) (n+l[k].form.size))else decide (300<l.length) || decide (20000<n):=by
 rw[List.drop_eq_getElem_cons h];rfl
theorem zss {l:List Ent}{k n:Nat}(h:¬k<l.length):zi0 l.length (l.drop k) k n=(decide (300<l.length) || decide (20000<n)):=by
 rw[List.drop_eq_nil_of_le (by omega)];rfl
theorem z04 (a b:Nat):decide ((a:Int)<(b:Int))=decide (a<b):=by
 by_cases h:a<b
 ·rw[decide_eq_true h,decide_eq_true (by omega)]
 ·rw[decide_eq_false h,decide_eq_false (by omega)]
theorem zl8 {l:List Ent}(_hl:l.length≤1048576) (hs:∀x∈l,x.form.size≤1048576){P:Nat→Prop}{w:World}{a:Option Addr}{c:Nat}(h:IsEnts P w a l) :
  Calls Tryz.prog 35 #[.slice a l.length c] w fun e w'=>e=.returned (.bool (znr l))∧Ext w w':=by
 have HI:=Lib.hid h
 clear h
 go_enter Tryz.func35,Tryz.ntmps35
 go_wp2_with fail
 go_loopw [3,4] (fun n i wr=>∃k m:Nat,k≤l.length∧i=.int .i64 k∧n=.int .i64 m∧m≤20000+1048576∧znr l=zi0 l.length (l.drop k) k m∧Ext w wr) (fun _ i _=>l.length-(intOf i).toNat)
 case atStart=>exact⟨0,0,Nat.zero_le _,rfl,rfl,by omega,rfl,Below.refl _ _⟩
 case round =>
  obtain⟨k,m,hkk,rfl,hn,hm,hg,hxr⟩:=hrel
  generalize u3=n at hn ⊢
  subst hn
  have HG:=Lib.hid hg
  clear hg
  have hend:(decide (300<l.length) || decide (20000<m))=znr l→∃q1 q2:Bool,decide ((300:Int)<(l.length:Nat))=q1∧decide ((20000:Int)<(m:Nat))=q2∧(q1 || q2)=znr l:=fun h=>⟨_,_,rfl,rfl,by rw[←h,←z04,←z04];rfl⟩
  by_cases hkl:k<l.length
  ·have hkl':decide ((k:Int)<(l.length:Nat))=true:=decide_eq_true (by omega)
   have hkl2:(k:Int)<(l.length:Nat):=by omega
   by_cases hc:k≤300∧m≤20000
   ·have h3:decide ((k:Int)≤300)=true:=decide_eq_true (by omega)
    have h4:decide ((m:Int)≤20000)=true:=decide_eq_true (by omega)
    have h3':(k:Int)≤300:=by omega
    have h4':(m:Int)≤20000:=by omega
    have hm2:=hc.2
    replace HG:=Lib.hid (HG.out.trans ((zns hkl).trans (if_pos hc)))
    clear hc hend
    obtain⟨b,o,x0,x1,x2,x3,rfl,-,⟨m0,m1,m2⟩,⟨m3,m4,m5,m6⟩,hi⟩:=(HI.out.ext hxr).look hkl
    have hz:=hs _ (List.getElem_mem hkl)
    have HGR:=Lib.hid (fun w' (hx:Ext wr w')=>zvl l[k].form _ w' _ _ _ _ (hi.2.2.ext hx) (by omega))
    have HSZ:=Lib.hid (fun w' (hx:Ext wr w')=>ze5 l[k].form _ w' _ _ _ _ (hi.2.2.ext hx) (by omega))
    obtain⟨p1,c1,p2,c2,p3,c3,rfl,rfl,rfl,rfl,-⟩:=hi.2.2.form
    clear hi
    generalize l[k]=x at *
    cases hgb:zo7 x.form with
    |true =>
     rw[hgb]at HGR HG
     replace HG:=Lib.hid (HG.out.trans (if_pos rfl))
     clear hgb
     go_wp2_with (go_at_call 17;refine(HGR.out _ (Below.refl _ _)).mono ?_;rintro e w3 ⟨rfl,hx3⟩)
     go_ret
     exact⟨ze HG.out.symm,hxr.trans hx3⟩
    |false =>
     rw[hgb]at HGR HG
     replace HG:=Lib.hid (HG.out.trans (if_neg (by decide)))
     clear hgb
     go_wp2_with (first
      |(go_at_call 25;refine(HSZ.out _ hx3).mono ?_;rintro e w4 ⟨rfl,hx4⟩)
      |(go_at_call 17;refine(HGR.out _ (Below.refl _ _)).mono ?_;rintro e w3 ⟨rfl,hx3⟩;replace m3:=hx3.cell m3;replace m4:=hx3.cell m4;replace m5:=hx3.cell m5;replace m6:=hx3.cell m6;have lm:=zf m3))
     go_roundw
     case rel=>exact⟨k+1,m+x.form.size,by omega,by go_num,by go_num,by omega,HG.out,(hxr.trans hx3).trans hx4⟩
     case measure=>simp[intOf];omega
   ·obtain⟨q1,q2,hq1,hq2,hq⟩:=hend ((HG.out.trans ((zns hkl).trans (if_neg hc))).symm)
    have HQ:=Lib.hid hq
    have hc3:(decide ((k:Int)≤300)=false∧¬(k:Int)≤300)∨((decide ((k:Int)≤300)=true∧(k:Int)≤300)∧decide ((m:Int)≤20000)=false∧¬(m:Int)≤20000):=by
     by_cases h1:k≤300
     ·exact .inr ⟨⟨decide_eq_true (by omega),by omega⟩,decide_eq_false (by omega),by omega⟩
     ·exact .inl ⟨decide_eq_false (by omega),by omega⟩
    clear hend hc hq
    rcases hc3 with ⟨h3,h3'⟩|⟨⟨h3,h3'⟩,h4,h4'⟩
    all_goals
     cases q1<;>cases q2
     all_goals
      go_wp2_with fail
      go_ret
      exact⟨ze HQ.out,hxr⟩
  ·have hkl':decide ((k:Int)<(l.length:Nat))=false:=decide_eq_false (by omega)
   have hkl2:¬(k:Int)<(l.length:Nat):=by omega
   obtain⟨q1,q2,hq1,hq2,hq⟩:=hend ((HG.out.trans (zss hkl)).symm)
   have HQ:=Lib.hid hq
   clear hend hq
   cases q1<;>cases q2
   all_goals
    go_wp2_with fail
    go_ret
    exact⟨ze HQ.out,hxr⟩
theorem zmq {l:List Ent}(hl:l.length≤1048576) (hs:∀x∈l,x.form.size≤1048576){P:Nat→Prop}{w:World}{a:Option Addr}{c:Nat}(h:IsEnts P w a l) (m:Int) (hm:w.cell? ⟨0,0,none⟩=some (.int .i64 m)) :
  Calls Tryz.prog 9 #[.slice a l.length c] w fun e w'=>e=.returned (.bool true)∧Ext w w':=by
 have HW:=Lib.hid (fun w' (hx:Ext w w')=>zl6 w' m (hx.cell hm))
 have HG:=Lib.hid (zl8 hl hs h (c:=c))
 have H1:=Lib.hid (fun w' (hx:Ext w w')=>zib hl hs (h.ext hx) (c:=c))
 have H2:=Lib.hid (fun w' (hx:Ext w w')=>zqu hl hs (h.ext hx) (c:=c))
 clear h hm
 cases hb:znr l with
 |true =>
  rw[hb]at HG
  clear hb H1 H2
  go_enter Tryz.func9,Tryz.ntmps9
  go_wp2_with (first
   |(go_at_call 35;refine(HG.out).mono ?_;rintro e w1 ⟨rfl,hx1⟩)
   |(go_at_call 27;refine(HW.out _ hx1).mono ?_;rintro e w6 ⟨rfl,hx6⟩))
  go_ret
  exact⟨rfl,hx1.trans hx6⟩
 |false =>
  rw[hb]at HG
  clear hb
  generalize zcd l=tp at *
  go_enter Tryz.func9,Tryz.ntmps9
  go_wp2_with (first
   |(go_at_call 27;refine(HW.out _ ((hx1.trans hx2).trans hx3)).mono ?_;rintro e w6 ⟨rfl,hx6⟩)
   |(go_at_call 37;refine(H2.out _ (hx1.trans hx2)).mono ?_;rintro e w3 ⟨rfl,hx3⟩)
   |(go_at_call 36;refine(H1.out _ hx1).mono ?_;rintro e w2 ⟨rfl,hx2⟩)
   |(go_at_call 35;refine(HG.out).mono ?_;rintro e w1 ⟨rfl,hx1⟩))
  go_ret
  exact⟨rfl,((hx1.trans hx2).trans hx3).trans hx6⟩
theorem zi1 (l:List Ent):(zcd l).1.size≤8000:=by
 unfold zcd
 split
 ·exact Nat.zero_le _
 ·cases zaq l with
  |some e=>exact Nat.zero_le _
  |none =>
   simp only
   split
   ·exact Nat.zero_le _
   ·rename_i h
    show(zb0 l).toArray.size≤8000
    simp only[List.size_toArray];omega
theorem ztv {s:ByteArray}{t:Flt}(h:zcw [] s=.flt t):t.e≠0:=by
 rcases zz5 s with ⟨l,h1,-⟩|⟨t',h1,h2⟩
 ·rw[h]at h1;cases h1
 ·rw[h]at h1
  injection h1 with h1
  subst h1
  rcases h2 with h2|h2
  ·rw[h2];decide
  ·exact h2.1.2
theorem zqy {l:List Ent}(hl:l.length≤1048576) (hs:∀x∈l,x.form.size≤1048576) (s:ByteArray) (hss:s.size≤1048576){P:Nat→Prop}{w:World}{a:Option Addr}{c:Nat}(h:IsEnts P w a l) (m:Int) (hm:w.cell? ⟨0,0,none⟩=some (.int .i64 m)) :
  Calls Tryz.prog 10 #[.slice a l.length c,.string s] w fun e w'=>e=.returned (.bool true)∧Ext w w':=by
 have HW:=Lib.hid (fun w' (hx:Ext w w')=>zl6 w' m (hx.cell hm))
 have HG:=Lib.hid (zl8 hl hs h (c:=c))
 have T1:=Lib.hid (fun w' (hx:Ext w w')=>zib hl hs (h.ext hx) (c:=c))
 have HR:=Lib.hid (fun (x:ByteArray) (hx8:x.size≤1048576) (S:World) (hS:Ext w S)=>(zfu (files:=[]) (by decide) (by simp) x hx8 (P:=fun _=>True) (w:=S) (fa:=none) trivial (fc:=0) (by decide) (hS.cell hm):Calls Tryz.prog 28 #[.string x,.slice none 0 0] S (zj1 (zcw [] x) S)))
 simp only[List.length_nil]at HR
 have RS:=Lib.hid (HR.out s hss)
 have R1:=Lib.hid (HR.out (zcd l).1 (by have:=zi1 l;omega))
 have S1:=Lib.hid (fun (S:World) (hS:Ext w S) (Q:Nat→Prop) (b:Option Addr) (d:Nat) (hb:IsEnts Q S b l)=>ziz hl (fun x hx=>by have:=hs x hx;omega) (h.ext hS) hb (c:=c) (d:=d))
 have hbk:=z1o (l:=l)
 unfold zj1 at RS R1
 clear h hm
 cases hb:znr l with
 |true =>
  rw[hb]at HG
  clear hb T1 RS R1 S1 hbk HR
  go_enter Tryz.func10,Tryz.ntmps10
  go_wp2_with (first
   |(go_at_call 27;refine(HW.out _ hx1).mono ?_;rintro e w9 ⟨rfl,hx9⟩)
   |(go_at_call 35;refine(HG.out).mono ?_;rintro e w1 ⟨rfl,hx1⟩))
  go_ret
  exact⟨rfl,hx1.trans hx9⟩
 |false =>
 rw[hb]at HG
 clear hb
 have hways:(∃er,zcd l=((zcd l).1,er)∧(er==0)=false)∨((zcd l).2=0):=by
  by_cases h0:(zcd l).2=0
  ·exact .inr h0
  ·exact .inl ⟨(zcd l).2,rfl,by rw[beq_eq_false_iff_ne];exact h0⟩
 rcases hways with ⟨er,he,hq⟩|h0
 ·rw[he]at T1
  clear R1 S1 hbk he
  generalize (zcd l).1=tl at T1
  cases hr:zcw [] s with
  |flt t =>
   have hne:(t.e != 0)=true:=by rw[bne_iff_ne];exact ztv hr
   rw[hr]at RS
   clear hr HR
   go_enter Tryz.func10,Tryz.ntmps10
   go_wp2_with (first
    |(go_at_call 27;refine(HW.out _ hx5).mono ?_;rintro e w9 ⟨rfl,hx9⟩)
    |(go_at_call 28;with_reducible refine(RS.out _ hx2).mono ?_;rintro e w5 ⟨rfl,hx5'⟩;have hx5:=(hx2.trans hx5').alloc (.cells #[.int .i64 t.file,.int .i64 t.at'] 47))
    |(go_at_call 36;with_reducible refine(T1.out _ hx1).mono ?_;rintro e w2 ⟨rfl,hx2'⟩;have hx2:=hx1.trans hx2')
    |(go_at_call 35;refine(HG.out).mono ?_;rintro e w1 ⟨rfl,hx1⟩))
   go_ret
   exact⟨rfl,hx5.trans hx9⟩
  |ok m =>
   obtain⟨k1,k2⟩:=zgz hr
   have hbk2:=z19 hr
   have T2:=Lib.hid (fun (Q:Nat→Prop) (S:World) (b:Option Addr) (d:Nat) (hb:IsEnts Q S b m)=>zib (by omega) (fun x hx=>by have:=k1 x hx;omega) hb (c:=d))
   have R2:=Lib.hid (HR.out (zcd m).1 (by have:=zi1 m;omega))
   have S2:=Lib.hid (fun (S:World) (Q Q':Nat→Prop) (b b':Option Addr) (d d':Nat) (hb:IsEnts Q S b m) (hb':IsEnts Q' S b' m)=>ziz (l:=m) (by omega) (fun x hx=>by have:=k1 x hx;omega) hb hb' (c:=d) (d:=d'))
   have hb1:=z1o (l:=m)
   rw[hr]at RS
   unfold zj1 at R2
   clear hr HR k1
   rcases hbk2 with h3|h0
   ·clear R2 S2 hb1
    rw[h3]at T2
    generalize (zcd m).1=tm at T2
    clear h3
    go_enter Tryz.func10,Tryz.ntmps10
    go_wp2_with (first
     |(go_at_call 27;refine(HW.out _ hx6).mono ?_;rintro e w9 ⟨rfl,hx9⟩)
     |(go_at_call 36;with_reducible refine(T2.out _ _ _ _ he5').mono ?_;rintro e w6 ⟨rfl,hx6'⟩;have hx6:=hx5.trans hx6';have he6:=he5'.ext hx6')
     |(go_at_call 28;with_reducible refine(RS.out _ hx2).mono ?_;rintro e w5 ⟨⟨a5,c5,rfl,hc5,he5⟩,hx5'⟩;have hx5:=(hx2.trans hx5').alloc (.cells #[.int .i64 0,.int .i64 0] 47);have he5':=he5.ext (zb w5 (.cells #[.int .i64 0,.int .i64 0] 47)))
     |(go_at_call 36;with_reducible refine(T1.out _ hx1).mono ?_;rintro e w2 ⟨rfl,hx2'⟩;have hx2:=hx1.trans hx2')
     |(go_at_call 35;refine(HG.out).mono ?_;rintro e w1 ⟨rfl,hx1⟩))
    go_ret
    exact⟨rfl,hx6.trans hx9⟩
   ·rw[hb1 h0]at R2
    rw[h0]at T2
    generalize (zcd m).1=tm at T2 R2
    clear h0 hb1
    go_enter Tryz.func10,Tryz.ntmps10
    go_wp2_with (first
     |(go_at_call 27;refine(HW.out _ hx8).mono ?_;rintro e w9 ⟨rfl,hx9⟩)
     |(go_at_call 30;with_reducible refine(S2.out _ _ _ _ _ _ _ he7m he7').mono ?_;rintro e w8 ⟨rfl,hx8'⟩;have hx8:=hx7.trans hx8')
     |(go_at_call 28;with_reducible refine(R2.out _ hx6).mono ?_;rintro e w7 ⟨⟨a7,c7,rfl,hc7,he7⟩,hx7'⟩;have hx7:=(hx6.trans hx7').alloc (.cells #[.int .i64 0,.int .i64 0] 47);have he7':=he7.ext (zb w7 (.cells #[.int .i64 0,.int .i64 0] 47));have he7m:=he6.ext (hx7'.trans (zb w7 (.cells #[.int .i64 0,.int .i64 0] 47))))
     |(go_at_call 36;with_reducible refine(T2.out _ _ _ _ he5').mono ?_;rintro e w6 ⟨rfl,hx6'⟩;have hx6:=hx5.trans hx6';have he6:=he5'.ext hx6')
     |(go_at_call 28;with_reducible refine(RS.out _ hx2).mono ?_;rintro e w5 ⟨⟨a5,c5,rfl,hc5,he5⟩,hx5'⟩;have hx5:=(hx2.trans hx5').alloc (.cells #[.int .i64 0,.int .i64 0] 47);have he5':=he5.ext (zb w5 (.cells #[.int .i64 0,.int .i64 0] 47)))
     |(go_at_call 36;with_reducible refine(T1.out _ hx1).mono ?_;rintro e w2 ⟨rfl,hx2'⟩;have hx2:=hx1.trans hx2')
     |(go_at_call 35;refine(HG.out).mono ?_;rintro e w1 ⟨rfl,hx1⟩))
    go_ret
    exact⟨rfl,hx8.trans hx9⟩
 ·rw[hbk h0]at R1
  rw[h0]at T1
  generalize (zcd l).1=tl at T1 R1
  clear h0 hbk
  cases hr:zcw [] s with
  |flt t =>
   have hne:(t.e != 0)=true:=by rw[bne_iff_ne];exact ztv hr
   rw[hr]at RS
   clear hr HR
   go_enter Tryz.func10,Tryz.ntmps10
   go_wp2_with (first
    |(go_at_call 27;refine(HW.out _ hx5).mono ?_;rintro e w9 ⟨rfl,hx9⟩)
    |(go_at_call 28;with_reducible refine(RS.out _ hxA).mono ?_;rintro e w5 ⟨rfl,hx5'⟩;have hx5:=(hxA.trans hx5').alloc (.cells #[.int .i64 t.file,.int .i64 t.at'] 47))
    |(go_at_call 30;with_reducible refine(S1.out _ hx3 _ _ _ he3').mono ?_;rintro e w4 ⟨rfl,hx4'⟩;have hxA:=hx3.trans hx4')
    |(go_at_call 28;with_reducible refine(R1.out _ hx2).mono ?_;rintro e w3 ⟨⟨a3,c3,rfl,hc3,he3⟩,hx3'⟩;have hx3:=(hx2.trans hx3').alloc (.cells #[.int .i64 0,.int .i64 0] 47);have he3':=he3.ext (zb w3 (.cells #[.int .i64 0,.int .i64 0] 47)))
    |(go_at_call 36;with_reducible refine(T1.out _ hx1).mono ?_;rintro e w2 ⟨rfl,hx2'⟩;have hx2:=hx1.trans hx2')
    |(go_at_call 35;refine(HG.out).mono ?_;rintro e w1 ⟨rfl,hx1⟩))
   go_ret
   exact⟨rfl,hx5.trans hx9⟩
  |ok m =>
   obtain⟨k1,k2⟩:=zgz hr
   have hbk2:=z19 hr
   have T2:=Lib.hid (fun (Q:Nat→Prop) (S:World) (b:Option Addr) (d:Nat) (hb:IsEnts Q S b m)=>zib (by omega) (fun x hx=>by have:=k1 x hx;omega) hb (c:=d))
   have R2:=Lib.hid (HR.out (zcd m).1 (by have:=zi1 m;omega))
   have S2:=Lib.hid (fun (S:World) (Q Q':Nat→Prop) (b b':Option Addr) (d d':Nat) (hb:IsEnts Q S b m) (hb':IsEnts Q' S b' m)=>ziz (l:=m) (by omega) (fun x hx=>by have:=k1 x hx;omega) hb hb' (c:=d) (d:=d'))
   have hb1:=z1o (l:=m)
   rw[hr]at RS
   unfold zj1 at R2
   clear hr HR k1
   rcases hbk2 with h3|h0
   ·clear R2 S2 hb1
    rw[h3]at T2
    generalize (zcd m).1=tm at T2
    clear h3
    go_enter Tryz.func10,Tryz.ntmps10
    go_wp2_with (first
     |(go_at_call 27;refine(HW.out _ hx6).mono ?_;rintro e w9 ⟨rfl,hx9⟩)
     |(go_at_call 36;with_reducible refine(T2.out _ _ _ _ he5').mono ?_;rintro e w6 ⟨rfl,hx6'⟩;have hx6:=hx5.trans hx6';have he6:=he5'.ext hx6')
     |(go_at_call 28;with_reducible refine(RS.out _ hxA).mono ?_;rintro e w5 ⟨⟨a5,c5,rfl,hc5,he5⟩,hx5'⟩;have hx5:=(hxA.trans hx5').alloc (.cells #[.int .i64 0,.int .i64 0] 47);have he5':=he5.ext (zb w5 (.cells #[.int .i64 0,.int .i64 0] 47)))
     |(go_at_call 30;with_reducible refine(S1.out _ hx3 _ _ _ he3').mono ?_;rintro e w4 ⟨rfl,hx4'⟩;have hxA:=hx3.trans hx4')
     |(go_at_call 28;with_reducible refine(R1.out _ hx2).mono ?_;rintro e w3 ⟨⟨a3,c3,rfl,hc3,he3⟩,hx3'⟩;have hx3:=(hx2.trans hx3').alloc (.cells #[.int .i64 0,.int .i64 0] 47);have he3':=he3.ext (zb w3 (.cells #[.int .i64 0,.int .i64 0] 47)))
     |(go_at_call 36;with_reducible refine(T1.out _ hx1).mono ?_;rintro e w2 ⟨rfl,hx2'⟩;have hx2:=hx1.trans hx2')
     |(go_at_call 35;refine(HG.out).mono ?_;rintro e w1 ⟨rfl,hx1⟩))
    go_ret
    exact⟨rfl,hx6.trans hx9⟩
   ·rw[hb1 h0]at R2
    rw[h0]at T2
    generalize (zcd m).1=tm at T2 R2
    clear h0 hb1
    go_enter Tryz.func10,Tryz.ntmps10
    go_wp2_with (first
     |(go_at_call 27;refine(HW.out _ hx8).mono ?_;rintro e w9 ⟨rfl,hx9⟩)
     |(go_at_call 30;with_reducible refine(S2.out _ _ _ _ _ _ _ he7m he7').mono ?_;rintro e w8 ⟨rfl,hx8'⟩;have hx8:=hx7.trans hx8')
     |(go_at_call 28;with_reducible refine(R2.out _ hx6).mono ?_;rintro e w7 ⟨⟨a7,c7,rfl,hc7,he7⟩,hx7'⟩;have hx7:=(hx6.trans hx7').alloc (.cells #[.int .i64 0,.int .i64 0] 47);have he7':=he7.ext (zb w7 (.cells #[.int .i64 0,.int .i64 0] 47));have he7m:=he6.ext (hx7'.trans (zb w7 (.cells #[.int .i64 0,.int .i64 0] 47))))
     |(go_at_call 36;with_reducible refine(T2.out _ _ _ _ he5').mono ?_;rintro e w6 ⟨rfl,hx6'⟩;have hx6:=hx5.trans hx6';have he6:=he5'.ext hx6')
     |(go_at_call 28;with_reducible refine(RS.out _ hxA).mono ?_;rintro e w5 ⟨⟨a5,c5,rfl,hc5,he5⟩,hx5'⟩;have hx5:=(hxA.trans hx5').alloc (.cells #[.int .i64 0,.int .i64 0] 47);have he5':=he5.ext (zb w5 (.cells #[.int .i64 0,.int .i64 0] 47)))
     |(go_at_call 30;with_reducible refine(S1.out _ hx3 _ _ _ he3').mono ?_;rintro e w4 ⟨rfl,hx4'⟩;have hxA:=hx3.trans hx4')
     |(go_at_call 28;with_reducible refine(R1.out _ hx2).mono ?_;rintro e w3 ⟨⟨a3,c3,rfl,hc3,he3⟩,hx3'⟩;have hx3:=(hx2.trans hx3').alloc (.cells #[.int .i64 0,.int .i64 0] 47);have he3':=he3.ext (zb w3 (.cells #[.int .i64 0,.int .i64 0] 47)))
     |(go_at_call 36;with_reducible refine(T1.out _ hx1).mono ?_;rintro e w2 ⟨rfl,hx2'⟩;have hx2:=hx1.trans hx2')
     |(go_at_call 35;refine(HG.out).mono ?_;rintro e w1 ⟨rfl,hx1⟩))
    go_ret
    exact⟨rfl,hx8.trans hx9⟩
end Go.Proofs.YtnclgkdpafhogaaGreat
