/- Rows of texts: a whole row appended to a row of the call's own. Condition: at most 8388608 texts.
The reference's Free. Condition: at most 4194304 parts.
Plain: an entry, way by way. No condition.
The program's reader of things: place, stop, name. Condition: a row of at most 2^30 tokens, not empty.
Rows of the call's own: an element put anew, the row cut off. No condition.
How long a formula's text is; the reference's unitText, joined, from what text does. Conditions: formulas that may be, of at most 4194304 parts.
The reference's text, from what it does on the parts. Conditions: formulas that may be, of at most 4194304 parts. -/
import Derived.Test.YtnclgkdpafhogaaGreatQe11
import Derived.Test.YtnclgkdpafhogaaGreatQe19
import Derived.Laws.OwnMore
import Derived.Deep.AppendLies
import Derived.Test.YtnclgkdpafhogaaGreatQe0
import Derived.Test.YtnclgkdpafhogaaGreatQe7
import Derived.Test.YtnclgkdpafhogaaGreatQe10
import Derived.Lib.SliceRun
import Derived.Test.YtnclgkdpafhogaaGreatQe15
import Derived.Test.YtnclgkdpafhogaaGreatQe8
import Derived.Deep.RegionHeld3
set_option maxHeartbeats 16000000
set_option maxRecDepth 100000
namespace Go.Proofs.YtnclgkdpafhogaaGreat
open Go.ChangeShapes Go.WideShapes Go.ChangeAt Go.RowKit
theorem zs9:(Tryz.prog.info? 9).map (fun i=>(i.zero,i.size,i.bytes))=some (some (.string ⟨#[]⟩),1,16):=by kernel_rfl
theorem zue {P:Nat→Prop}{w:World}:∀ {l:List ByteArray}{b o:Nat},IsStrs P w (some ⟨b,o,none⟩) l→(∀j u,(l.map Value.string)[j]?=some u→w.cell? ⟨b,o+j,none⟩=some u)∧∀s∈l,s.size≤1073741824
 |l,b,o,h=>by
  refine⟨fun j u hj=>?_,fun s hs=>?_⟩
  ·obtain⟨hj1,hj2⟩:=List.getElem?_eq_some_iff.1 hj
   rw[List.length_map]at hj1
   obtain⟨b',o',he,-,hc,-⟩:=h.look hj1
   injection he with he;injection he with e1 e2 _
   subst e1;subst e2;subst hj2
   rw[List.getElem_map];exact hc
  ·obtain⟨i,hi,rfl⟩:=List.getElem_of_mem hs
   obtain⟨_,_,-,-,-,hz⟩:=h.look hi
   exact hz
theorem zta {P:Nat→Prop}{w:World}:∀ {l:List ByteArray}{cs:List (List Value)},cs.length=l.length→(∀j (h:j<l.length) (h':j<cs.length),(z6 1).is P w cs[j] [Dat.str l[j]])→cs.flatten=l.map Value.string∧∀s∈l,s.size≤1073741824
 |[],cs,hl,_=>by
  have:cs=[]:=List.eq_nil_of_length_eq_zero hl
  subst this;simp
 |s::l,cs,hl,h=>by
  cases cs with
  |nil=>simp at hl
  |cons c cs =>
   obtain⟨h1,h2⟩:=zta (l:=l) (cs:=cs) (by simpa using hl) (fun j hj hj'=>by have:=h (j+1) (by simpa using hj) (by simpa using hj');simpa using this)
   obtain⟨h3,h4⟩:=h 0 (by simp) (by simp)
   simp only[List.getElem_cons_zero]at h3 h4
   match c,h3,h4 with
   |[v],_,h4 =>
    obtain⟨⟨h5,h6⟩,-⟩:=h4
    subst h5
    refine⟨by rw[List.flatten_cons,h1];rfl,fun x hx=>?_⟩
    rcases List.mem_cons.1 hx with rfl|hx
    ·exact h6
    ·exact h2 x hx
theorem StrRow.own {B:Nat}{w:World}{v:Value}{l:List ByteArray}(h:StrRow B w v l):w.ownsRow B 9 1 v l.length (l.map Value.string)∧∀s∈l,s.size≤1073741824:=by
 obtain⟨cs,h1,h2,h3⟩:=h
 rw[List.length_map]at h1 h2
 obtain⟨h4,h5⟩:=zta (l:=l) (cs:=cs) h1 (fun j hj hj'=>by have:=h3 j (by simpa using hj) hj';simpa using this)
 rw[h4]at h2
 exact⟨h2,h5⟩
theorem zp0:∀l:List ByteArray,(l.map fun s=>[Value.string s]).flatten=l.map Value.string
 |[]=>rfl
 |s::l=>by rw[List.map_cons,List.flatten_cons,zp0 l];rfl
theorem StrRow.of {B:Nat}{w:World}{v:Value}{l:List ByteArray}(h:w.ownsRow B 9 1 v l.length (l.map Value.string)) (hs:∀s∈l,s.size≤1073741824):StrRow B w v l:=by
 refine⟨l.map fun s=>[.string s],by simp,?_,fun j hj hj'=>?_⟩
 ·rw[zp0,List.length_map];exact h
 ·have hj1:j<l.length:=by simpa using hj
  simp only[List.getElem_map]
  exact⟨rfl,⟨rfl,hs _ (List.getElem_mem hj1)⟩,trivial⟩
theorem StrRow.nil {B:Nat}{w:World}:StrRow B w (.slice none 0 0) []:=GRow.nil
theorem StrRow.own_ge {B:Nat}{w:World}{v:Value}{l:List ByteArray}(h:StrRow B w v l){g:Nat}(hg:v.ownBlock=some g):B≤g∧g<w.heap.size:=GRow.own_ge h hg
theorem zv8 (w:World) (n:ByteArray) (hn:n.size≤1073741824):IsStrs (fun _=>True) (w.alloc (.cells #[.string n] 9)) (some ⟨w.heap.size,0,none⟩) [n]:=by
 refine⟨w.heap.size,0,[.string n],rfl,trivial,by simp,fun i u hi=>?_,⟨⟨rfl,hn⟩,trivial⟩,trivial⟩
 have hb:=heap_alloc_new w (.cells #[.string n] 9)
 unfold World.cell?
 rw[hb]
 simpa using hi
theorem zk4 {B:Nat}{w:World}{v:Value}{l xs:List ByteArray}(hrow:StrRow B w v l){P:Nat→Prop}{b:Option Addr}{c:Nat}(h:IsStrs P w b xs) (hlen:l.length+xs.length≤8388608) (hbase:B≤w.heap.size) (ty:TypeId) :
  ∃v' w',(Builtin.append_ #[25,25] ty #[v,.slice b xs.length c]).run Tryz.prog w=.ok v' w'∧StrRow B w' v' (l++xs)∧RFr w v w' v':=by
 obtain⟨i0,hi0,hz0,hz1,hz2⟩:=info_parts zs9
 obtain⟨ho,hs⟩:=hrow.own
 cases b with
 |none =>
  have hx:xs=[]:=by
   cases xs with
   |nil=>rfl
   |cons s xs=>obtain⟨_,_,he,-⟩:=h.look (i:=0) (by simp);cases he
  subst hx
  refine⟨v,w,?_,by rw[List.append_nil];exact hrow,RFr.refl _ _⟩
  rcases ho.2 with ⟨rfl,h0⟩|⟨g,cap,cur,rfl,_,_,hnc,_⟩
  ·simp[Builtin.append_,run_underlying Tryz.underlying25,sizeOf,typeInfo,hi0,Builtin.lenOf,Builtin.firstCells]
  ·simp[Builtin.append_,run_underlying Tryz.underlying25,sizeOf,typeInfo,hi0,Builtin.lenOf,Builtin.firstCells,hnc,storeCells]
 |some a =>
  have hnews:(∀j u,(xs.map Value.string)[j]?=some u→w.cell? (a.add j)=some u)∧∀s∈xs,s.size≤1073741824:=by
   cases xs with
   |nil=>exact⟨fun j u hj=>by simp at hj,fun s hs=>by cases hs⟩
   |cons s xs =>
    obtain⟨b',o',he,-⟩:=h.look (i:=0) (by simp)
    injection he with he
    subst he
    obtain⟨h1,h2⟩:=zue h
    exact⟨fun j u hj=>by rw[add_plain];exact h1 j u hj,h2⟩
  obtain⟨v',w',hr,h1,h2,-,h4⟩:=run_append_own_at w B 25 ty 9 i0 _ 1 16 Tryz.underlying25 hi0 hz0 hz1 hz2 rfl (by decide) v l.length (l.map Value.string) ho a xs.length c (xs.map Value.string) (by simp) hnews.1
   (by intro u hu;obtain⟨s,-,rfl⟩:=List.mem_map.1 hu;rfl) (by simp only[maxLen];omega) (by omega) hbase
  refine⟨v',w',hr,StrRow.of (by rw[List.map_append,List.length_append];exact h1) (fun s hm=>by rcases List.mem_append.1 hm with hm|hm;exact hs s hm;exact hnews.2 s hm),⟨Chg.of_grown h2 (fun g hg=>.inl (by simp[hg])),?_⟩⟩
  rcases h4 with h4|h4
  ·exact .inl h4
  ·refine .inr fun g hg=>?_
   rw[h4]at hg
   injection hg with hg
   omega
theorem zgg {o:Oper}{a:Act}{w:World}{K:Act→World→Prop}{Q:Exit→Act→World→Prop}(s x:Operand)
  (ho:o.op=.call { callee:=.builtin .append,args:=#[s,x],argTypes:=#[25,25] }){B:Nat}{v:Value}{l xs:List ByteArray}(hs:a.eval s=v) (hrow:StrRow B w v l){P:Nat→Prop}{b:Option Addr}{c:Nat}(hx:a.eval x=.slice b xs.length c) (h:IsStrs P w b xs)
  (hlen:l.length+xs.length≤8388608) (hbase:B≤w.heap.size) (hK:∀v' w',StrRow B w' v' (l++xs)→RFr w v w' v'→K (a.put o.dst v') w'):o.wp Tryz.prog a w K Q:=by
 obtain⟨v',w',hr,h2,h3⟩:=zk4 hrow h hlen hbase o.type (c:=c)
 unfold Oper.wp execOp
 simp only[ho,resolve,invoke,builtin,Sem.run_bind,Sem.run_pure,Result.andThen_ok,List.map_toArray,List.map_cons,List.map_nil,hs,hx,hr]
 exact hK v' w' h2 h3
theorem zhm {ops:Array Oper}{rest:List Oper}{o:Oper}{a:Act}{w:World}{Q:Exit→Act→World→Prop}(hgd:o.guard=none) (s x:Operand)
  (ho:o.op=.call { callee:=.builtin .append,args:=#[s,x],argTypes:=#[25,25] }){B:Nat}{v:Value}{l xs:List ByteArray}(hs:a.eval s=v) (hrow:StrRow B w v l){P:Nat→Prop}{b:Option Addr}{c:Nat}(hx:a.eval x=.slice b xs.length c) (h:IsStrs P w b xs)
  (hlen:l.length+xs.length≤8388608) (hbase:B≤w.heap.size) (hK:∀v' w',StrRow B w' v' (l++xs)→RFr w v w' v'→wpList Tryz.prog ops Q rest (a.put o.dst v') w'):wpList Tryz.prog ops Q (o::rest) a w :=
 wpList_plain hgd fun _ hK'=>zgg s x ho hs hrow hx h hlen hbase fun v' w' h1 h2=>hK' _ _ (hK v' w' h1 h2)
theorem zdi {ops:Array Oper}{o:Oper}{a:Act}{w:World}{K:Act→World→Prop}{Q:Exit→Act→World→Prop}{F:Prop}(hgd:o.guard=none) (s x:Operand)
  (ho:o.op=.call { callee:=.builtin .append,args:=#[s,x],argTypes:=#[25,25] }){B:Nat}{v:Value}{l xs:List ByteArray}(hs:a.eval s=v) (hrow:StrRow B w v l){P:Nat→Prop}{b:Option Addr}{c:Nat}(hx:a.eval x=.slice b xs.length c) (h:IsStrs P w b xs)
  (hlen:l.length+xs.length≤8388608) (hbase:B≤w.heap.size) (hK:∀v' w',StrRow B w' v' (l++xs)→RFr w v w' v'→K (a.put o.dst v') w'):if Region.wanted o (yielded ops a.tmps)=true then Oper.wp Tryz.prog o a w K Q else F:=by
 have hw:Region.wanted o (yielded ops a.tmps)=true:=by simp[Region.wanted,hgd]
 rw[if_pos hw]
 exact zgg s x ho hs hrow hx h hlen hbase hK
def Ab':Nat→Prop:=fun _=>True
theorem zv9 (a b:ByteArray):(a.toList==b.toList)=decide (a=b):=by
 by_cases h:a=b
 ·subst h;simp
 ·rw[decide_eq_false h,beq_eq_false_iff_ne]
  intro he;apply h;apply ByteArray.ext;apply Array.toList_inj.1
  rw[Go.ByteArray.toList_eq,Go.ByteArray.toList_eq]at he;exact he
theorem zp1 {l:List ByteArray}(hn:l.length≤1073741824){P:Nat→Prop}{w:World}{a:Option Addr}{c:Nat}(h:IsStrs P w a l) (s:ByteArray) :
  Calls Tryz.prog 194 #[.slice a l.length c,.string s] w fun e w'=>e=.returned (.bool (inB l s))∧w=w':=by
 go_enter Tryz.func194,Tryz.ntmps194
 go_wp2_with fail
 go_loopw [5] (fun iv wr=>∃k:Nat,k≤l.length∧iv=.int .i64 k∧wr=w∧inB (l.take k) s=false) (fun i _=>l.length-(intOf i).toNat)
 case atStart=>exact⟨0,Nat.zero_le _,rfl,rfl,rfl⟩
 case round =>
  obtain⟨k,hkk,rfl,hwr,hm⟩:=hrel
  have HM:=Lib.hid hm
  subst hwr
  clear hm
  by_cases hlt:k<l.length
  ·have hk1:(k:Int)<l.length:=by omega
   obtain⟨b,o,rfl,-,g1,-⟩:=h.look hlt
   have HST:=Lib.hid (zyt hlt s)
   have hq:=zv9 l[k] s
   by_cases he:l[k]=s
   ·rw[decide_eq_true he]at hq HST
    have HR:=Lib.hid (show inB l s=true by unfold inB;rw[List.any_eq_true];exact⟨_,List.getElem_mem hlt,decide_eq_true he⟩)
    clear he
    go_wp2_with fail
    go_ret
    refine⟨?_,rfl⟩
    rw[HR.out];rfl
   ·rw[decide_eq_false he]at hq HST
    clear he
    go_wp2_with fail
    go_roundw
    case rel=>exact⟨k+1,by omega,by go_num,by first|rfl|trivial,by rw[HST.out,HM.out];rfl⟩
    case measure=>simp[intOf];omega
  ·have hk1:¬(k:Int)<l.length:=by omega
   have hke:k=l.length:=by omega
   have HR:=Lib.hid (show inB l s=false by have h1:=HM.out;rw[hke,List.take_length]at h1;exact h1)
   clear hke
   go_wp2_with fail
   go_ret
   refine⟨?_,rfl⟩
   rw[HR.out];rfl
def ztb (B:Nat) (w:World) (v:Value) (l:List ByteArray) (e:Ending) (w':World):Prop:=∃v',e=.returned v'∧StrRow B w' v' l∧RFr w v w' v'
theorem zoc (t:Ex):∀(P Q:Nat→Prop) (w:World) (x y z:Value) (bd:List ByteArray) (ba:Option Addr) (bc B:Nat) (v:Value) (out:List ByteArray),IsEx P w x y z t→t.size≤4194304→IsStrs Q w ba bd→bd.length≤8388608 →
  (∀b,P b→v.ownBlock≠some b)→(∀b,Q b→v.ownBlock≠some b)→B≤w.heap.size→StrRow B w v out→out.length+t.size≤8388608 →
  Calls Tryz.prog 185 #[.agg #[x,y,z],.slice ba bd.length bc,v] w (ztb B w v (t.free bd out)):=by
 induction t using Ex.ind with
 |h vr nm l ih =>
  intro P Q w x y z bd ba bc B v out ht hs hbd hbl hP hQ hBw hrow hlen
  obtain⟨a,c,rfl,rfl,rfl,hn,hc1,hk⟩:=ht.form
  simp only[Ex.var,Ex.name,Ex.args]at hn hc1 hk ⊢
  simp only[Ex.size]at hs hlen
  have hkl:=Ex.length_le_sizes l
  obtain⟨va,vc,rfl,hvc,hvs⟩:=hrow.strs
  obtain⟨W,hW⟩:∃W,W=w.alloc (.cells #[.bool vr,.string nm,.slice a l.length c] 73):=⟨_,rfl⟩
  have hxW:Ext w W:=by rw[hW];exact zb _ _
  have hsW:w.heap.size<W.heap.size:=by rw[hW];simp
  have hb3:Own W w.heap.size [.bool vr,.string nm,.slice a l.length c]:=by rw[hW];exact own3 w _ _ _ _
  obtain⟨k0,-⟩:=hb3 0 _ rfl
  obtain⟨k1,-⟩:=hb3 1 _ rfl
  obtain⟨k2,-⟩:=hb3 2 _ rfl
  have hrowW:=hrow.ext hxW
  have hown:∀g,(Value.slice va out.length vc).ownBlock=some g→B≤g∧g<w.heap.size:=fun g hg=>StrRow.own_ge hrow hg
  have hkW:=hk.ext hxW
  have hbdW:=hbd.ext hxW
  obtain⟨out1,hout1⟩:∃o,o=(if vr&&!(inB bd nm)&&!(inB out nm)then out++[nm]else out):=⟨_,rfl⟩
  have HT:=Lib.hid (show(Ex.mk vr nm l).free bd out=Ex.frees bd out1 l by rw[hout1];simp only[Ex.free])
  have hl1:out1.length≤out.length+1:=by rw[hout1];split<;>simp
  generalize (Ex.mk vr nm l).free bd out=TT at HT ⊢
  have HI1:=Lib.hid (zp1 (c:=bc) (by omega) hbdW nm)
  have HI2:=Lib.hid (zp1 (c:=vc) (by omega) (hvs.ext hxW) nm)
  have HIH:=Lib.hid (fun (k:Nat) (h:k<l.length) (P Q:Nat→Prop) w' (v':Value) (out':List ByteArray) a' b' c' (hb:IsStrs Q w' ba bd) (hP':∀b,P b→v'.ownBlock≠some b) (hQ':∀b,Q b→v'.ownBlock≠some b) (hBw':B≤w'.heap.size) (hr:StrRow B w' v' out') (hl:out'.length+l[k].size≤8388608) (hi:IsEx P w' a' b' c' l[k]) =>
   ih _ (List.getElem_mem h) P Q w' a' b' c' bd ba bc B v' out' hi (by have:=Ex.size_le_sizes h;omega) hb hbl hP' hQ' hBw' hr hl)
  have Hlen:=Lib.hid (fun (k:Nat) (h:k<l.length)=>show(Ex.frees bd out1 (l.take k)).length+l[k].size≤8388608 by
   have h1:=Ex.frees_len (l.take k) bd out1
   have h2:=Ex.sizes_take h
   have h3:=Ex.sizes_take_le l (k+1)
   omega)
  clear ih ht hrow hk hbd hvs
  generalize inB bd nm=b1 at HI1 hout1
  generalize inB out nm=b2 at HI2 hout1
  cases vr<;>cases b1<;>cases b2
  all_goals
   first
    |(have ho:out1=out:=hout1
      have hrow1:StrRow B W (.slice va out.length vc) out1:=by rw[ho];exact hrowW
      have hr1:=RFr.refl W (.slice va out.length vc)
      have Ho:=Lib.hid ho
      clear ho)
    |(have ho:out1=out++[nm]:=hout1
      have Ho:=Lib.hid ho
      clear ho)
   clear hout1
   go_enter Tryz.func185,Tryz.ntmps185
   go_upto_region 1 with fail
   rw[←hW]
   clear hW
   go_wp2_with (first
    |(go_at_call 194;with_reducible refine(HI1.out).mono ?_;rintro e w1 ⟨rfl,rfl⟩)
    |(go_at_call 194;with_reducible refine(HI2.out).mono ?_;rintro e w1 ⟨rfl,rfl⟩)
    |(at_builtin;refine zhm rfl _ _ rfl (xs:=[nm]) rfl (hrowW.ext (zb _ (.cells #[.string nm] 9))) rfl (zv8 W nm hn) (by simp only[List.length_cons,List.length_nil];omega) (by simp;omega) ?_;intro v1 w1 hrow4 hr4
      (have hrow1:StrRow B w1 v1 out1:=by rw[Ho.out];exact hrow4)
      (have hr1:RFr W (.slice va out.length vc) w1 v1:=(RFr.of_ext (zb W _) _).trans hr4)))
   clear HI1 HI2 k0 k1 hrowW
   go_loopw [2,7] (fun ov iv wr=>∃k:Nat,k≤l.length∧iv=.int .i64 k∧StrRow B wr ov (Ex.frees bd out1 (l.take k))∧RFr W (.slice va out.length vc) wr ov) (fun _ i _=>l.length-(intOf i).toNat)
   case atStart=>exact⟨0,Nat.zero_le _,rfl,by simpa[Ex.frees]using hrow1,hr1⟩
   case round =>
    obtain⟨k,hkk,rfl,hrow,hrf⟩:=hrel
    have m2:=hrf.cell k2 (fun hm=>by have:=hown w.heap.size hm;omega)
    have hsr:=hrf.chg.size
    by_cases hlt:k<l.length
    ·have hk1:(k:Int)<l.length:=by omega
     obtain⟨b',o',a',c',rfl,-,g1,g2,g3,hi⟩:=IsExs.look (hrf.rows hP hkW) hlt
     have HH:=Lib.hid (HIH.out k hlt _ _ wr _ _ _ _ _ (hrf.rows hQ hbdW) (hrf.ne hP) (hrf.ne hQ) (by omega) hrow (Hlen.out k hlt) hi)
     have Hst:=Lib.hid (Ex.frees_take (bd:=bd) (out:=out1) hlt)
     clear hi
     go_wp2_with (go_at_call 185;refine(HH.out).mono ?_;rintro e w3 ⟨v3,rfl,hrow3,hrf3⟩)
     go_roundw
     case rel=>exact⟨k+1,by omega,by go_num,by rw[Hst.out];exact hrow3,hrf.trans hrf3⟩
     case measure=>simp[intOf];omega
    ·have hk1:¬(k:Int)<l.length:=by omega
     have hke:k=l.length:=by omega
     rw[hke,List.take_length]at hrow
     clear hke
     go_wp2_with fail
     go_ret
     exact⟨_,rfl,by rw[HT.out];exact hrow,(RFr.of_ext hxW _).trans hrf⟩
theorem zod (t:Fm):∀(P Q:Nat→Prop) (w:World) (x y z u:Value) (bd:List ByteArray) (ba:Option Addr) (bc B:Nat) (v:Value) (out:List ByteArray),IsFm P w x y z u t→t.size≤4194304→IsStrs Q w ba bd→bd.length+t.size≤8388608 →
  (∀b,P b→v.ownBlock≠some b)→(∀b,Q b→v.ownBlock≠some b)→B≤w.heap.size→StrRow B w v out→out.length+t.size≤8388608 →
  Calls Tryz.prog 164 #[.agg #[x,y,z,u],.slice ba bd.length bc,v] w (ztb B w v (t.free bd out)):=by
 induction t using Fm.ind with
 |h op vs ts l ih =>
  intro P Q w x y z u bd ba bc B v out ht hs hbd hbl hP hQ hBw hrow hlen
  obtain⟨va1,vc1,ta,tc,aa,cc,rfl,rfl,rfl,rfl,-,-,hvc,htc,hlc,hvs,hts,hls⟩:=ht.form
  simp only[Fm.op,Fm.vars,Fm.terms,Fm.args]at hvc htc hlc hvs hts hls ⊢
  simp only[Fm.size]at hs hlen hbl
  have hkl:=Ex.length_le_sizes ts
  have hll:=Fm.length_le_sizes l
  obtain⟨W,hW⟩:∃W,W=w.alloc (.cells #[.int .i64 op,.slice va1 vs.length vc1,.slice ta ts.length tc,.slice aa l.length cc] 29):=⟨_,rfl⟩
  have hxW:Ext w W:=by rw[hW];exact zb _ _
  have hsW:w.heap.size<W.heap.size:=by rw[hW];simp
  have hb4:Own W w.heap.size [.int .i64 op,.slice va1 vs.length vc1,.slice ta ts.length tc,.slice aa l.length cc]:=by rw[hW];exact own4 w _ _ _ _ _
  obtain⟨k0,-⟩:=hb4 0 _ rfl
  obtain⟨k1,-⟩:=hb4 1 _ rfl
  obtain⟨k2,-⟩:=hb4 2 _ rfl
  obtain⟨k3,-⟩:=hb4 3 _ rfl
  have hrowW:=hrow.ext hxW
  have hown:∀g,v.ownBlock=some g→B≤g∧g<w.heap.size:=fun g hg=>StrRow.own_ge hrow hg
  have hnw:v.ownBlock≠some w.heap.size:=fun hm=>by have:=hown w.heap.size hm;omega
  have hbdW:=hbd.ext hxW
  have htsW:=hts.ext hxW
  have hlsW:=hls.ext hxW
  have hvsW:=hvs.ext hxW
  have HT:=Lib.hid (show(Fm.mk op vs ts l).free bd out=Fm.frees (if zg8 op then bd++vs else bd) (Ex.frees bd out ts) l by simp only[Fm.free])
  generalize (Fm.mk op vs ts l).free bd out=TT at HT ⊢
  have HE:=Lib.hid (fun (k:Nat) (h:k<ts.length) (P Q:Nat→Prop) w' (v':Value) (out':List ByteArray) a' b' c' (hb:IsStrs Q w' ba bd) (hP':∀b,P b→v'.ownBlock≠some b) (hQ':∀b,Q b→v'.ownBlock≠some b) (hBw':B≤w'.heap.size) (hr:StrRow B w' v' out') (hl:out'.length+ts[k].size≤8388608) (hi:IsEx P w' a' b' c' ts[k]) =>
   zoc _ P Q w' a' b' c' bd ba bc B v' out' hi (by have:=Ex.size_le_sizes h;omega) hb (by omega) hP' hQ' hBw' hr hl)
  have HIH:=Lib.hid (fun (k:Nat) (h:k<l.length) (P Q:Nat→Prop) w' bd' ba' bc' (v':Value) (out':List ByteArray) a' b' c' d' (hi:IsFm P w' a' b' c' d' l[k]) (hb':IsStrs Q w' ba' bd') (hbl':bd'.length+l[k].size≤8388608) (hP':∀b,P b→v'.ownBlock≠some b) (hQ':∀b,Q b→v'.ownBlock≠some b) (hBw':B≤w'.heap.size) (hr:StrRow B w' v' out') (hl:out'.length+l[k].size≤8388608) =>
   ih _ (List.getElem_mem h) P Q w' a' b' c' d' bd' ba' bc' B v' out' hi (by have:=Fm.size_le_sizes h;omega) hb' hbl' hP' hQ' hBw' hr hl)
  have Hlen:=Lib.hid (fun (k:Nat) (h:k<ts.length)=>show(Ex.frees bd out (ts.take k)).length+ts[k].size≤8388608 by
   have h1:=Ex.frees_len (ts.take k) bd out
   have h2:=Ex.sizes_take h
   have h3:=Ex.sizes_take_le ts (k+1)
   omega)
  have Hlen2:=Lib.hid (fun bd' (k:Nat) (h:k<l.length)=>show(Fm.frees bd' (Ex.frees bd out ts) (l.take k)).length+l[k].size≤8388608 by
   have h1:=Fm.frees_len (l.take k) bd' (Ex.frees bd out ts)
   have h4:=Ex.frees_len ts bd out
   have h2:=Fm.sizes_take h
   have h3:=Fm.sizes_take_le l (k+1)
   omega)
  have Hbl:=Lib.hid (fun (k:Nat) (h:k<l.length)=>show(bd++vs).length+l[k].size≤8388608 by
   have h2:=Fm.size_le_sizes h
   rw[List.length_append]
   omega)
  clear ih ht hrow hbd hts hls hvs
  go_enter Tryz.func164,Tryz.ntmps164
  go_upto_region 1 with fail
  rw[←hW]
  clear hW
  go_wp2_with fail
  go_loopw [2,7] (fun ov iv wr=>∃k:Nat,k≤ts.length∧iv=.int .i64 k∧StrRow B wr ov (Ex.frees bd out (ts.take k))∧RFr W v wr ov) (fun _ i _=>ts.length-(intOf i).toNat)
  case atStart=>exact⟨0,Nat.zero_le _,rfl,by simpa[Ex.frees]using hrowW,RFr.refl _ _⟩
  case round =>
   obtain⟨k,hkk,rfl,hrow,hrf⟩:=hrel
   generalize u2=ov at hrow hrf ⊢
   have m0:=hrf.cell k0 hnw
   have m1:=hrf.cell k1 hnw
   have m2:=hrf.cell k2 hnw
   have m3:=hrf.cell k3 hnw
   have hsr:=hrf.chg.size
   by_cases hlt:k<ts.length
   ·have hk1:(k:Int)<ts.length:=by omega
    obtain⟨b',o',a',c',rfl,-,g1,g2,g3,hi⟩:=IsExs.look (hrf.rows hP htsW) hlt
    have HH:=Lib.hid (HE.out k hlt _ _ wr _ _ _ _ _ (hrf.rows hQ hbdW) (hrf.ne hP) (hrf.ne hQ) (by omega) hrow (Hlen.out k hlt) hi)
    have Hst:=Lib.hid (Ex.frees_take (bd:=bd) (out:=out) hlt)
    clear hi
    go_wp2_with (go_at_call 185;refine(HH.out).mono ?_;rintro e w3 ⟨v3,rfl,hrow3,hrf3⟩)
    go_roundw
    case rel=>exact⟨k+1,by omega,by go_num,by rw[Hst.out];exact hrow3,hrf.trans hrf3⟩
    case measure=>simp[intOf];omega
   ·have hk1:¬(k:Int)<ts.length:=by omega
    have hke:k=ts.length:=by omega
    rw[hke,List.take_length]at hrow
    clear hke
    generalize wr=w5 at *
    have hPr:=hrf.ne hP
    have hQr:=hrf.ne hQ
    have hlsR:=hrf.rows hP hlsW
    have hbdR:=hrf.rows hQ hbdW
    have hvsR:=hrf.rows hP hvsW
    have hnw2:ov.ownBlock≠some w.heap.size:=hrf.ne (P:=fun b=>b=w.heap.size) (fun b hb=>by rw[hb];exact hnw) _ ⟨rfl,hsW⟩
    clear HE hlsW hbdW hvsW htsW hrowW k0 k1 k2 k3
    by_cases hop:op=11∨op=12
    ·have Hb:=Lib.hid (show zg8 op=true by unfold zg8;rcases hop with rfl|rfl<;>rfl)
     obtain⟨bv,hbv⟩:∃bv:List ByteArray,bv=bd++vs:=⟨_,rfl⟩
     replace HT:=Lib.hid (show TT=Fm.frees bv (Ex.frees bd out ts) l by rw[HT.out,Hb.out,hbv];rfl)
     rw[←hbv]at Hbl
     have Hbv:=Lib.hid hbv
     clear hbv
     have hc:(op==11)=true∨((op==11)=false∧(op==12)=true):=by
      rcases hop with rfl|rfl
      ·exact .inl rfl
      ·exact .inr ⟨rfl,rfl⟩
     have hvl:bd.length+vs.length≤8388608:=by omega
     clear hop
     rcases hc with hc|⟨hc,hc2⟩
     all_goals
      go_upto_region 7 with fail
      go_cut [8]from 33 to 38 (fun xx wx=>∃(va2:Option Addr) (vc2:Nat),xx=.slice va2 bv.length vc2∧IsStrs (fun b=>w5.heap.size≤b) wx va2 bv∧Ext w5 wx)
      case first =>
       go_region_law ((first
        |(refine zdi rfl _ _ rfl (v:=v1) rfl hr1 rfl (Dat.Rows.ext hvsR hxw1) (by simpa using hvl) (Nat.le_trans (Nat.le_refl _) hxw1.size) ?_;intro v2 w2 hr2 hf2)
        |(refine zdi rfl _ _ rfl (v:=.slice none 0 0) (l:=[]) rfl (StrRow.nil (B:=w5.heap.size)) rfl (Dat.Rows.ext hbdR (Ext.drew (Below.refl _ _))) (by simp;omega) (Nat.le_refl _) ?_;intro v1 w1 hr1 hf1;(have hxw1:Ext w5 w1:=hf1.ext (Ext.drew (Below.refl _ _)) (fun g hg=>by simp[Value.ownBlock]at hg));(have q1:=hxw1.cell m1);(rw[List.nil_append]at hr1))))
       all_goals
        go_wp2_with fail
        go_meet
        obtain⟨a2,c2,rfl,-,hs2⟩:=hr2.strs
        rw[←Hbv.out]at hs2
        exact⟨a2,c2,by first|(rw[Hbv.out];rfl)|simp[Hbv.out],hs2,hf2.ext hxw1 (fun g hg=>(hr1.own_ge hg).1)⟩
      case rest =>
       generalize wc=W2 at hcut ⊢
       obtain⟨va2,vc2,rfl,hbX,hx2⟩:=hcut
       have x3:=hx2.cell m3
       have hsx2:=hx2.size
       have hrowX:=hrow.ext hx2
       have hlsX:=Dat.Rows.ext hlsR hx2
       have hQX:∀b,w5.heap.size≤b→ov.ownBlock≠some b:=fun b hb he=>by have:=StrRow.own_ge hrow he;omega
       go_wp2_with fail
       go_loopw [2,9] (fun ov2 iv wr=>∃k:Nat,k≤l.length∧iv=.int .i64 k∧StrRow B wr ov2 (Fm.frees bv (Ex.frees bd out ts) (l.take k))∧RFr W2 ov wr ov2) (fun _ i _=>l.length-(intOf i).toNat)
       case atStart=>exact⟨0,Nat.zero_le _,rfl,by simpa[Fm.frees]using hrowX,RFr.refl _ _⟩
       case round =>
        obtain⟨j,hjj,rfl,hrow2,hrf2⟩:=hrel
        generalize u2=ov2 at hrow2 hrf2 ⊢
        have n3:=hrf2.cell x3 hnw2
        have hsr2:=hrf2.chg.size
        by_cases hlt2:j<l.length
        ·have hj1:(j:Int)<l.length:=by omega
         obtain⟨b',o',e1,f1,e2,f2,e3,f3,rfl,-,g1,g2,g3,g4,hi⟩:=IsFms.look (hrf2.rows hPr hlsX) hlt2
         have HH:=Lib.hid (HIH.out j hlt2 _ _ wr _ _ vc2 _ _ _ _ _ _ hi (hrf2.rows hQX hbX) (Hbl.out j hlt2) (hrf2.ne hPr) (hrf2.ne hQX) (by omega) hrow2 (Hlen2.out _ j hlt2))
         have Hst:=Lib.hid (Fm.frees_take (bd:=bv) (out:=Ex.frees bd out ts) hlt2)
         clear hi
         go_wp2_with (go_at_call 164;refine(HH.out).mono ?_;rintro e w3 ⟨v3,rfl,hrow3,hrf3⟩)
         go_roundw
         case rel=>exact⟨j+1,by omega,by go_num,by rw[Hst.out];exact hrow3,hrf2.trans hrf3⟩
         case measure=>simp[intOf];omega
        ·have hj1:¬(j:Int)<l.length:=by omega
         have hje:j=l.length:=by omega
         rw[hje,List.take_length]at hrow2
         clear hje
         go_wp2_with fail
         go_ret
         exact⟨_,rfl,by rw[HT.out];exact hrow2,(RFr.of_ext hxW _).trans (hrf.trans ((RFr.of_ext hx2 ov).trans hrf2))⟩
    ·have Hb:=Lib.hid (show zg8 op=false by unfold zg8;rw[decide_eq_false (fun h=>hop (.inl h)),decide_eq_false (fun h=>hop (.inr h))];rfl)
     replace HT:=Lib.hid (show TT=Fm.frees bd (Ex.frees bd out ts) l by rw[HT.out,Hb.out];rfl)
     have hc:(op==11)=false:=by rw[beq_eq_false_iff_ne];exact fun h=>hop (.inl h)
     have hc2:(op==12)=false:=by rw[beq_eq_false_iff_ne];exact fun h=>hop (.inr h)
     clear hop
     go_wp2_with fail
     go_loopw [2,9] (fun ov2 iv wr=>∃k:Nat,k≤l.length∧iv=.int .i64 k∧StrRow B wr ov2 (Fm.frees bd (Ex.frees bd out ts) (l.take k))∧RFr w5 ov wr ov2) (fun _ i _=>l.length-(intOf i).toNat)
     case atStart=>exact⟨0,Nat.zero_le _,rfl,by simpa[Fm.frees]using hrow,RFr.refl _ _⟩
     case round =>
      obtain⟨j,hjj,rfl,hrow2,hrf2⟩:=hrel
      generalize u2=ov2 at hrow2 hrf2 ⊢
      have n3:=hrf2.cell m3 hnw2
      have hsr2:=hrf2.chg.size
      by_cases hlt2:j<l.length
      ·have hj1:(j:Int)<l.length:=by omega
       obtain⟨b',o',e1,f1,e2,f2,e3,f3,rfl,-,g1,g2,g3,g4,hi⟩:=IsFms.look (hrf2.rows hPr hlsR) hlt2
       have HH:=Lib.hid (HIH.out j hlt2 _ _ wr _ _ bc _ _ _ _ _ _ hi (hrf2.rows hQr hbdR) (by have:=Fm.size_le_sizes hlt2;omega) (hrf2.ne hPr) (hrf2.ne hQr) (by omega) hrow2 (Hlen2.out _ j hlt2))
       have Hst:=Lib.hid (Fm.frees_take (bd:=bd) (out:=Ex.frees bd out ts) hlt2)
       clear hi
       go_wp2_with (go_at_call 164;refine(HH.out).mono ?_;rintro e w3 ⟨v3,rfl,hrow3,hrf3⟩)
       go_roundw
       case rel=>exact⟨j+1,by omega,by go_num,by rw[Hst.out];exact hrow3,hrf2.trans hrf3⟩
       case measure=>simp[intOf];omega
      ·have hj1:¬(j:Int)<l.length:=by omega
       have hje:j=l.length:=by omega
       rw[hje,List.take_length]at hrow2
       clear hje
       go_wp2_with fail
       go_ret
       exact⟨_,rfl,by rw[HT.out];exact hrow2,(RFr.of_ext hxW _).trans (hrf.trans (hrf2))⟩
theorem zrz (f:Fm) (hs:f.size≤4194304) (P:Nat→Prop) (w:World) (x y z u:Value) (ht:IsFm P w x y z u f) :
  Calls Tryz.prog 126 #[.agg #[x,y,z,u]] w fun e w'=>∃v,e=.returned v∧StrRow w.heap.size w' v f.freeS∧Ext w w':=by
 have HF:=Lib.hid (fun w' (hx:Ext w w')=>zod f P Ab' w' x y z u [] none 0 w.heap.size (.slice none 0 0) [] (ht.ext hx) hs trivial (by simp only[List.length_nil];omega) (fun b _ h=>by simp[Value.ownBlock]at h) (fun b _ h=>by simp[Value.ownBlock]at h) hx.size StrRow.nil (by simp only[List.length_nil];omega))
 obtain⟨b1,c1,b2,c2,b3,c3,rfl,rfl,rfl,rfl,-⟩:=ht.form
 clear ht
 go_enter Tryz.func126,Tryz.ntmps126
 go_wp2_with (go_at_call 164;refine(HF.out _ (zb _ _)).mono ?_;rintro e w1 ⟨v,rfl,hr,hf⟩)
 go_ret
 exact⟨_,rfl,hr,hf.ext (zb _ _) (fun g hg=>by simp[Value.ownBlock]at hg)⟩
section
variable {ks r1 r2 r3 r4 r5 r:List Tok}{u1 u3 u5:Unit}{nm role:ByteArray}
theorem zwa (h1:zw zbp ks=.bad r):zat ks=.bad r:=by simp[zat,h1]
theorem zwb (h1:zw zbp ks=.ok u1 r1) (h2:zes r1=.bad r):zat ks=.bad r:=by simp[zat,h1,h2]
theorem zwc (h1:zw zbp ks=.ok u1 r1) (h2:zes r1=.ok nm r2) (h3:zw zj r2=.bad r):zat ks=.bad r:=by simp[zat,h1,h2,h3]
theorem zwd (h1:zw zbp ks=.ok u1 r1) (h2:zes r1=.ok nm r2) (h3:zw zj r2=.ok u3 r3) (h4:za5 1 r3=.bad r):zat ks=.bad r:=by simp[zat,h1,h2,h3,h4]
theorem zwe (h1:zw zbp ks=.ok u1 r1) (h2:zes r1=.ok nm r2) (h3:zw zj r2=.ok u3 r3) (h4:za5 1 r3=.ok role r4) (h5:zw zj r4=.bad r):zat ks=.bad r:=by simp[zat,h1,h2,h3,h4,h5]
theorem zm5 (h1:zw zbp ks=.ok u1 r1) (h2:zes r1=.ok nm r2) (h3:zw zj r2=.ok u3 r3) (h4:za5 1 r3=.ok role r4) (h5:zw zj r4=.ok u5 r5):zat ks=.ok (nm,role,(zt r3).at') r5:=by simp[zat,h1,h2,h3,h4,h5]
end
section
variable {l ks r r' k1:List Tok}{file fr rat:Int}{cnf:Bool}{n:Nat}{nm role:ByteArray}{f:Fm}{nx er:Int}{u u':Unit}
theorem zfg (h:zat ks=.bad r):entR l file cnf fr n ks=.flt (ze0 l file r):=by unfold entR;rw[h];rfl
theorem zwf (h:zat ks=.ok (nm,role,rat) r) (hr:zbx cnf role=false):entR l file cnf fr n ks=.flt ⟨file,rat,241⟩:=by unfold entR;rw[h,Rd.out_ok,if_pos hr]
theorem zk5 (h:zat ks=.ok (nm,role,rat) r) (hr:zbx cnf role=true) (hd:zbo l (l.length-r.length:Nat)=(f,nx,er)):entR l file cnf fr n ks=if er≠0 then .flt ⟨file,(zt9 l nx).at',er⟩
  else (zcz (l.drop nx.toNat)).out l file fun _ r'=>if zax cnf f≠0 then .flt ⟨file,fr,zax cnf f⟩else if 200≤n then .flt ⟨file,fr,3⟩else .ok (⟨cnf,nm,role,f⟩,r'):=by
 unfold entR;rw[h,Rd.out_ok,if_neg (by rw[hr];decide)];simp only[hd]
theorem zwg (h:zat ks=.ok (nm,role,rat) r) (hr:zbx cnf role=true) (hd:zbo l (l.length-r.length:Nat)=(f,nx,er)) (he:er≠0):entR l file cnf fr n ks=.flt ⟨file,(zt9 l nx).at',er⟩:=by
 rw[zk5 h hr hd,if_pos he]
theorem ztc (h:zat ks=.ok (nm,role,rat) r) (hr:zbx cnf role=true) (hd:zbo l (l.length-r.length:Nat)=(f,nx,0)) (hb:zcz (l.drop nx.toNat)=.bad r'):entR l file cnf fr n ks=.flt (ze0 l file r'):=by
 rw[zk5 h hr hd,if_neg (fun h=>h rfl),hb];rfl
theorem zp2 (h:zat ks=.ok (nm,role,rat) r) (hr:zbx cnf role=true) (hd:zbo l (l.length-r.length:Nat)=(f,nx,0)) (hb:zcz (l.drop nx.toNat)=.ok u r'):entR l file cnf fr n ks=if zax cnf f≠0 then .flt ⟨file,fr,zax cnf f⟩else if 200≤n then .flt ⟨file,fr,3⟩else .ok (⟨cnf,nm,role,f⟩,r'):=by
 rw[zk5 h hr hd,if_neg (fun h=>h rfl),hb];rfl
theorem zy2 (h:zw zcx ks=.bad r):zcz ks=.bad r:=by simp[zcz,h]
theorem zy3 (h:zw zcx ks=.ok u k1) (h2:zw sDot k1=.bad r):zcz ks=.bad r:=by simp[zcz,h,h2]
theorem zp3 (h:zw zcx ks=.ok u k1) (h2:zw sDot k1=.ok u' r):zcz ks=.ok u' r:=by simp[zcz,h,h2]
end
def PRd (rb:Nat) (l:List Tok) (w:World) (ks:List Tok) (file:Int) (v:Value):Prop :=
 Cur rb l w ks∧(w.cell? ⟨rb,2,none⟩=some (.int .i64 file)∧w.frozen? ⟨rb,2,none⟩=false)∧w.cell? ⟨rb,3,none⟩=some v∧w.frozen? ⟨rb,3,none⟩=false
theorem PRd.kept {rb:Nat}{l ks r:List Tok}{w w':World}{file:Int}{v:Value}(h:PRd rb l w ks file v) (hk:Kept rb w w') (hc:Cur rb l w' r):PRd rb l w' r file v :=
 ⟨hc,⟨hk.cell 2 (by decide) _ h.2.1.1,hk.frozen 2 (by decide) _ _ h.2.1.1 h.2.1.2⟩,hk.cell 3 (by decide) _ h.2.2.1,hk.frozen 3 (by decide) _ _ h.2.2.1 h.2.2.2⟩
theorem PRd.ext {rb:Nat}{l ks:List Tok}{w w':World}{file:Int}{v:Value}(h:PRd rb l w ks file v) (hx:Ext w w'):PRd rb l w' ks file v:=h.kept (Kept.of_ext hx) (h.1.ext hx)
theorem PRd.chg {S:List Nat}{rb:Nat}{l ks:List Tok}{w w':World}{file:Int}{v:Value}(h:PRd rb l w ks file v) (hx:Chg S w w') (hS:∀b∈S,rb<b):PRd rb l w' ks file v :=
 have hn:rb∉S:=fun hm=>by have:=hS rb hm;omega
 ⟨h.1.chg hx hS,⟨hx.cell h.2.1.1 hn,hx.frozen h.2.1.1 hn h.2.1.2⟩,hx.cell h.2.2.1 hn,hx.frozen h.2.2.1 hn h.2.2.2⟩
def zei (t:Flt):PanicEntry:={ v:=.iface 102 (.agg #[.int .i64 t.file,.int .i64 t.at',.int .i64 t.e]),recovered:=false }
def zk6 (t:Flt) (e:Ending):Prop:=∃older:List PanicEntry,e=.panicked (zei t::older)∧older.all (fun p=>!p.goexit)=true
section
variable {rb:Nat}{l ks:List Tok}{w:World}{file:Int}{v:Value}
theorem zp4 (_hl:l.length≤1073741824) (h:PRd rb l w ks file v){n:Nat}(hn:n<l.length) :
  Calls Tryz.prog 110 #[.pointer (some ⟨rb,0,none⟩),.int .i64 n] w fun e w'=>e=.returned (.agg #[.int .i64 file,.int .i64 (zgb l n).at'])∧Ext w w':=by
 obtain⟨⟨hs,a,c,hown,hc,ht⟩,⟨q2,-⟩,-⟩:=h
 have HT:=Lib.hid (zn3 hn)
 obtain⟨b,o,rfl,hb,t0,t1,t2,hok⟩:=ht.look hn
 have hlt:=hown.lt
 obtain⟨c0,-⟩:=hown 0 _ rfl
 have hn':(n:Int)<(l.length:Nat):=by omega
 rw[HT.out]
 generalize l[n]=t at *
 have hd1:decide ((0:Int)≤n)=true:=by simp
 clear ht hown HT t0 t1 hok
 obtain⟨W,hW⟩:∃W,W=w.alloc (.cells #[.int .i64 0,.int .i64 0] 47):=⟨_,rfl⟩
 have hx:Ext w W:=by rw[hW];exact zb _ _
 have hnew:Own W w.heap.size [.int .i64 0,.int .i64 0]:=by rw[hW];exact own2 w _ _ _
 replace c0:=hx.cell c0
 replace q2:=hx.cell q2
 replace t2:=hx.cell t2
 have hWs:=hx.size
 have hnl:=hnew.lt
 obtain⟨n0,g0⟩:=hnew 0 _ rfl
 obtain⟨n1,g1⟩:=hnew 1 _ rfl
 go_enter Tryz.func110,Tryz.ntmps110
 go_upto_region 1 with fail
 rw[←hW]
 clear hW
 go_still_tail 14,(by kernel_rfl)
 change wpList _ _ _ _ _ W.drew
 go_wp2
 exact bodyPost_ret (v:=.agg #[.int .i64 file,.int .i64 t.at']) (by simp[results,Tryz.results110,go_sem,n0,n1]) rfl ⟨rfl,zd1 (zd1 hx.drew (Nat.le_refl _) _ _) (Nat.le_refl _) _ _⟩
theorem ztd (hl:l.length≤1073741824) (h:PRd rb l w ks file v){n:Nat}(hn:n<l.length) (er:Int) :
  Calls Tryz.prog 147 #[.pointer (some ⟨rb,0,none⟩),.int .i64 n,.int .i64 er] w fun e w'=>zk6 ⟨file,(zgb l n).at',er⟩ e∧Ext w w':=by
 have H:=Lib.hid (zp4 hl h hn)
 clear h
 go_enter Tryz.func147,Tryz.ntmps147
 go_wp2_with (go_at_call 110;refine(H.out).mono ?_;rintro e w1 ⟨rfl,hx1⟩)
 exact⟨rfl,⟨[],rfl,rfl⟩,hx1⟩
theorem zuf (ks:List Tok):(∃t r,ks=t::r∧zes ks=.ok t.text r∧(t.named=true∨(t.named=false∧(t.kind != 5)=false)))∨((zt ks).named=false∧((zt ks).kind != 5)=true∧zes ks=.bad ks):=by
 cases ks with
 |nil=>exact .inr ⟨rfl,rfl,rfl⟩
 |cons t r =>
  rw[zc2]
  cases hn:t.named with
  |true=>exact .inl ⟨t,r,rfl,by simp,.inl hn⟩
  |false =>
   by_cases h5:t.kind=5
   ·exact .inl ⟨t,r,rfl,by simp[h5],.inr ⟨hn,by rw[h5];rfl⟩⟩
   ·refine .inr ⟨hn,?_,by simp[h5]⟩
    show(t.kind != 5)=true
    rw[bne_iff_ne];exact h5
theorem zwh (ht:∀t∈ks,t.ok):(zt ks).text.size≤1073741824:=by
 cases ks with
 |nil=>exact Nat.zero_le _
 |cons t r=>exact(ht t (by simp)).2.1
theorem zp5 (hl:l.length≤1073741824) (hne:0<l.length) (h:Cur rb l w ks) :
  Calls Tryz.prog 145 #[.pointer (some ⟨rb,0,none⟩)] w fun e w'=>Kept rb w w'∧match zes ks with
   |.ok x r=>e=.returned (.string x)∧Cur rb l w' r
   |.bad r=>e=.panicked [zch (zck l r)]∧Cur rb l w' ks:=by
 have HP:=Lib.hid (zab hl h)
 have HN:=Lib.hid (fun w=>zmb (w:=w) (zt ks) (zwh h.toks))
 have HB:=Lib.hid (fun w' (hx:Ext w w')=>zg2 hl hne (h.ext hx))
 have HCU:=Lib.hid h
 rcases zuf ks with ⟨t,r,rfl,hk,hway⟩|⟨h1,h2,hk⟩
 ·have HX:=Lib.hid (fun w' (hx:Ext w w')=>zq4 hl (h.ext hx))
  have he:zt (t::r)=t:=rfl
  rw[hk]
  rw[he]at HP HN
  clear he hk HB h
  obtain⟨kd,tx,ta⟩:=t
  have hf0:=zem
  have hf1:=zf6
  rcases hway with h1|⟨h1,h2⟩
  all_goals
   rw[h1]at HN
   clear h1
   simp only[Tok.vals]at HN HP HX
   try simp only at h2
   go_enter Tryz.func145,Tryz.ntmps145
   go_wp2_with (first|(go_at_call 80;refine(HP.out).mono ?_;rintro e w1 ⟨rfl,hx1⟩)|(go_at_call 179;refine(HN.out _).mono ?_;rintro e w2 ⟨rfl,hx2⟩;have hb2:=((own3 w1 (.int .i64 kd) (.string tx) (.int .i64 ta) 77).ext hx2);have hl2:=hb2.lt;(obtain⟨r0,-⟩:=hb2 0 _ rfl))|(go_at_call 180;refine(HX.out _ ((hx1.alloc _).trans hx2)).mono ?_;rintro e w3 ⟨rfl,hc3,hx3⟩))
   go_ret
   exact⟨(Kept.of_ext ((hx1.alloc _).trans hx2)).trans hx3,rfl,hc3⟩
 ·rw[hk]
  generalize zt ks=t at *
  clear hk h
  obtain⟨kd,tx,ta⟩:=t
  rw[h1]at HN
  clear h1
  simp only[Tok.vals]at HN HP
  simp only at h2
  go_enter Tryz.func145,Tryz.ntmps145
  go_wp2_with (first|(go_at_call 80;refine(HP.out).mono ?_;rintro e w1 ⟨rfl,hx1⟩)|(go_at_call 179;refine(HN.out _).mono ?_;rintro e w2 ⟨rfl,hx2⟩;have hb2:=((own3 w1 (.int .i64 kd) (.string tx) (.int .i64 ta) 77).ext hx2);have hl2:=hb2.lt;(obtain⟨r0,-⟩:=hb2 0 _ rfl))|(go_at_call 113;refine(HB.out _ ((hx1.alloc _).trans hx2)).mono ?_;rintro e w3 ⟨rfl,hx3⟩))
  exact⟨rfl,Kept.of_ext (((hx1.alloc _).trans hx2).trans hx3),rfl,HCU.out.ext (((hx1.alloc _).trans hx2).trans hx3)⟩
end
def zfh {α:Type}(xs:List α) (o:Nat):List α→List α
 |[]=>xs
 |u::us=>zfh (xs.set o u) (o+1) us
theorem zm6 {α:Type}:∀(us xs:List α) (o:Nat),o+us.length≤xs.length→zfh xs o us=xs.take o++us++xs.drop (o+us.length)
 |[],xs,o,_=>by simp[zfh]
 |u::us,xs,o,h=>by
  simp only[List.length_cons]at h
  unfold zfh
  rw[zm6 us (xs.set o u) (o+1) (by simp;omega),List.drop_set_of_lt (by omega),List.take_set,List.take_succ_eq_append_getElem (by omega:o<xs.length)]
  rw[List.set_append_right _ _ (by simp;omega)]
  have:o-(xs.take o).length=0:=by rw[List.length_take];omega
  rw[this]
  simp only[List.set_cons_zero,List.length_cons]
  rw[show o+1+us.length=o+(us.length+1) by omega]
  simp
theorem zgh {α:Type}:∀(us xs:List α) (o:Nat),xs.length≤o→zfh xs o us=xs
 |[],_,_,_=>rfl
 |u::us,xs,o,h=>by
  unfold zfh
  rw[List.set_eq_of_length_le h,zgh us xs (o+1) (by omega)]
theorem zfi {α:Type}{m:Nat}:∀(cs:List (List α)) (i:Nat),(∀c∈cs,c.length=m)→i≤cs.length→cs.flatten.take (i * m)=(cs.take i).flatten
 |[],i,_,h=>by simp
 |c::cs,0,_,_=>by simp
 |c::cs,i+1,hl,h=>by
  have hc:=hl c (by simp)
  rw[List.flatten_cons,List.take_succ_cons,List.flatten_cons,←zfi cs i (fun x hx=>hl x (by simp[hx])) (by simpa using h),List.take_append,hc,List.take_of_length_le (by rw[hc,Nat.add_mul];omega)]
  rw[show(i+1) * m-m=i * m by rw[Nat.add_mul];omega]
theorem zjm {α:Type}{m:Nat}:∀(cs:List (List α)) (i:Nat),(∀c∈cs,c.length=m)→i≤cs.length→cs.flatten.drop (i * m)=(cs.drop i).flatten
 |[],i,_,h=>by simp
 |c::cs,0,_,_=>by simp
 |c::cs,i+1,hl,h=>by
  have hc:=hl c (by simp)
  rw[List.flatten_cons,List.drop_succ_cons,←zjm cs i (fun x hx=>hl x (by simp[hx])) (by simpa using h),List.drop_append,hc,List.drop_of_length_le (by rw[hc,Nat.add_mul];omega)]
  rw[show(i+1) * m-m=i * m by rw[Nat.add_mul];omega]
  simp
theorem zr0 {α:Type}{m:Nat}{cs:List (List α)}{i:Nat}{c:List α}(hl:∀c∈cs,c.length=m) (hi:i<cs.length) (hc:c.length=m):(cs.set i c).flatten=zfh cs.flatten (i * m) c:=by
 have hlen:cs.flatten.length=cs.length * m:=by
  clear hi
  induction cs with
  |nil=>simp
  |cons x cs ih=>rw[List.flatten_cons,List.length_append,hl x (by simp),ih (fun y hy=>hl y (by simp[hy])),List.length_cons,Nat.add_mul];omega
 have hle:i * m+m≤cs.length * m:=by
  have:=Nat.mul_le_mul_right m (show i+1≤cs.length from hi)
  rw[Nat.add_mul]at this;omega
 rw[zm6 c cs.flatten (i * m) (by rw[hlen,hc];exact hle),hc,zfi cs i hl (by omega),show i * m+m=(i+1) * m by rw[Nat.add_mul];omega,zjm cs (i+1) hl hi,List.set_eq_take_append_cons_drop]
 rw[if_pos hi]
 simp
theorem zfj {base size n g cap:Nat}{e:TypeId}:∀(us xs:List Value) (o:Nat) (w:World),w.ownsRow base e size (.slice (some ⟨g,0,none⟩) n cap) n xs→(w.setCells g o us).ownsRow base e size (.slice (some ⟨g,0,none⟩) n cap) n (zfh xs o us)∧Chg [g] w (w.setCells g o us)
 |[],xs,o,w,h=>⟨h,Chg.refl _ _⟩
 |u::us,xs,o,w,h=>by
  obtain⟨h1,-⟩:=h.stored o u
  obtain⟨h2,h3⟩:=zfj us (xs.set o u) (o+1) (w.setCell ⟨g,o,none⟩ u) h1
  exact⟨h2,((Chg.refl [g] w).setCell _ (.inl (by simp))).trans h3⟩
theorem zy4 {base size n g cap k:Nat}{e:TypeId}{w:World}{xs:List Value}(h:w.ownsRow base e size (.slice (some ⟨g,0,none⟩) n cap) n xs) (hk:k≤n):w.ownsRow base e size (.slice (some ⟨g,0,none⟩) k cap) k (xs.take (k * size)):=by
 have hle:=Nat.mul_le_mul_right size hk
 obtain⟨h1,h2⟩:=h
 rcases h2 with ⟨h2,-⟩|⟨g',cap',cur,hv,hb,hh,hn,hm,hs,ht⟩
 ·cases h2
 ·injection hv with e1 _ e3
  injection e1 with e1;injection e1 with e1 _ _
  subst e1;subst e3
  refine⟨by rw[List.length_take,h1];omega,.inr ⟨g,cap,cur,rfl,hb,hh,by omega,hm,hs,?_⟩⟩
  rw[←ht,List.take_take,Nat.min_eq_left hle]
section
variable {m e B g n cap:Nat}{w:World}{l:List (List Dat)}
theorem GRow.put {x:List Dat}{c:List Value}{i:Nat}(h:GRow (z6 m) e B w (.slice (some ⟨g,0,none⟩) n cap) l) (hi:i<l.length) (hc:(z6 m).is (fun b=>B≤b∧b≠g) w c x) :
  GRow (z6 m) e B (w.setCells g (i * m) c) (.slice (some ⟨g,0,none⟩) n cap) (l.set i x)∧Chg [g] w (w.setCells g (i * m) c):=by
 obtain⟨a0,c0,hv0,-⟩:=h.form
 obtain⟨cs,h1,h2,h3⟩:=h
 injection hv0 with _ hn _
 subst hn
 obtain⟨h4,h5⟩:=zfj c cs.flatten (i * m) w h2
 have hl:∀c∈cs,c.length=m:=by
  intro c hc
  obtain⟨k,hk,rfl⟩:=List.getElem_of_mem hc
  exact(h3 k (by omega) hk).1
 refine⟨⟨cs.set i c,by simp[h1],?_,fun j hj hj'=>?_⟩,h5⟩
 ·rw[zr0 hl (by omega) hc.1,List.length_set]
  exact h4
 ·by_cases hji:j=i
  ·subst hji
   rw[List.getElem_set_self,List.getElem_set_self]
   exact⟨hc.1,(hc.2.mono fun b hb _=>⟨hb.1,fun he=>hb.2 (by injection he with he;exact he.symm)⟩).chg h5 fun b hb hm=>hb.2 (by simp at hm;subst hm;rfl)⟩
  ·rw[List.getElem_set_ne (Ne.symm hji),List.getElem_set_ne (Ne.symm hji)]
   have:=h3 j (by simpa using hj) (by simpa using hj')
   exact⟨this.1,this.2.chg h5 fun b hb hm=>hb.2 (by simp at hm;subst hm;rfl)⟩
theorem GRow.take {k:Nat}(h:GRow (z6 m) e B w (.slice (some ⟨g,0,none⟩) n cap) l) (hk:k≤l.length):GRow (z6 m) e B w (.slice (some ⟨g,0,none⟩) k cap) (l.take k):=by
 obtain⟨a0,c0,hv0,-⟩:=h.form
 obtain⟨cs,h1,h2,h3⟩:=h
 injection hv0 with _ hn _
 subst hn
 have hl:∀c∈cs,c.length=m:=by
  intro c hc
  obtain⟨k,hk,rfl⟩:=List.getElem_of_mem hc
  exact(h3 k (by omega) hk).1
 have hlen:(l.take k).length=k:=by rw[List.length_take];omega
 refine⟨cs.take k,by rw[List.length_take,List.length_take];omega,?_,fun j hj hj'=>?_⟩
 ·rw[hlen,←zfi cs k hl (by omega)]
  exact zy4 h2 hk
 ·rw[List.getElem_take,List.getElem_take]
  exact h3 j (by rw[hlen]at hj;omega) (by rw[List.length_take]at hj';omega)
theorem GRow.beyond {us:List Value}{o:Nat}(h:GRow (z6 m) e B w (.slice (some ⟨g,0,none⟩) n cap) l) (ho:l.length * m≤o):GRow (z6 m) e B (w.setCells g o us) (.slice (some ⟨g,0,none⟩) n cap) l∧Chg [g] w (w.setCells g o us):=by
 obtain⟨a0,c0,hv0,-⟩:=h.form
 obtain⟨cs,h1,h2,h3⟩:=h
 injection hv0 with _ hn _
 subst hn
 obtain⟨h4,h5⟩:=zfj us cs.flatten o w h2
 rw[zgh us cs.flatten o (by rw[h2.1];exact ho)]at h4
 exact⟨⟨cs,h1,h4,fun j hj hj'=>⟨(h3 j hj hj').1,(h3 j hj hj').2.chg h5 fun b hb hm=>hb.2 (by simp at hm;subst hm;rfl)⟩⟩,h5⟩
end
theorem zk7 {w:World}{t e:TypeId}{z:Value}{m:Nat}(ht:Tryz.prog.underlying t=some (.slice e)) (hv:∀w,(zeroValue e).run Tryz.prog w=.ok z w) (hz:z.cells.size=m) (h1:∀u∈z.cells.toList,u.oneCell'=true) (hm:0<m){b o n c:Nat}
  (hc:∀j,j<n * m→(w.cell? ⟨b,o+j,none⟩).isSome=true) (hf:∀j,j<n * m→w.frozen? ⟨b,o+j,none⟩=false) :
  ∃us,∀ty,(Builtin.clear_ #[t] ty #[.slice (some ⟨b,o,none⟩) n c]).run Tryz.prog w=.ok (.tuple #[]) (w.setCells b o us):=by
 cases n with
 |zero=>exact⟨[],fun ty=>by simp[Builtin.clear_,run_underlying ht];rfl⟩
 |succ k =>
  refine⟨(Builtin.zeroCells z.cells (k+1)).toList,fun ty=>?_⟩
  have hlen:(Builtin.zeroCells z.cells (k+1)).toList.length=(k+1) * m:=by simp[Builtin.zeroCells,hz]
  have hst:=run_storeCells_cells (P:=Tryz.prog) b o (Builtin.zeroCells z.cells (k+1)).toList 0 w (by rw[hlen];simpa using hc) (by rw[hlen];simpa using hf) (by
   intro v hv'
   simp only[Builtin.zeroCells,Array.toList_map,List.mem_map]at hv'
   obtain⟨i,-,rfl⟩:=hv'
   have hlt:i % z.cells.size<z.cells.size:=Nat.mod_lt _ (by omega)
   rw[getElem!_pos z.cells _ hlt]
   exact h1 _ (by simp))
  simp only[Nat.add_zero]at hst
  simp[Builtin.clear_,run_underlying ht,hv,hst]
theorem zfk (op:Int) (s:List UInt8):(zbe op s).length≤s.length+2:=by
 unfold zbe;split<;>simp
theorem zk8:∀(l:List Fm),(∀e∈l,e.text.length+8≤60 * e.size)→∀(first:Bool) (sep:List UInt8),sep.length≤5→(Fm.units first sep l).length≤60 * Fm.sizes l
 |[],_,_,_,_=>by simp[Fm.units]
 |e::l,h,first,sep,hs=>by
  have h1:=h e (by simp)
  have h2:=zk8 l (fun x hx=>h x (by simp[hx])) false sep hs
  have h3:=zfk e.op e.text
  have h4:(if first then []else sep).length≤5:=by
   split
   ·simp
   ·exact hs
  simp only[Fm.units,Fm.sizes,List.length_append]
  omega
theorem zj5:∀(l:List ByteArray),(∀v∈l,zcg v=true)→∀(first:Bool),(zaa first l).length≤41 * l.length
 |[],_,_=>by simp[zaa]
 |v::l,h,first=>by
  have h1:=h v (by simp)
  unfold zcg at h1
  rw[Bool.and_eq_true]at h1
  have h2:=zin h1.1
  have e:v.data.toList.length=v.size:=by simp
  have h3:=zj5 l (fun x hx=>h x (by simp[hx])) false
  have h4:(if first then []else [(44:UInt8)]).length≤1:=by split<;>simp
  simp only[zaa,List.length_append,List.length_cons]
  omega
theorem zug (op:Int):(ze3 op).length≤5:=by
 unfold ze3
 repeat' split
 all_goals decide
theorem zm7 {t:List Ex}(ht:t.length=2) (hm:∀x∈t,x.may=true){sep:List UInt8}(hs:sep.length≤5):(ze2 sep t).length+8≤50 * Ex.sizes t+15:=by
 match t,ht with
 |[x,y],_ =>
  have h1:=x.text_len (hm x (by simp))
  have h2:=y.text_len (hm y (by simp))
  simp only[ze2,Ex.sizes,List.length_append]
  omega
theorem Fm.text_len (f:Fm):f.may=true→f.text.length+8≤60 * f.size:=by
 induction f using Fm.ind with
 |h o v t l ih =>
  intro hm
  simp only[Fm.may,Bool.and_eq_true]at hm
  obtain⟨hm,hms⟩:=hm
  rw[Fm.mays_all,List.all_eq_true]at hms
  obtain⟨hv,ht,ht3,hc⟩:=za6 hm
  have ih':∀e∈l,e.text.length+8≤60 * e.size:=fun e he=>ih e he (hms e he)
  have hu:=fun first sep hs=>zk8 l ih' first sep hs
  have hso:=zug o
  have hul:=hu true (ze3 o) hso
  have hu0:=hu true [] (by decide)
  simp only[Fm.size]
  rcases hc with ⟨ho,rfl,rfl,hn⟩|⟨rfl,rfl,h1,hn⟩|⟨rfl,rfl,h1,hn⟩|⟨rfl,rfl,rfl,hn⟩|⟨ho,rfl,rfl,hn⟩|⟨ho,rfl,rfl,hn⟩|⟨ho,h1,rfl,hn⟩
  ·rcases ho with rfl|rfl
   ·rw[Fm.text1.1];simp[zni];omega
   ·rw[Fm.text2.1];simp[zix];omega
  ·rw[Fm.text3.1]
   match t,h1 with
   |[x],_ =>
    have:=x.text_len (ht x (by simp))
    simp only[zop,Ex.sizes];omega
  ·rw[Fm.text4.1]
   have:=zm7 h1 ht (sep:=bEq) (by decide)
   omega
  ·match l,hn with
   |[g],_ =>
   rw[Fm.text5.1]
   split
   ·rename_i hg
    have hgm:=hms g (by simp)
    obtain⟨og,vg,tg,lg⟩:=g
    simp only[List.head?_cons,Option.map_some,Option.some.injEq,Fm.op]at hg
    subst hg
    simp only[Fm.may,Bool.and_eq_true]at hgm
    obtain⟨-,ht',-,hc'⟩:=za6 hgm.1
    have:=zm7 (by omega) ht' (sep:=bNe) (by decide)
    simp only[List.head?_cons,Option.map_some,Fm.terms,Option.getD_some,Fm.sizes,Fm.size]
    omega
   ·simp only[List.length_append,bNot,List.length_cons,List.length_nil]
    omega
  ·rw[(Fm.text6 (by omega) (by omega)).1];omega
  ·rw[(Fm.text6 (by omega) (by omega)).1];omega
  ·rw[(Fm.text11 (by omega)).1]
   have:=zj5 v (zb7 hv) true
   simp only[List.length_append,bOf,List.length_cons,List.length_nil]
   omega
def zfl (f:Fm):Prop:=f.may=true→f.size≤4194304→∀(P:Nat→Prop) (w:World) (x y z u:Value),IsFm P w x y z u f→Calls Tryz.prog 49 #[.agg #[x,y,z,u]] w fun e w'=>e=.returned (.string ⟨f.text.toArray⟩)∧Ext w w'
theorem zd7 {f:Fm}(hT:zfl f) (hm:f.may=true) (hs:f.size≤4194304){P:Nat→Prop}{w:World}{x y z u:Value}(ht:IsFm P w x y z u f) :
  Calls Tryz.prog 94 #[.agg #[x,y,z,u]] w fun e w'=>e=.returned (.string ⟨(zbe f.op f.text).toArray⟩)∧Ext w w':=by
 have HT:=Lib.hid (fun w' (hx:Ext w w')=>hT hm hs P w' x y z u (ht.ext hx))
 obtain⟨b1,c1,b2,c2,b3,c3,rfl,rfl,rfl,rfl,hop1,hop2,-⟩:=ht.form
 have hlen:=f.text_len hm
 have hl1:1+f.text.length≤9223372036854775807:=by omega
 have hl2:1+f.text.length+1≤9223372036854775807:=by omega
 clear ht
 obtain⟨W,hW⟩:∃W,W=w.alloc (.cells #[.int .i64 f.op,.slice b1 f.vars.length c1,.slice b2 f.terms.length c2,.slice b3 f.args.length c3] 29):=⟨_,rfl⟩
 have hx:Ext w W:=by rw[hW];exact zb _ _
 have hb:Own W w.heap.size [.int .i64 f.op,.slice b1 f.vars.length c1,.slice b2 f.terms.length c2,.slice b3 f.args.length c3]:=by rw[hW];exact own4 w _ _ _ _ _
 obtain⟨⟨k0,-⟩,⟨k1,-⟩,⟨k2,-⟩,⟨k3,-⟩⟩:=hb.cells4
 have hbl:=hb.lt
 have e6:(f.op==6)=decide (f.op=6):=by rw[Bool.eq_iff_iff];simp
 by_cases hop:6≤f.op∧f.op≤10
 ·have HW:=Lib.hid (show(⟨(zbe f.op f.text).toArray⟩:ByteArray)=⟨(40::(f.text++[41])).toArray⟩ by unfold zbe;rw[if_pos hop])
  clear e6 hlen
  have hcase:f.op=6∨f.op=7∨f.op=8∨f.op=9∨f.op=10:=by omega
  clear hop
  generalize f.op=o at *
  rcases hcase with rfl|rfl|rfl|rfl|rfl
  all_goals
   go_enter Tryz.func94,Tryz.ntmps94
   go_wp2_with (rw[←hW];clear hW;go_at_call 49;refine(HT.out _ hx).mono ?_;rintro e w1 ⟨rfl,hx1⟩)
   go_ret
   exact⟨by rw[HW.out];exact congrArg (fun b=>Ending.returned (.string b)) (by apply ByteArray.ext;simp),hx.trans hx1⟩
 ·have HW:=Lib.hid (show(⟨(zbe f.op f.text).toArray⟩:ByteArray)=⟨f.text.toArray⟩ by unfold zbe;rw[if_neg hop])
  have q6:(f.op==6)=false:=by rw[beq_eq_false_iff_ne];omega
  have q7:(f.op==7)=false:=by rw[beq_eq_false_iff_ne];omega
  have q8:(f.op==8)=false:=by rw[beq_eq_false_iff_ne];omega
  have q9:(f.op==9)=false:=by rw[beq_eq_false_iff_ne];omega
  have q10:(f.op==10)=false:=by rw[beq_eq_false_iff_ne];omega
  clear e6 hlen hop
  go_enter Tryz.func94,Tryz.ntmps94
  go_wp2_with (rw[←hW];clear hW;go_at_call 49;refine(HT.out _ hx).mono ?_;rintro e w1 ⟨rfl,hx1⟩)
  go_ret
  exact⟨by rw[HW.out];rfl,hx.trans hx1⟩
theorem zc3:∀(l:List Fm) (first:Bool) (sep:List UInt8) (k:Nat) (h:k<l.length),Fm.units first sep (l.take (k+1))=Fm.units first sep (l.take k)++((if k=0∧first=true then []else sep)++zbe l[k].op l[k].text)
 |[],_,_,_,h=>by simp at h
 |e::l,first,sep,0,_=>by cases first<;>simp[Fm.units]
 |e::l,first,sep,k+1,h=>by
  simp only[List.take_succ_cons,Fm.units,List.getElem_cons_succ,List.append_assoc]
  rw[zc3 l false sep k (by simpa using h)]
  simp
theorem zr1 (l:List Fm) (k:Nat):Fm.sizes (l.take k)≤Fm.sizes l:=Fm.sizes_take_le l k
theorem zcp {l:List Fm}(hT:∀e∈l,zfl e) (hm:∀e∈l,e.may=true) (hs:Fm.sizes l≤4194304){P:Nat→Prop}{w:World}{a:Option Addr}{c:Nat}(h:IsFms P w a l){sep:ByteArray}(hsep:sep.size≤5) :
  Calls Tryz.prog 95 #[.slice a l.length c,.string sep] w fun e w'=>e=.returned (.string ⟨(Fm.units true sep.data.toList l).toArray⟩)∧Ext w w':=by
 have hkl:=Fm.length_le_sizes l
 have hsl:sep.data.toList.length=sep.size:=by simp
 have HU:=Lib.hid (fun (k:Nat) (hk:k<l.length) w' (x:Ext w w') x0 x1 x2 x3 (hi:IsFm P w' x0 x1 x2 x3 l[k])=>zd7 (hT _ (List.getElem_mem hk)) (hm _ (List.getElem_mem hk)) (by have:=Fm.size_le_sizes hk;omega) hi)
 have HL:=Lib.hid (fun k=>zk8 (l.take k) (fun e he=>e.text_len (hm e (List.take_subset _ _ he))) true sep.data.toList (by omega))
 have HSL:=Lib.hid hsl
 clear hsl
 go_enter Tryz.func95,Tryz.ntmps95
 go_wp2_with fail
 go_loopw [5,6] (fun sv iv wr=>∃(k:Nat) (sb:ByteArray),k≤l.length∧iv=.int .i64 k∧sv=.string sb∧sb=⟨(Fm.units true sep.data.toList (l.take k)).toArray⟩∧Ext w wr) (fun _ i _=>l.length-(intOf i).toNat)
 case atStart=>exact⟨0,⟨#[]⟩,Nat.zero_le _,rfl,rfl,rfl,Below.refl _ _⟩
 case round =>
  obtain⟨k,sb,hkk,rfl,rfl,hsb,hxr⟩:=hrel
  have htl:=HL.out k
  have htk:=zr1 l k
  have hsz:sb.size≤60 * Fm.sizes l:=by rw[hsb,zj3];omega
  have Hsb:=Lib.hid hsb;clear hsb
  by_cases hlt:k<l.length
  ·have hk1:(k:Int)<l.length:=by omega
   have Hst:=Lib.hid (zc3 l true sep.data.toList k hlt)
   have hte:=l[k].text_len (hm _ (List.getElem_mem hlt))
   have htu:=zfk l[k].op l[k].text
   have hss:=Fm.size_le_sizes hlt
   obtain⟨b',o',a1,c1,a2,c2,a',c',rfl,-,g1,g2,g3,g4,hi⟩:=(IsFms.ext h hxr).look hlt
   have Hi:=Lib.hid (HU.out k hlt wr hxr _ _ _ _ hi)
   generalize zbe l[k].op l[k].text=ut at *
   have hq2:sb.size+sep.size+ut.length≤9223372036854775807:=by omega
   have hq1:sb.size+sep.size≤9223372036854775807:=by omega
   have hq0:sb.size+ut.length≤9223372036854775807:=by omega
   have hq3:¬ 9223372036854775807<sb.size+sep.size+ut.length:=Nat.not_lt.2 hq2
   clear hi
   by_cases hz:k=0
   ·have hzb:decide ((0:Int)<(k:Nat))=false:=decide_eq_false (by omega)
    have hz2:¬(0:Int)<(k:Nat):=by omega
    have Hcb:=Lib.hid (show(if k=0∧true=true then []else sep.data.toList)=[] by rw[if_pos ⟨hz,rfl⟩])
    clear hz
    go_wp2_with (go_at_call 94;refine(Hi.out).mono ?_;rintro e w2 ⟨rfl,hx2⟩)
    go_roundw
    case rel=>exact⟨k+1,_,by omega,by go_num,rfl,by rw[Hsb.out,Hst.out,Hcb.out];simp only[zn1,List.nil_append],hxr.trans hx2⟩
    case measure=>simp[intOf];omega
   ·have hzb:decide ((0:Int)<(k:Nat))=true:=decide_eq_true (by omega)
    have hz2:(0:Int)<(k:Nat):=by omega
    have Hcb:=Lib.hid (show(if k=0∧true=true then []else sep.data.toList)=sep.data.toList by rw[if_neg (fun h=>hz h.1)])
    clear hz
    go_wp2_with (go_at_call 94;refine(Hi.out).mono ?_;rintro e w2 ⟨rfl,hx2⟩)
    go_roundw
    case rel=>exact⟨k+1,_,by omega,by go_num,rfl,by rw[Hsb.out,Hst.out,Hcb.out];apply ByteArray.ext;simp,hxr.trans hx2⟩
    case measure=>simp[intOf];omega
  ·have hk1:¬(k:Int)<l.length:=by omega
   have hke:k=l.length:=by omega
   have HS:=Lib.hid (show sb=⟨(Fm.units true sep.data.toList l).toArray⟩ by rw[Hsb.out,hke,List.take_length])
   clear hke
   go_wp2_with fail
   go_ret
   exact⟨by rw[←HS.out];rfl,hxr⟩
theorem zy5 {P:Nat→Prop}{w:World}{x y z u:Value}{v:List ByteArray}{t:List Ex}{l:List Fm}(ht:IsFm P w x y z u (.mk 1 v t l)) :
  Calls Tryz.prog 49 #[.agg #[x,y,z,u]] w fun e w'=>e=.returned (.string ⟨(Fm.mk 1 v t l).text.toArray⟩)∧Ext w w':=by
 obtain⟨b1,c1,b2,c2,b3,c3,rfl,rfl,rfl,rfl,-,-,hvc,htc,hlc,hvs,hts,hls⟩:=ht.form
 simp only[Fm.op,Fm.vars,Fm.terms,Fm.args]at hvc htc hlc hvs hts hls ⊢
 obtain⟨W,hW⟩:∃W,W=w.alloc (.cells #[.int .i64 1,.slice b1 v.length c1,.slice b2 t.length c2,.slice b3 l.length c3] 29):=⟨_,rfl⟩
 have hx:Ext w W:=by rw[hW];exact zb _ _
 have hb:Own W w.heap.size [.int .i64 1,.slice b1 v.length c1,.slice b2 t.length c2,.slice b3 l.length c3]:=by rw[hW];exact own4 w _ _ _ _ _
 obtain⟨⟨k0,-⟩,⟨k1,-⟩,⟨k2,-⟩,⟨k3,-⟩⟩:=hb.cells4
 have hbl:=hb.lt
 clear ht
 have HT:=Lib.hid (show(⟨(Fm.mk 1 v t l).text.toArray⟩:ByteArray)=zmm by rw[Fm.text1.1];rfl)
 go_enter Tryz.func49,Tryz.ntmps49
 go_upto_region 1 with fail
 rw[←hW]
 clear hW
 go_wp2
 go_ret
 exact⟨by rw[HT.out];rfl,hx⟩
theorem zy6 {P:Nat→Prop}{w:World}{x y z u:Value}{v:List ByteArray}{t:List Ex}{l:List Fm}(ht:IsFm P w x y z u (.mk 2 v t l)) :
  Calls Tryz.prog 49 #[.agg #[x,y,z,u]] w fun e w'=>e=.returned (.string ⟨(Fm.mk 2 v t l).text.toArray⟩)∧Ext w w':=by
 obtain⟨b1,c1,b2,c2,b3,c3,rfl,rfl,rfl,rfl,-,-,hvc,htc,hlc,hvs,hts,hls⟩:=ht.form
 simp only[Fm.op,Fm.vars,Fm.terms,Fm.args]at hvc htc hlc hvs hts hls ⊢
 obtain⟨W,hW⟩:∃W,W=w.alloc (.cells #[.int .i64 2,.slice b1 v.length c1,.slice b2 t.length c2,.slice b3 l.length c3] 29):=⟨_,rfl⟩
 have hx:Ext w W:=by rw[hW];exact zb _ _
 have hb:Own W w.heap.size [.int .i64 2,.slice b1 v.length c1,.slice b2 t.length c2,.slice b3 l.length c3]:=by rw[hW];exact own4 w _ _ _ _ _
 obtain⟨⟨k0,-⟩,⟨k1,-⟩,⟨k2,-⟩,⟨k3,-⟩⟩:=hb.cells4
 have hbl:=hb.lt
 clear ht
 have HT:=Lib.hid (show(⟨(Fm.mk 2 v t l).text.toArray⟩:ByteArray)=zgk by rw[Fm.text2.1];rfl)
 go_enter Tryz.func49,Tryz.ntmps49
 go_upto_region 1 with fail
 rw[←hW]
 clear hW
 go_wp2
 go_ret
 exact⟨by rw[HT.out];rfl,hx⟩
theorem zy7 {P:Nat→Prop}{w:World}{x y z u:Value}{v:List ByteArray}{t:List Ex}{l:List Fm}(ht:IsFm P w x y z u (.mk 3 v t l)) (h1:t.length=1) (hm:∀x∈t,x.may=true) (hs:Ex.sizes t≤4194304) :
  Calls Tryz.prog 49 #[.agg #[x,y,z,u]] w fun e w'=>e=.returned (.string ⟨(Fm.mk 3 v t l).text.toArray⟩)∧Ext w w':=by
 obtain⟨b1,c1,b2,c2,b3,c3,rfl,rfl,rfl,rfl,-,-,hvc,htc,hlc,hvs,hts,hls⟩:=ht.form
 simp only[Fm.op,Fm.vars,Fm.terms,Fm.args]at hvc htc hlc hvs hts hls ⊢
 obtain⟨W,hW⟩:∃W,W=w.alloc (.cells #[.int .i64 3,.slice b1 v.length c1,.slice b2 t.length c2,.slice b3 l.length c3] 29):=⟨_,rfl⟩
 have hx:Ext w W:=by rw[hW];exact zb _ _
 have hb:Own W w.heap.size [.int .i64 3,.slice b1 v.length c1,.slice b2 t.length c2,.slice b3 l.length c3]:=by rw[hW];exact own4 w _ _ _ _ _
 obtain⟨⟨k0,-⟩,⟨k1,-⟩,⟨k2,-⟩,⟨k3,-⟩⟩:=hb.cells4
 have hbl:=hb.lt
 clear ht
 match t,h1 with
 |[e],_ =>
 have HT:=Lib.hid (show(⟨(Fm.mk 3 v [e] l).text.toArray⟩:ByteArray)=⟨e.text.toArray⟩ by rw[Fm.text3.1];rfl)
 obtain⟨b',o',a',c',rfl,-,g1,g2,g3,hi⟩:=(IsExs.ext hts hx).look (i:=0) (by simp)
 simp only[List.getElem_cons_zero,Nat.zero_mul,Nat.add_zero]at g1 g2 g3 hi
 have hsz:e.size≤4194304:=by simp only[Ex.sizes]at hs;omega
 have HX:=Lib.hid (zbw e (hm e (by simp)) _ W _ _ _ hi hsz)
 clear hi hts
 simp only[List.length_cons,List.length_nil,Nat.zero_add]at hW k2 hb ⊢
 go_enter Tryz.func49,Tryz.ntmps49
 go_upto_region 1 with fail
 rw[←hW]
 clear hW
 go_wp2_with (go_at_call 93;refine(HX.out).mono ?_;rintro e w1 ⟨rfl,hx1⟩)
 go_ret
 exact⟨by rw[HT.out];rfl,hx.trans hx1⟩
theorem zy8 {P:Nat→Prop}{w:World}{x y z u:Value}{v:List ByteArray}{t:List Ex}{l:List Fm}(ht:IsFm P w x y z u (.mk 5 v t l)) (h1:l.length=1) (hT:∀e∈l,zfl e) (hm:∀e∈l,e.may=true) (hs:Fm.sizes l≤4194304) (h4:l.head?.map Fm.op≠some 4) :
  Calls Tryz.prog 49 #[.agg #[x,y,z,u]] w fun e w'=>e=.returned (.string ⟨(Fm.mk 5 v t l).text.toArray⟩)∧Ext w w':=by
 obtain⟨b1,c1,b2,c2,b3,c3,rfl,rfl,rfl,rfl,-,-,hvc,htc,hlc,hvs,hts,hls⟩:=ht.form
 simp only[Fm.op,Fm.vars,Fm.terms,Fm.args]at hvc htc hlc hvs hts hls ⊢
 obtain⟨W,hW⟩:∃W,W=w.alloc (.cells #[.int .i64 5,.slice b1 v.length c1,.slice b2 t.length c2,.slice b3 l.length c3] 29):=⟨_,rfl⟩
 have hx:Ext w W:=by rw[hW];exact zb _ _
 have hb:Own W w.heap.size [.int .i64 5,.slice b1 v.length c1,.slice b2 t.length c2,.slice b3 l.length c3]:=by rw[hW];exact own4 w _ _ _ _ _
 obtain⟨⟨k0,-⟩,⟨k1,-⟩,⟨k2,-⟩,⟨k3,-⟩⟩:=hb.cells4
 have hbl:=hb.lt
 clear ht
 match l,h1 with
 |[g],_ =>
 have HT:=Lib.hid (show(⟨(Fm.mk 5 v t [g]).text.toArray⟩:ByteArray)=⟨#[126,32]⟩++⟨(zbe g.op g.text).toArray⟩ by rw[Fm.text5.1,if_neg h4];simp only[Fm.units,if_true,List.nil_append,List.append_nil];apply ByteArray.ext;simp[bNot])
 obtain⟨b',o',a1,d1,a2,d2,a',c',rfl,-,g1,g2,g3,g4,hi⟩:=(IsFms.ext hls hx).look (i:=0) (by simp)
 simp only[List.getElem_cons_zero,Nat.zero_mul,Nat.add_zero]at g1 g2 g3 g4 hi
 have hsz:g.size≤4194304:=by simp only[Fm.sizes]at hs;omega
 have h4':(g.op==4)=false:=by rw[beq_eq_false_iff_ne];intro h;exact h4 (by simp[h])
 have hlen:=g.text_len (hm g (by simp))
 have hul:=zfk g.op g.text
 have HX:=Lib.hid (zd7 (hT g (by simp)) (hm g (by simp)) hsz hi)
 have hl1:2+(zbe g.op g.text).length≤9223372036854775807:=by omega
 clear hi hls h4
 generalize zbe g.op g.text=ut at *
 simp only[List.length_cons,List.length_nil,Nat.zero_add]at hW k3 hb ⊢
 go_enter Tryz.func49,Tryz.ntmps49
 go_upto_region 1 with fail
 rw[←hW]
 clear hW
 go_wp2_with (go_at_call 94;refine(HX.out).mono ?_;rintro e w1 ⟨rfl,hx1⟩)
 go_ret
 exact⟨by rw[HT.out];rfl,hx.trans hx1⟩
theorem zy9 {P:Nat→Prop}{w:World}{x y z u:Value}{v:List ByteArray}{t:List Ex}{l:List Fm}(ht:IsFm P w x y z u (.mk 6 v t l)) (hT:∀e∈l,zfl e) (hm:∀e∈l,e.may=true) (hs:Fm.sizes l≤4194304) :
  Calls Tryz.prog 49 #[.agg #[x,y,z,u]] w fun e w'=>e=.returned (.string ⟨(Fm.mk 6 v t l).text.toArray⟩)∧Ext w w':=by
 obtain⟨b1,c1,b2,c2,b3,c3,rfl,rfl,rfl,rfl,-,-,hvc,htc,hlc,hvs,hts,hls⟩:=ht.form
 simp only[Fm.op,Fm.vars,Fm.terms,Fm.args]at hvc htc hlc hvs hts hls ⊢
 obtain⟨W,hW⟩:∃W,W=w.alloc (.cells #[.int .i64 6,.slice b1 v.length c1,.slice b2 t.length c2,.slice b3 l.length c3] 29):=⟨_,rfl⟩
 have hx:Ext w W:=by rw[hW];exact zb _ _
 have hb:Own W w.heap.size [.int .i64 6,.slice b1 v.length c1,.slice b2 t.length c2,.slice b3 l.length c3]:=by rw[hW];exact own4 w _ _ _ _ _
 obtain⟨⟨k0,-⟩,⟨k1,-⟩,⟨k2,-⟩,⟨k3,-⟩⟩:=hb.cells4
 have hbl:=hb.lt
 clear ht
 have HT:=Lib.hid (show(⟨(Fm.mk 6 v t l).text.toArray⟩:ByteArray)=⟨(Fm.units true [32,38,32] l).toArray⟩ by rw[(Fm.text6 (by decide) (by decide)).1];rfl)
 have HX:=Lib.hid (zcp (c:=c3) hT hm hs (IsFms.ext hls hx) (sep:=⟨#[32,38,32]⟩) (by decide))
 replace HX:=Lib.hid (show Calls Tryz.prog 95 #[.slice b3 l.length c3,.string ⟨#[32,38,32]⟩] W fun e w'=>e=.returned (.string ⟨(Fm.units true [32,38,32] l).toArray⟩)∧Ext W w' from HX.out)
 clear hls
 go_enter Tryz.func49,Tryz.ntmps49
 go_upto_region 1 with fail
 rw[←hW]
 clear hW
 go_wp2_with (go_at_call 95;refine(HX.out).mono ?_;rintro e w1 ⟨rfl,hx1⟩)
 go_ret
 exact⟨by rw[HT.out];rfl,hx.trans hx1⟩
theorem zza {P:Nat→Prop}{w:World}{x y z u:Value}{v:List ByteArray}{t:List Ex}{l:List Fm}(ht:IsFm P w x y z u (.mk 7 v t l)) (hT:∀e∈l,zfl e) (hm:∀e∈l,e.may=true) (hs:Fm.sizes l≤4194304) :
  Calls Tryz.prog 49 #[.agg #[x,y,z,u]] w fun e w'=>e=.returned (.string ⟨(Fm.mk 7 v t l).text.toArray⟩)∧Ext w w':=by
 obtain⟨b1,c1,b2,c2,b3,c3,rfl,rfl,rfl,rfl,-,-,hvc,htc,hlc,hvs,hts,hls⟩:=ht.form
 simp only[Fm.op,Fm.vars,Fm.terms,Fm.args]at hvc htc hlc hvs hts hls ⊢
 obtain⟨W,hW⟩:∃W,W=w.alloc (.cells #[.int .i64 7,.slice b1 v.length c1,.slice b2 t.length c2,.slice b3 l.length c3] 29):=⟨_,rfl⟩
 have hx:Ext w W:=by rw[hW];exact zb _ _
 have hb:Own W w.heap.size [.int .i64 7,.slice b1 v.length c1,.slice b2 t.length c2,.slice b3 l.length c3]:=by rw[hW];exact own4 w _ _ _ _ _
 obtain⟨⟨k0,-⟩,⟨k1,-⟩,⟨k2,-⟩,⟨k3,-⟩⟩:=hb.cells4
 have hbl:=hb.lt
 clear ht
 have HT:=Lib.hid (show(⟨(Fm.mk 7 v t l).text.toArray⟩:ByteArray)=⟨(Fm.units true [32,124,32] l).toArray⟩ by rw[(Fm.text6 (by decide) (by decide)).1];rfl)
 have HX:=Lib.hid (zcp (c:=c3) hT hm hs (IsFms.ext hls hx) (sep:=⟨#[32,124,32]⟩) (by decide))
 replace HX:=Lib.hid (show Calls Tryz.prog 95 #[.slice b3 l.length c3,.string ⟨#[32,124,32]⟩] W fun e w'=>e=.returned (.string ⟨(Fm.units true [32,124,32] l).toArray⟩)∧Ext W w' from HX.out)
 clear hls
 go_enter Tryz.func49,Tryz.ntmps49
 go_upto_region 1 with fail
 rw[←hW]
 clear hW
 go_wp2_with (go_at_call 95;refine(HX.out).mono ?_;rintro e w1 ⟨rfl,hx1⟩)
 go_ret
 exact⟨by rw[HT.out];rfl,hx.trans hx1⟩
theorem zzb {P:Nat→Prop}{w:World}{x y z u:Value}{v:List ByteArray}{t:List Ex}{l:List Fm}(ht:IsFm P w x y z u (.mk 8 v t l)) (hT:∀e∈l,zfl e) (hm:∀e∈l,e.may=true) (hs:Fm.sizes l≤4194304) :
  Calls Tryz.prog 49 #[.agg #[x,y,z,u]] w fun e w'=>e=.returned (.string ⟨(Fm.mk 8 v t l).text.toArray⟩)∧Ext w w':=by
 obtain⟨b1,c1,b2,c2,b3,c3,rfl,rfl,rfl,rfl,-,-,hvc,htc,hlc,hvs,hts,hls⟩:=ht.form
 simp only[Fm.op,Fm.vars,Fm.terms,Fm.args]at hvc htc hlc hvs hts hls ⊢
 obtain⟨W,hW⟩:∃W,W=w.alloc (.cells #[.int .i64 8,.slice b1 v.length c1,.slice b2 t.length c2,.slice b3 l.length c3] 29):=⟨_,rfl⟩
 have hx:Ext w W:=by rw[hW];exact zb _ _
 have hb:Own W w.heap.size [.int .i64 8,.slice b1 v.length c1,.slice b2 t.length c2,.slice b3 l.length c3]:=by rw[hW];exact own4 w _ _ _ _ _
 obtain⟨⟨k0,-⟩,⟨k1,-⟩,⟨k2,-⟩,⟨k3,-⟩⟩:=hb.cells4
 have hbl:=hb.lt
 clear ht
 have HT:=Lib.hid (show(⟨(Fm.mk 8 v t l).text.toArray⟩:ByteArray)=⟨(Fm.units true [32,61,62,32] l).toArray⟩ by rw[(Fm.text6 (by decide) (by decide)).1];rfl)
 have HX:=Lib.hid (zcp (c:=c3) hT hm hs (IsFms.ext hls hx) (sep:=⟨#[32,61,62,32]⟩) (by decide))
 replace HX:=Lib.hid (show Calls Tryz.prog 95 #[.slice b3 l.length c3,.string ⟨#[32,61,62,32]⟩] W fun e w'=>e=.returned (.string ⟨(Fm.units true [32,61,62,32] l).toArray⟩)∧Ext W w' from HX.out)
 clear hls
 go_enter Tryz.func49,Tryz.ntmps49
 go_upto_region 1 with fail
 rw[←hW]
 clear hW
 go_wp2_with (go_at_call 95;refine(HX.out).mono ?_;rintro e w1 ⟨rfl,hx1⟩)
 go_ret
 exact⟨by rw[HT.out];rfl,hx.trans hx1⟩
theorem zzc {P:Nat→Prop}{w:World}{x y z u:Value}{v:List ByteArray}{t:List Ex}{l:List Fm}(ht:IsFm P w x y z u (.mk 9 v t l)) (hT:∀e∈l,zfl e) (hm:∀e∈l,e.may=true) (hs:Fm.sizes l≤4194304) :
  Calls Tryz.prog 49 #[.agg #[x,y,z,u]] w fun e w'=>e=.returned (.string ⟨(Fm.mk 9 v t l).text.toArray⟩)∧Ext w w':=by
 obtain⟨b1,c1,b2,c2,b3,c3,rfl,rfl,rfl,rfl,-,-,hvc,htc,hlc,hvs,hts,hls⟩:=ht.form
 simp only[Fm.op,Fm.vars,Fm.terms,Fm.args]at hvc htc hlc hvs hts hls ⊢
 obtain⟨W,hW⟩:∃W,W=w.alloc (.cells #[.int .i64 9,.slice b1 v.length c1,.slice b2 t.length c2,.slice b3 l.length c3] 29):=⟨_,rfl⟩
 have hx:Ext w W:=by rw[hW];exact zb _ _
 have hb:Own W w.heap.size [.int .i64 9,.slice b1 v.length c1,.slice b2 t.length c2,.slice b3 l.length c3]:=by rw[hW];exact own4 w _ _ _ _ _
 obtain⟨⟨k0,-⟩,⟨k1,-⟩,⟨k2,-⟩,⟨k3,-⟩⟩:=hb.cells4
 have hbl:=hb.lt
 clear ht
 have HT:=Lib.hid (show(⟨(Fm.mk 9 v t l).text.toArray⟩:ByteArray)=⟨(Fm.units true [32,60,61,62,32] l).toArray⟩ by rw[(Fm.text6 (by decide) (by decide)).1];rfl)
 have HX:=Lib.hid (zcp (c:=c3) hT hm hs (IsFms.ext hls hx) (sep:=⟨#[32,60,61,62,32]⟩) (by decide))
 replace HX:=Lib.hid (show Calls Tryz.prog 95 #[.slice b3 l.length c3,.string ⟨#[32,60,61,62,32]⟩] W fun e w'=>e=.returned (.string ⟨(Fm.units true [32,60,61,62,32] l).toArray⟩)∧Ext W w' from HX.out)
 clear hls
 go_enter Tryz.func49,Tryz.ntmps49
 go_upto_region 1 with fail
 rw[←hW]
 clear hW
 go_wp2_with (go_at_call 95;refine(HX.out).mono ?_;rintro e w1 ⟨rfl,hx1⟩)
 go_ret
 exact⟨by rw[HT.out];rfl,hx.trans hx1⟩
theorem zwi {P:Nat→Prop}{w:World}{x y z u:Value}{v:List ByteArray}{t:List Ex}{l:List Fm}(ht:IsFm P w x y z u (.mk 10 v t l)) (hT:∀e∈l,zfl e) (hm:∀e∈l,e.may=true) (hs:Fm.sizes l≤4194304) :
  Calls Tryz.prog 49 #[.agg #[x,y,z,u]] w fun e w'=>e=.returned (.string ⟨(Fm.mk 10 v t l).text.toArray⟩)∧Ext w w':=by
 obtain⟨b1,c1,b2,c2,b3,c3,rfl,rfl,rfl,rfl,-,-,hvc,htc,hlc,hvs,hts,hls⟩:=ht.form
 simp only[Fm.op,Fm.vars,Fm.terms,Fm.args]at hvc htc hlc hvs hts hls ⊢
 obtain⟨W,hW⟩:∃W,W=w.alloc (.cells #[.int .i64 10,.slice b1 v.length c1,.slice b2 t.length c2,.slice b3 l.length c3] 29):=⟨_,rfl⟩
 have hx:Ext w W:=by rw[hW];exact zb _ _
 have hb:Own W w.heap.size [.int .i64 10,.slice b1 v.length c1,.slice b2 t.length c2,.slice b3 l.length c3]:=by rw[hW];exact own4 w _ _ _ _ _
 obtain⟨⟨k0,-⟩,⟨k1,-⟩,⟨k2,-⟩,⟨k3,-⟩⟩:=hb.cells4
 have hbl:=hb.lt
 clear ht
 have HT:=Lib.hid (show(⟨(Fm.mk 10 v t l).text.toArray⟩:ByteArray)=⟨(Fm.units true [32,60,126,62,32] l).toArray⟩ by rw[(Fm.text6 (by decide) (by decide)).1];rfl)
 have HX:=Lib.hid (zcp (c:=c3) hT hm hs (IsFms.ext hls hx) (sep:=⟨#[32,60,126,62,32]⟩) (by decide))
 replace HX:=Lib.hid (show Calls Tryz.prog 95 #[.slice b3 l.length c3,.string ⟨#[32,60,126,62,32]⟩] W fun e w'=>e=.returned (.string ⟨(Fm.units true [32,60,126,62,32] l).toArray⟩)∧Ext W w' from HX.out)
 clear hls
 go_enter Tryz.func49,Tryz.ntmps49
 go_upto_region 1 with fail
 rw[←hW]
 clear hW
 go_wp2_with (go_at_call 95;refine(HX.out).mono ?_;rintro e w1 ⟨rfl,hx1⟩)
 go_ret
 exact⟨by rw[HT.out];rfl,hx.trans hx1⟩
end Go.Proofs.YtnclgkdpafhogaaGreat
