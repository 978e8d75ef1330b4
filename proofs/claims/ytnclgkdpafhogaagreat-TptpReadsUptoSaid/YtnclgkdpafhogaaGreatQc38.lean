/- The reference's item: chosen. Condition: at most 100000 entries and names.
The reference's item: include, if its loader's read does as readF says. Condition: at most 8001 tokens, 200 entries, 2^20 files. -/
import Derived.Test.YtnclgkdpafhogaaGreatQc33
import Derived.Deep.OwnRows
import Derived.Test.YtnclgkdpafhogaaGreatQc20
set_option maxHeartbeats 16000000
set_option maxRecDepth 100000
namespace Go.Proofs.YtnclgkdpafhogaaGreat
open Go.ChangeShapes Go.WideShapes Go.ChangeAt Go.RowKit
section
variable {m e t B bytes:Nat}{i:TypeInfo}{z:Value}{P Q:Nat→Prop}{w:World}{v:Value}{l:List (List Dat)}{x:List Dat}{cs:List Value}{b o c:Nat}
theorem zlb (ht:Tryz.prog.underlying t=some (.slice e)) (hi:Tryz.prog.info? e=some i) (hz:i.zero=some z) (hsize:i.size=m) (hby:i.bytes=bytes) (hzs:z.cells.size=m) (hsz:0<m)
  (hrow:PRow m e B P w v l) (hf:Dat.Fs Q w cs x) (hcl:cs.length=m) (hc:∀j u,cs[j]?=some u→w.cell? ⟨b,o+j,none⟩=some u) (hQ:∀b,Q b→b<w.heap.size→P b∧v.ownBlock≠some b) (hlen:l.length+1≤8388608) (hbytes:bytes≤1048576) (hbase:B≤w.heap.size) (ty:TypeId) :
  ∃v' w',(Builtin.append_ #[t,t] ty #[v,.slice (some ⟨b,o,none⟩) 1 c]).run Tryz.prog w=.ok v' w'∧PRow m e B P w' v' (l++[x])∧RFr w v w' v':=by
 have hrow':=hrow
 obtain⟨cs0,h1,ho,h3⟩:=hrow
 have k1:[cs].length=[x].length:=rfl
 have k2:∀j (h:j<[cs].length) (h':j<[x].length),Dat.Fs Q w [cs][j] [x][j]:=fun j h h'=>by
  obtain rfl:j=0:=by simp at h;omega
  exact hf
 have k3:∀c∈[cs],c.length=m:=fun c hc=>by rw[List.mem_singleton]at hc;rw[hc];exact hcl
 obtain⟨v',w',hr,g1,g2,-,g4⟩:=run_append_own_at w B t ty e i z m bytes ht hi hz hsize hby hzs hsz v l.length cs0.flatten ho ⟨b,o,none⟩ 1 c [cs].flatten (by simp[hcl]) (fun j u hu=>by rw[zgy];exact hc j u (by simpa using hu)) (Dat.Fs.flat_one k1 k2) (by simp only[maxLen];omega) (by have:=Nat.mul_le_mul hlen hbytes;omega) hbase
 refine⟨v',w',hr,PRow.appended h1 h3 k1 k2 k3 hQ g2 g1 g4,⟨Chg.of_grown g2 (fun g hg=>.inl (by simp[hg])),?_⟩⟩
 rcases g4 with h4|h4
 ·exact .inl h4
 ·exact .inr fun g hg=>by rw[h4]at hg;injection hg with hg;omega
theorem zek (ht:Tryz.prog.underlying t=some (.slice e)) (hi:Tryz.prog.info? e=some i) (hz:i.zero=some z) (hsize:i.size=m) (hby:i.bytes=bytes) (hzs:z.cells.size=m) (hsz:0<m) (hbytes:bytes≤1048576)
  {ops:Array Oper}{rest:List Oper}{q:Oper}{a:Act}{R:Exit→Act→World→Prop}(hgd:q.guard=none) (s y:Operand)
  (hq:q.op=.call { callee:=.builtin .append,args:=#[s,y],argTypes:=#[t,t] }) (hs:a.eval s=v) (hrow:PRow m e B P w v l) (hy:a.eval y=.slice (some ⟨b,o,none⟩) 1 c) (hf:Dat.Fs Q w cs x) (hcl:cs.length=m) (hc:∀j u,cs[j]?=some u→w.cell? ⟨b,o+j,none⟩=some u) (hQ:∀b,Q b→b<w.heap.size→P b∧v.ownBlock≠some b)
  (hlen:l.length+1≤8388608) (hbase:B≤w.heap.size) (hK:∀v' w',PRow m e B P w' v' (l++[x])→RFr w v w' v'→wpList Tryz.prog ops R rest (a.put q.dst v') w'):wpList Tryz.prog ops R (q::rest) a w :=
 wpList_plain hgd fun K hK'=>by
  obtain⟨v',w',hr,h2,h3⟩:=zlb ht hi hz hsize hby hzs hsz hrow hf hcl hc hQ hlen hbytes hbase q.type (c:=c)
  unfold Oper.wp execOp
  simp only[hq,resolve,invoke,builtin,Sem.run_bind,Sem.run_pure,Result.andThen_ok,List.map_toArray,List.map_cons,List.map_nil,hs,hy,hr]
  exact hK' _ _ (hK v' w' h2 h3)
end
section
variable {m e t B B2 bytes:Nat}{i:TypeInfo}{z:Value}{P P2 Q:Nat→Prop}{w:World}{v u:Value}{l M:List (List Dat)}{x:List Dat}{cs:List Value}{b o c:Nat}
theorem zkr (ht:Tryz.prog.underlying t=some (.slice e)) (hi:Tryz.prog.info? e=some i) (hz:i.zero=some z) (hsize:i.size=m) (hby:i.bytes=bytes) (hzs:z.cells.size=m) (hsz:0<m)
  (hrow:PRow m e B P w v l) (hsrc:PRow m e B2 P2 w u M) (hQ:∀b,P2 b→u.ownBlock≠some b→b<w.heap.size→P b∧v.ownBlock≠some b) (hlen:l.length+M.length≤8388608) (hbytes:bytes≤1048576) (hbase:B≤w.heap.size) (ty:TypeId) :
  ∃v' w',(Builtin.append_ #[t,t] ty #[v,u]).run Tryz.prog w=.ok v' w'∧PRow m e B P w' v' (l++M)∧RFr w v w' v':=by
 obtain⟨a,c,rfl,-⟩:=hsrc.form
 cases M with
 |nil=>exact ze9 (Q:=fun _=>False) (M:=[]) ht hi hz hsize hby hzs hsz hrow (b:=a) (c:=c) trivial (fun x hx=>by simp at hx) (fun b hb=>hb.elim) hlen hbytes hbase ty
 |cons x xs =>
  obtain⟨g,cap,-,hv,-⟩:=hsrc.at (j:=0) (by simp)
  injection hv with e1 _ e3
  subst e1
  clear e3
  obtain⟨css,k1,k2,k3⟩:=hsrc
  obtain⟨cs0,h1,ho,h3⟩:=id hrow
  have hl:∀c∈css,c.length=m:=fun c hc=>by
   obtain⟨k,hk,rfl⟩:=List.getElem_of_mem hc
   exact(k3 k (by omega) hk).1
  have hf:∀j (h:j<css.length) (h':j<(x::xs).length),Dat.Fs (fun b=>P2 b∧(Value.slice (some ⟨g,0,none⟩) (x::xs).length c).ownBlock≠some b) w css[j] (x::xs)[j]:=fun j h h'=>(k3 j h' h).2
  obtain⟨v',w',hr,g1,g2,-,g4⟩:=run_append_own_at w B t ty e i z m bytes ht hi hz hsize hby hzs hsz v l.length cs0.flatten ho ⟨g,0,none⟩ (x::xs).length c css.flatten (by rw[zmt hl,k1]) (fun j u hu=>k2.cells (g:=g) rfl j u hu) (Dat.Fs.flat_one k1 hf) (by simp only[maxLen];omega) (by have:=Nat.mul_le_mul hlen hbytes;omega) hbase
  refine⟨v',w',hr,PRow.appended h1 h3 k1 hf hl (fun b hb hlt=>hQ b hb.1 hb.2 hlt) g2 g1 g4,⟨Chg.of_grown g2 (fun g hg=>.inl (by simp[hg])),?_⟩⟩
  rcases g4 with h4|h4
  ·exact .inl h4
  ·exact .inr fun g hg=>by rw[h4]at hg;injection hg with hg;omega
theorem zho (ht:Tryz.prog.underlying t=some (.slice e)) (hi:Tryz.prog.info? e=some i) (hz:i.zero=some z) (hsize:i.size=m) (hby:i.bytes=bytes) (hzs:z.cells.size=m) (hsz:0<m) (hbytes:bytes≤1048576)
  {ops:Array Oper}{rest:List Oper}{q:Oper}{a:Act}{R:Exit→Act→World→Prop}(hgd:q.guard=none) (s y:Operand)
  (hq:q.op=.call { callee:=.builtin .append,args:=#[s,y],argTypes:=#[t,t] }) (hs:a.eval s=v) (hrow:PRow m e B P w v l) (hy:a.eval y=u) (hsrc:PRow m e B2 P2 w u M) (hQ:∀b,P2 b→u.ownBlock≠some b→b<w.heap.size→P b∧v.ownBlock≠some b)
  (hlen:l.length+M.length≤8388608) (hbase:B≤w.heap.size) (hK:∀v' w',PRow m e B P w' v' (l++M)→RFr w v w' v'→wpList Tryz.prog ops R rest (a.put q.dst v') w'):wpList Tryz.prog ops R (q::rest) a w :=
 wpList_plain hgd fun K hK'=>by
  obtain⟨v',w',hr,h2,h3⟩:=zkr ht hi hz hsize hby hzs hsz hrow hsrc hQ hlen hbytes hbase q.type
  unfold Oper.wp execOp
  simp only[hq,resolve,invoke,builtin,Sem.run_bind,Sem.run_pure,Result.andThen_ok,List.map_toArray,List.map_cons,List.map_nil,hs,hy,hr]
  exact hK' _ _ (hK v' w' h2 h3)
end
theorem zyn (n:Nat) (hn:n≤2097152) (w:World):(Instr.makeSlice 109 (.int .i64 (n:Int)) (.int .i64 (n:Int))).run Tryz.prog w=.ok (.slice (some ⟨w.heap.size,0,none⟩) n n) (w.alloc (.cells (madeCells #[.int .i64 0] n) 3)):=by
 obtain⟨i,hi,hz,hs,hb⟩:∃i,Tryz.prog.info? 3=some i∧i.zero=some (.int .i64 0)∧i.size=1∧i.bytes=8:=by
  have h:(Tryz.prog.info? 3).map (fun i=>(i.zero,i.size,i.bytes))=some (some (.int .i64 0),1,8):=by kernel_rfl
  cases h2:Tryz.prog.info? 3 with
  |none=>rw[h2]at h;cases h
  |some i=>rw[h2]at h;simp only[Option.map_some,Option.some.injEq,Prod.mk.injEq]at h;exact⟨i,rfl,h⟩
 have hr:=run_make (P:=Tryz.prog) w 109 3 i _ Tryz.underlying109 hi hz .i64 .i64 n n (by omega) (by omega) (by rw[hb];omega) (by omega)
 simp only[Int.toNat_natCast]at hr
 rw[hs,Nat.mul_one]at hr
 exact hr
theorem zzz {Q:Nat→Prop}{w:World}{a:Option Addr}{l:List Int}(h:Dat.Rows Q w a (intsZ l)){j:Nat}(hj:j<l.length):∃b o,a=some ⟨b,o,none⟩∧Q b∧w.cell? ⟨b,o+j,none⟩=some (.int .i64 l[j]):=by
 have hl:(intsZ l).length=l.length:=by simp[intsZ]
 obtain⟨b,o,rfl,hb⟩:=Dat.Rows.addr h (by omega)
 obtain⟨vs,h1,h2⟩:=Dat.Rows.at (m:=1) h (fun e he=>by obtain⟨x,-,rfl⟩:=List.mem_map.1 he;rfl) (i:=j) (by omega)
 have hd:(intsZ l)[j]'(by omega)=[Dat.int l[j]]:=by simp[intsZ]
 rw[hd]at h2
 have hlen:=h2.length
 match vs,hlen with
 |[x],_ =>
  obtain⟨⟨rfl,-⟩,-⟩:=h2
  have:=h1 0 _ rfl
  simp only[Nat.mul_one,Nat.add_zero]at this
  exact⟨b,o,rfl,hb,this⟩
def cntE (l:List Ent) (k:Nat) (s:ByteArray):Nat:=(l.take k).countP fun x=>decide (x.name=s)
theorem zwx (l:List Ent) (s:ByteArray):cntE l 0 s=0:=by simp[cntE]
theorem zwy {l:List Ent}{k:Nat}(h:k<l.length) (s:ByteArray):cntE l (k+1) s=cntE l k s+if l[k].name=s then 1 else 0:=by
 unfold cntE
 rw[List.take_succ_eq_append_getElem h,List.countP_append,List.countP_singleton]
 by_cases hs:l[k].name=s<;>simp[hs]
theorem zz0 (l:List Ent) (k:Nat) (s:ByteArray):cntE l k s≤l.length:=Nat.le_trans List.countP_le_length (by rw[List.length_take];omega)
theorem zyo (l:List Ent) (s:ByteArray):(cntE l l.length s=0∧(l.any fun x=>decide (x.name=s))=false)∨(cntE l l.length s≠0∧(l.any fun x=>decide (x.name=s))=true):=by
 unfold cntE
 rw[List.take_length]
 cases h:l.any fun x=>decide (x.name=s) with
 |false =>
  refine .inl ⟨List.countP_eq_zero.2 fun x hx=>?_,rfl⟩
  have:=List.any_eq_false.1 h x hx
  exact this
 |true =>
  refine .inr ⟨fun h0=>?_,rfl⟩
  obtain⟨x,hx,hp⟩:=List.any_eq_true.1 h
  exact List.countP_eq_zero.1 h0 x hx hp
def nmAt (L:List (ByteArray×Int)) (j:Nat):ByteArray:=((L[j]?).map Prod.fst).getD ⟨#[]⟩
theorem zwz {L:List (ByteArray×Int)}{j:Nat}(h:j<L.length):nmAt L j=L[j].1:=by simp[nmAt,h]
theorem zse {l:List Ent}{p:Ent→Bool}{k:Nat}(h:k<l.length):(l.take (k+1)).filter p=(l.take k).filter p++if p l[k]=true then [l[k]]else []:=by
 rw[List.take_succ_eq_append_getElem h,List.filter_append]
 by_cases hp:p l[k]=true<;>simp[hp]
def zw0 (lb:Nat) (P:Nat→Prop) (files:List (ByteArray×ByteArray)) (opn:List Nat) (pre:List Ent) (cnt:Nat) (vo va0:Value) (w:World) (res:Out (List Ent)) (e:Ending) (w':World):Prop :=
 Chg (lb::va0.ownBlock.toList) w w'∧match res with
 |.ok m=>e=.returned (.bool true)∧∃va',LSt lb P w' files opn (pre++m) cnt vo va'∧(va'.ownBlock=va0.ownBlock∨∀g,va'.ownBlock=some g→w.heap.size≤g)
 |.flt t=>e=.returned (.bool false)∧LFl lb w' t opn.length
section
variable {lb ib:Nat}{file:Int}{P PN PT:Nat→Prop}{w w1:World}{files:List (ByteArray×ByteArray)}{opn:List Nat}{all pre got:List Ent}{cnt:Nat}{vo va va0:Value}
theorem LSt.put2 {S:List Nat}{v':Value}{new:List Ent}(h:LSt lb P w files opn all cnt vo va) (hc:Chg S w w1) (hS:∀b∈S,lb<b∧vo.ownBlock≠some b) (hr:PRow 7 53 (lb+1) (fun b=>P b∧lb<b∧vo.ownBlock≠some b) w1 v' (new.map Ent.dat)) (hs:∀g,vo.ownBlock=some g→v'.ownBlock≠some g):LSt lb P (w1.setCell ⟨lb,2,none⟩ v') files opn new cnt vo v':=by
 obtain⟨fa,fc,h1,h2,h3,h4,h5,h6⟩:=h
 have hset:Chg [lb] w1 (w1.setCell ⟨lb,2,none⟩ v'):=(Chg.refl [lb] w1).setCell _ (.inl (by simp))
 exact⟨fa,fc,(h1.chg hc (fun hm=>by have:=(hS lb hm).1;omega)).set (i:=2) (by simp) _,h2,Dat.Rows.chg (Dat.Rows.chg h3 hc (fun b hb hm=>by have:=(hS b hm).1;omega)) hset (fun b hb=>by simp;omega),(h4.chg hc (fun i hi=>⟨(hS i hi).2,fun hb=>hb.elim⟩)).chg hset (fun i hi=>⟨fun e=>by have:=(h4.own_ge e).1;simp at hi;omega,fun hb=>hb.elim⟩),hr.chg hset (fun i hi=>⟨fun e=>by have:=(hr.own_ge e).1;simp at hi;omega,fun hb=>by have:=hb.2.1;simp at hi;omega⟩),hs⟩
theorem ztg {B:Nat}{Q:Nat→Prop}{v:Value}{l:List Ent}(h:PRow 7 53 B Q w v (l.map Ent.dat)){j:Nat}(hj:j<l.length) :
  ∃g cap x0 x1 x2 x3,v=.slice (some ⟨g,0,none⟩) l.length cap∧(w.cell? ⟨g,j * 7,none⟩=some (.bool l[j].cnf)∧w.cell? ⟨g,j * 7+1,none⟩=some (.string l[j].name)∧w.cell? ⟨g,j * 7+2,none⟩=some (.string l[j].role)) ∧
   (w.cell? ⟨g,j * 7+3,none⟩=some x0∧w.cell? ⟨g,j * 7+4,none⟩=some x1∧w.cell? ⟨g,j * 7+5,none⟩=some x2∧w.cell? ⟨g,j * 7+6,none⟩=some x3)∧IsEnt (fun b=>Q b∧v.ownBlock≠some b) w x0 x1 x2 x3 l[j]:=by
 obtain⟨g,cap,cs,hv,-,-,-,h1,-,h3⟩:=h.at (j:=j) (by rw[List.length_map];exact hj)
 rw[List.length_map]at hv
 have h2:=h1.2
 rw[List.getElem_map]at h2
 obtain⟨x0,x1,x2,x3,rfl,h4⟩:=IsEnt.of_fs h2
 exact⟨g,cap,x0,x1,x2,x3,hv,⟨h3 0 _ rfl,h3 1 _ rfl,h3 2 _ rfl⟩,⟨h3 3 _ rfl,h3 4 _ rfl,h3 5 _ rfl,h3 6 _ rfl⟩,h4⟩
def z0o (lb ub:Nat) (P:Nat→Prop) (L:List (ByteArray×Int)) (pre got:List Ent) (vo va0:Value) (w:World) (k:Nat) (o:Value) (wr:World):Prop :=
 PRow 7 53 (lb+1) (fun b=>(P b∧lb<b∧vo.ownBlock≠some b)∧b<w.heap.size) wr o ((pre++(got.take k).filter fun x=>inB (L.map Prod.fst) x.name).map Ent.dat)∧(o.ownBlock=va0.ownBlock∨∀g,o.ownBlock=some g→w.heap.size≤g)∧o.ownBlock≠some ub ∧
  wr.rowIs ub 3 L.length (fun j=>.int .i64 (cntE got k (nmAt L j):Nat))∧Chg va0.ownBlock.toList w wr
def zhp (got:List Ent) (L:List (ByteArray×Int)) (k j:Nat) (x:Ent) (q:Nat):Value:=.int .i64 (cntE got k (nmAt L q)+(if q<j∧x.name=nmAt L q then 1 else 0):Nat)
theorem zsf (q:Nat){L:List (ByteArray×Int)}{k:Nat}{x:Ent}:Value.int .i64 (cntE got k (nmAt L q):Nat)=zhp got L k 0 x q:=by simp[zhp]
theorem zyp {L:List (ByteArray×Int)}{k j:Nat}{x:Ent}:zhp got L k j x j=.int .i64 (cntE got k (nmAt L j):Nat):=by simp[zhp]
theorem zw1 {L:List (ByteArray×Int)}{k j:Nat}{x:Ent}(h:x.name=nmAt L j) (q:Nat):(if q=j then Value.int .i64 ((cntE got k (nmAt L j):Nat)+1)else zhp got L k j x q)=zhp got L k (j+1) x q:=by
 by_cases hq:q=j
 ·subst hq;simp[zhp,h]
 ·rw[if_neg hq]
  have:(q<j+1∧x.name=nmAt L q)↔(q<j∧x.name=nmAt L q):=by constructor<;>(rintro⟨a,b⟩;exact⟨by omega,b⟩)
  simp only[zhp,this]
theorem zuz {L:List (ByteArray×Int)}{k j:Nat}{x:Ent}(h:x.name≠nmAt L j) (q:Nat):zhp got L k j x q=zhp got L k (j+1) x q:=by
 have:(q<j+1∧x.name=nmAt L q)↔(q<j∧x.name=nmAt L q):=by
  constructor
  ·rintro⟨a,b⟩
   refine⟨?_,b⟩
   by_cases hq:q=j
   ·subst hq;exact absurd b h
   ·omega
  ·rintro⟨a,b⟩;exact⟨by omega,b⟩
 simp only[zhp,this]
theorem zw2 {L:List (ByteArray×Int)}{k:Nat}{x:Ent}(hs:∀s,cntE got (k+1) s=cntE got k s+if x.name=s then 1 else 0){q:Nat}(hq:q<L.length):zhp got L k L.length x q=.int .i64 (cntE got (k+1) (nmAt L q):Nat):=by
 rw[hs];simp[zhp,hq]
theorem zu0 {L:List (ByteArray×Int)}{na ta:Option Addr}{nc tc:Nat}(hall:all=pre++got) (hL:LSt lb P w files opn all cnt vo va) (h0:w.cell? ⟨ib,0,none⟩=some (.pointer (some ⟨lb,0,none⟩))) (h1:w.cell? ⟨ib,1,none⟩=some (.int .i64 file)) (hil:ib≠lb)
  (hA:PRow 7 53 (lb+1) (fun b=>P b∧lb<b∧vo.ownBlock≠some b) w va0 (pre.map Ent.dat)) (hAP:∀g,va0.ownBlock=some g→(¬P g∧va.ownBlock≠some g)∧vo.ownBlock≠some g∧g≠ib∧¬PN g∧¬PT g)
  (hN:IsStrs PN w na (L.map Prod.fst)) (hT:Dat.Rows PT w ta (intsZ (L.map Prod.snd))) (hPT:∀b,PT b→b≠lb) (hn1:all.length≤100000) (hn2:L.length≤100000) :
  Calls Tryz.prog 160 #[.pointer (some ⟨ib,0,none⟩),va0,.slice na L.length nc,.slice ta L.length tc] w (zw0 lb P files opn pre cnt vo va0 w (zev file (some L) got)):=by
 have hmk:=zyn L.length (by omega)
 have HALL:=Lib.hid hall
 have HLEN:=Lib.hid (show all.length=pre.length+got.length by rw[hall];exact List.length_append)
 have hle0:pre.length≤all.length:=by have:=HLEN.out;omega
 clear hall
 obtain⟨-,av,cv,hv,hcv⟩:=hL.form
 subst hv
 obtain⟨fa,fc,g1,-,-,g4,g5,g6⟩:=id hL
 obtain⟨q2,qf2⟩:=g1 2 _ rfl
 have ltl:=g1.lt
 have lti:=zf h0
 simp only at lti
 have HVO:=Lib.hid (fun g (hg:vo.ownBlock=some g)=>(g4.own_ge hg).2)
 have HAO:=Lib.hid (fun g (hg:va0.ownBlock=some g)=>(hA.own_ge hg))
 have HAP:=Lib.hid hAP
 have HG:=Lib.hid (g5.mono (Q:=fun b=>(P b∧lb<b∧vo.ownBlock≠some b)∧b<w.heap.size) (fun b hb hl=>⟨hb,hl⟩))
 have HR:=Lib.hid (fun (wr:World) (hx:Chg va0.ownBlock.toList w wr)=>(HG.out.chg hx (fun i hi=>⟨(HAP.out i (by simpa using hi)).1.2,fun hb=>absurd hb.1.1 (HAP.out i (by simpa using hi)).1.1⟩):PRow 7 53 (lb+1) (fun b=>(P b∧lb<b∧vo.ownBlock≠some b)∧b<w.heap.size) wr (.slice av all.length cv) (all.map Ent.dat)))
 have HNR:=Lib.hid (fun (wr:World) (hx:Chg va0.ownBlock.toList w wr)=>(Dat.Rows.chg hN hx (fun b hb hm=>(HAP.out b (by simpa using hm)).2.2.2.1 hb):IsStrs PN wr na (L.map Prod.fst)))
 have HTR:=Lib.hid (fun (wr:World) (hx:Chg va0.ownBlock.toList w wr)=>(Dat.Rows.chg hT hx (fun b hb hm=>(HAP.out b (by simpa using hm)).2.2.2.2 hb):Dat.Rows PT wr ta (intsZ (L.map Prod.snd))))
 have HIB:=Lib.hid (fun (wr:World) (hx:Chg va0.ownBlock.toList w wr)=>(And.intro (hx.cell h0 (fun hm=>(HAP.out ib (by simpa using hm)).2.2.1 rfl)) (hx.cell h1 (fun hm=>(HAP.out ib (by simpa using hm)).2.2.1 rfl))))
 have HLB:=Lib.hid (fun (wr:World) (hx:Chg va0.ownBlock.toList w wr)=>(And.intro (hx.cell q2 (fun hm=>by have:=(HAO.out lb (by simpa using hm)).1;omega)) (hx.frozen q2 (fun hm=>by have:=(HAO.out lb (by simpa using hm)).1;omega) qf2)))
 have HL:=Lib.hid hL
 have HA:=Lib.hid hA
 obtain⟨a0,c0,hv0,hc0⟩:=hA.form
 rw[List.length_map]at hv0 hc0
 subst hv0
 clear hL hA hAP g1 g4 g5 g6 hN hT
 obtain⟨V,hV⟩:∃V,V=w.alloc (.cells (madeCells #[.int .i64 0] L.length) 3):=⟨_,rfl⟩
 have eV:Ext w V:=by rw[hV];exact zd _ _
 have hrow0:V.rowIs w.heap.size 3 L.length (fun _=>.int .i64 0):=by rw[hV];exact World.rowIs_made _ _ _ _
 go_enter Tryz.func160,Tryz.ntmps160
 go_upto_region 3 with fail
 rw[←hV]
 clear hV hmk
 obtain⟨ub,hub⟩:∃ub,ub=w.heap.size:=⟨_,rfl⟩
 rw[←hub]at hrow0 ⊢
 have hubw:w.heap.size≤ub:=by omega
 have hua:∀g,(Value.slice a0 pre.length c0).ownBlock=some g→g≠ub:=fun g hg=>by have:=(HAO.out g hg).2;omega
 have hul:ub≠lb:=by omega
 clear hub
 go_wp2_with fail
 go_loopw [11,12] (fun o y wr=>∃i:Nat,pre.length≤i∧i≤all.length∧y=.int .i64 i∧z0o lb ub P L pre got vo (.slice a0 pre.length c0) w (i-pre.length) o wr) (fun _ y _=>all.length-(intOf y).toNat)
 case atStart =>
  refine⟨pre.length,Nat.le_refl _,hle0,rfl,?_,.inl rfl,fun e=>hua ub e rfl,?_,Chg.of_ext eV⟩
  ·rw[Nat.sub_self,List.take_zero,List.filter_nil,List.append_nil]
   exact(HA.out.mono fun b hb hl=>⟨hb,hl⟩).ext eV
  ·rw[Nat.sub_self]
   exact hrow0.congr fun i _=>(by rw[zwx];rfl)
 case round =>
  obtain⟨i,hpi,hia,rfl,hrel⟩:=hrel
  generalize u11=o at hrel ⊢
  generalize wr=wo at *
  obtain⟨k,hk⟩:∃k,k=i-pre.length:=⟨_,rfl⟩
  rw[←hk]at hrel
  have HK:=Lib.hid hk
  clear hk
  obtain⟨hrow,hown,hne,hcnt,hch⟩:=hrel
  by_cases hil2:i<all.length
  ·have hi1:(i:Int)<all.length:=by omega
   have hkg:k<got.length:=by have:=HLEN.out;have:=HK.out;omega
   have HX:=Lib.hid (show all[i]=got[k] by
    have h1:=HALL.out;have h2:=HK.out;subst h1
    rw[List.getElem_append_right hpi]
    simp only[h2])
   have HCS:=Lib.hid (fun s=>zwy hkg s)
   have HFT:=Lib.hid (zse (p:=fun x=>inB (L.map Prod.fst) x.name) hkg)
   have HCL:=Lib.hid (fun s=>zz0 got k s)
   have hgl:got.length≤100000:=by have:=HLEN.out;omega
   generalize got[k]=x at HX HCS HFT
   go_wp2_with fail
   go_loopw [13,14] (fun kp y wr=>∃j:Nat,j≤L.length∧y=.int .i64 j∧kp=.bool (inB ((L.map Prod.fst).take j) x.name)∧wr.rowIs ub 3 L.length (zhp got L k j x)∧Chg [ub] wo wr∧Chg (Value.slice a0 pre.length c0).ownBlock.toList w wr) (fun _ y _=>L.length-(intOf y).toNat)
   case atStart=>exact⟨0,Nat.zero_le _,rfl,by simp[inB],hcnt.congr fun q _=>zsf q,Chg.refl _ _,hch⟩
   case round =>
    obtain⟨j,hj,rfl,hkp,hcnt2,hch2,hchw⟩:=hrel
    generalize u13=kp at hkp ⊢
    subst hkp
    have hul2:=hcnt2.lt
    by_cases hjl:j<L.length
    ·have hj1:(j:Int)<L.length:=by omega
     obtain⟨g,cap,x0,x1,x2,x3,hvg,⟨-,m1,-⟩,-,-⟩:=ztg (HR.out wr hchw) hil2
     injection hvg with e1 _ e3
     subst e1
     clear e3
     rw[HX.out]at m1
     obtain⟨sb,so,rfl,-,s0,-⟩:=IsStrs.look (HNR.out wr hchw) (i:=j) (by rw[List.length_map];exact hjl)
     rw[List.getElem_map]at s0
     have hnm:=Lib.hid (zwz hjl)
     have u0:wr.cell? ⟨ub,j,none⟩=some (.int .i64 (cntE got k (nmAt L j):Nat)):=by rw[hcnt2.cell hjl,zyp]
     have uf0:=hcnt2.frozen j
     have hcl:=HCL.out (nmAt L j)
     have HIT:=Lib.hid (zsm (l:=L.map Prod.fst) (k:=j) (by rw[List.length_map];exact hjl) x.name)
     obtain⟨c,hc⟩:∃c,c=cntE got k (nmAt L j):=⟨_,rfl⟩
     rw[←hc]at u0 hcl
     have HC:=Lib.hid hc
     clear hc
     by_cases he:x.name=L[j].1
     ·have q1:(x.name.toList==L[j].1.toList)=true:=ze4 he
      have HEQ:=Lib.hid he
      clear he
      go_wp2_with fail
      go_quiet (fail)
      obtain⟨V2,hV2⟩:∃V2,V2=wr.drewN nq:=⟨_,rfl⟩
      have eV2:Ext wr V2:=by rw[hV2];exact Ext.drewN (Below.refl _ _) _
      have hcnt5:=hcnt2.of_block (eV2.block ub hul2)
      replace u0:=eV2.cell u0
      replace uf0:=hcnt5.frozen j
      have hul3:=hcnt5.lt
      rw[←hV2]
      clear hV2
      go_wp2_with fail
      go_roundw
      case rel=>exact⟨j+1,by omega,by go_num,by rw[HIT.out,List.getElem_map,←HEQ.out];simp,(hcnt5.set j _).congr fun q _=>by rw[←zw1 (HEQ.out.trans hnm.out.symm) q,←HC.out],(hch2.trans (Chg.of_ext eV2)).setCell _ (.inl (by simp)),(hchw.trans (Chg.of_ext eV2)).setCell _ (.inr hubw)⟩
      case measure=>simp[intOf];omega
     ·have q1:(x.name.toList==L[j].1.toList)=false:=ze3 he
      have HNE:=Lib.hid he
      clear he
      go_wp2_with fail
      go_quiet (fail)
      obtain⟨V2,hV2⟩:∃V2,V2=wr.drewN nq:=⟨_,rfl⟩
      have eV2:Ext wr V2:=by rw[hV2];exact Ext.drewN (Below.refl _ _) _
      have hcnt5:=hcnt2.of_block (eV2.block ub hul2)
      replace u0:=eV2.cell u0
      replace uf0:=hcnt5.frozen j
      have hul3:=hcnt5.lt
      rw[←hV2]
      clear hV2
      go_wp2_with fail
      go_roundw
      case rel=>exact⟨j+1,by omega,by go_num,by rw[HIT.out,List.getElem_map,decide_eq_false (fun h=>HNE.out h.symm),Bool.or_false],hcnt5.congr fun q _=>zuz (fun h=>HNE.out (h.trans hnm.out)) q,hch2.trans (Chg.of_ext eV2),hchw.trans (Chg.of_ext eV2)⟩
      case measure=>simp[intOf];omega
    ·have hj1:¬(j:Int)<L.length:=by omega
     obtain rfl:j=L.length:=by omega
     rw[show(L.map Prod.fst).take L.length=L.map Prod.fst from by rw[←List.length_map (f:=Prod.fst),List.take_length]]
     have hcnt3:wr.rowIs ub 3 L.length (fun q=>.int .i64 (cntE got (k+1) (nmAt L q):Nat)):=hcnt2.congr fun q hq=>zw2 HCS.out hq
     have hrow2:=hrow.chg hch2 (fun i hi=>by
      simp at hi;subst hi
      exact⟨hne,fun hb=>by have:=hb.2;omega⟩)
     have HKK:=Lib.hid (show i+1-pre.length=k+1 by have:=HK.out;omega)
     cases hb:inB (L.map Prod.fst) x.name with
     |false =>
      rw[hb]at HFT
      clear hb
      go_wp2_with fail
      go_roundw
      case rel =>
       refine⟨i+1,by omega,by omega,by go_num,?_⟩
       rw[HKK.out]
       exact⟨by rw[HFT.out,if_neg (by decide),List.append_nil];exact hrow2,hown,hne,hcnt3,hchw⟩
      case measure=>simp[intOf];omega
     |true =>
      rw[hb]at HFT
      clear hb
      obtain⟨i0,hi0,hz0,hz1',hz2'⟩:=info_parts zkh
      obtain⟨g,cap,x0,x1,x2,x3,hvg,⟨m0,m1,m2⟩,⟨m3,m4,m5,m6⟩,hent⟩:=ztg (HR.out wr hchw) hil2
      injection hvg with e1 _ e3
      subst e1
      clear e3
      rw[HX.out]at m0 m1 m2 hent
      have hflt:((got.take k).filter fun x=>inB (L.map Prod.fst) x.name).length≤got.length:=Nat.le_trans (List.length_filter_le _ _) (by rw[List.length_take];omega)
      have HML:=Lib.hid (show((pre++(got.take k).filter fun x=>inB (L.map Prod.fst) x.name).map Ent.dat).length≤all.length by rw[List.length_map,List.length_append];have:=HLEN.out;omega)
      have hrs2:=hchw.size
      have HOW:=Lib.hid (fun b (hb:b<w.heap.size) (hP:P b) (e:o.ownBlock=some b)=>by
       rcases hown with h|h
       ·exact(HAP.out b (by rw[←h];exact e)).1.1 hP
       ·have:=h b e;omega)
      go_wp2_with (at_builtin;refine zek (m:=7) (B:=lb+1) (P:=fun b=>(P b∧lb<b∧vo.ownBlock≠some b)∧b<w.heap.size) (Q:=fun b=>(P b∧lb<b∧vo.ownBlock≠some b)∧b<w.heap.size) (v:=o) (x:=x.dat) (cs:=[.bool x.cnf,.string x.name,.string x.role,x0,x1,x2,x3]) (l:=(pre++(got.take k).filter fun x=>inB (L.map Prod.fst) x.name).map Ent.dat) Tryz.underlying45 hi0 hz0 hz1' hz2' rfl (by decide) (by decide) rfl _ _ rfl rfl (hrow2.ext (zd _ _)) rfl (Dat.Fs.ext (Dat.Fs.mono hent.fs fun b hb _=>hb.1) (zd _ _)) rfl (fun j u hu=>(by have:=(zaq wr #[.bool x.cnf,.string x.name,.string x.role,x0,x1,x2,x3] 53 j u hu).1;rw[Nat.zero_add];exact this)) (fun b hb _=>⟨hb,HOW.out b hb.2 hb.1.1⟩) (by have:=HML.out;omega) (by rw[World.size_alloc];omega) ?_;intro v3 w3 hrow3 hfr3)
      go_roundw
      case rel =>
       have hfar:∀g,v3.ownBlock=some g→o.ownBlock=some g∨wr.heap.size≤g:=fun g hg=>by
        rcases hfr3.own with h|h
        ·exact .inl (by rw[←h];exact hg)
        ·have:=h g hg;rw[World.size_alloc]at this;exact .inr (by omega)
       refine⟨i+1,by omega,by omega,by go_num,?_⟩
       rw[HKK.out]
       refine⟨by rw[HFT.out,if_pos rfl,←List.append_assoc,List.map_append];exact hrow3,?_,fun e=>?_,?_,?_⟩
       ·rcases hfr3.own with h|h
        ·rcases hown with h2|h2
         ·exact .inl (h.trans h2)
         ·exact .inr fun g hg=>h2 g (by rw[←h];exact hg)
        ·exact .inr fun g hg=>by have:=h g hg;rw[World.size_alloc]at this;omega
       ·rcases hfar ub e with h|h
        ·exact hne h
        ·omega
       ·exact(hcnt3.alloc _).of_block (hfr3.chg.block ub (by rw[World.size_alloc];omega) (fun hm=>hne (by simpa using hm)))
       ·refine Chg.drop (Below.refl _ _) (S:=(Value.slice a0 pre.length c0).ownBlock.toList++o.ownBlock.toList) (((hchw.alloc _).mono (fun i hi=>List.mem_append_left _ hi)).trans (hfr3.chg.mono (fun i hi=>List.mem_append_right _ hi))) fun i hi=>?_
        rcases List.mem_append.1 hi with h|h
        ·exact .inl h
        ·rcases hown with h2|h2
         ·exact .inl (by rw[←h2];exact h)
         ·exact .inr (h2 i (by simpa using h))
      case measure=>simp[intOf];omega
  ·have hi1:¬(i:Int)<all.length:=by omega
   have hkg:k=got.length:=by have:=HLEN.out;have:=HK.out;omega
   rw[hkg]at hrow hcnt
   rw[List.take_length]at hrow
   clear hkg HK
   obtain⟨i0',-⟩:=HIB.out wo hch
   obtain⟨q2',qf2'⟩:=HLB.out wo hch
   have ltl2:=zf q2'
   have lti2:=zf i0'
   simp only at ltl2 lti2
   obtain⟨ao,co,hvo,hco⟩:=hrow.form
   subst hvo
   generalize hnn:((pre++got.filter fun x=>inB (L.map Prod.fst) x.name).map Ent.dat).length=nn at *
   clear hnn
   go_upto_region 17 with fail
   obtain⟨W2,hW2⟩:∃W2,W2=wo.setCell ⟨lb,2,none⟩ (.slice ao nn co):=⟨_,rfl⟩
   have hset:Chg [lb] wo W2:=by rw[hW2];exact(Chg.refl [lb] wo).setCell _ (.inl (by simp))
   have hcnt4:W2.rowIs ub 3 L.length (fun j=>.int .i64 (cntE got got.length (nmAt L j):Nat)):=by rw[hW2];exact hcnt.setOther hul _
   have hLS:LSt lb P W2 files opn (pre++got.filter fun x=>inB (L.map Prod.fst) x.name) cnt vo (.slice ao nn co):=by
    rw[hW2]
    refine HL.out.put2 hch (fun b hb=>⟨by have:=(HAO.out b (by simpa using hb)).1;omega,(HAP.out b (by simpa using hb)).2.1⟩) (hrow.mono fun b hb _=>hb.1) fun g hg e=>?_
    rcases hown with h|h
    ·exact(HAP.out g (by rw[←h];exact e)).2.1 hg
    ·have:=h g e;have:=HVO.out g hg;omega
   have hCW:Chg (lb::(Value.slice a0 pre.length c0).ownBlock.toList) w W2:=(hch.mono (fun i hi=>List.mem_cons_of_mem _ hi)).trans (hset.mono (fun i hi=>by rw[List.mem_singleton]at hi;rw[hi];exact List.mem_cons_self))
   have i0W:=hset.cell i0' (by simpa using hil)
   have i1W:=hset.cell (HIB.out wo hch).2 (by simpa using hil)
   have HTW:=Lib.hid (Dat.Rows.chg (HTR.out wo hch) hset (fun b hb=>by simpa using hPT b hb))
   rw[←hW2]
   clear hW2 hset q2' qf2' hrow hcnt i0' HIB HLB HTR HNR HR hch
   go_wp2_with fail
   go_loopw [15] (fun y wr=>∃k:Nat,k≤L.length∧y=.int .i64 k∧Ext W2 wr∧(L.take k).all (fun p=>got.any fun x=>decide (x.name=p.1))=true) (fun y _=>L.length-(intOf y).toNat)
   case atStart=>exact⟨0,Nat.zero_le _,rfl,Below.refl _ _,rfl⟩
   case round =>
    obtain⟨k,hk,rfl,hxr,hallk⟩:=hrel
    have HALK:=Lib.hid hallk
    clear hallk
    have hxrs:=hxr.size
    by_cases hkl:k<L.length
    ·have hk1:(k:Int)<L.length:=by omega
     have u0:wr.cell? ⟨ub,k,none⟩=some (.int .i64 (cntE got got.length (nmAt L k):Nat)):=hxr.cell (hcnt4.cell hkl)
     rw[zwz hkl]at u0
     have HST:=Lib.hid (zi1 (p:=fun p:ByteArray×Int=>got.any fun x=>decide (x.name=p.1)) hkl)
     rcases zyo got L[k].1 with ⟨h1,h2⟩|⟨h1,h2⟩
     ·rw[h1]at u0
      have HMISS:=Lib.hid (zkk (file:=file) hkl HALK.out h2)
      obtain⟨tb,tob,rfl,-,t0⟩:=zzz (Dat.Rows.ext HTW.out hxr) (j:=k) (by rw[List.length_map];exact hkl)
      rw[List.getElem_map]at t0
      have j0:=hxr.cell i0W
      have j1:=hxr.cell i1W
      have lj:=zf j0
      simp only at lj
      have HFL:=Lib.hid (fun (S:World) (hx:Ext W2 S)=>zcp (file:=file) (hLS.ext hx) (at':=L[k].2) (e0:=244) (by decide))
      generalize L[k].2=lk at *
      clear h1 h2
      go_upto_region 21 with fail
      go_still_tail 12,(by kernel_rfl)
      change wpList _ _ _ _ _ wr.drew
      go_wp2_with (go_at_call 114;refine(HFL.out _ (hxr.trans (Ext.drew (Below.refl _ _)))).mono ?_;rintro e w5 ⟨rfl,h5,hx5⟩)
      go_ret
      rw[HMISS.out]
      exact⟨(hCW.trans (Chg.of_ext (hxr.trans (Ext.drew (Below.refl _ _))))).trans (hx5.mono (by simp)),rfl,h5⟩
     ·obtain⟨c,hc⟩:∃c,c=cntE got got.length L[k].1:=⟨_,rfl⟩
      rw[←hc]at u0 h1
      have hq:((c:Int)==0)=false:=by rw[beq_eq_false_iff_ne];omega
      have HA2:=Lib.hid h2
      clear hc h1 h2
      go_wp2_with fail
      go_roundw
      case rel=>exact⟨k+1,by omega,by go_num,hxr,by rw[HST.out,HALK.out,HA2.out];rfl⟩
      case measure=>simp[intOf];omega
    ·have hk1:¬(k:Int)<L.length:=by omega
     have hke:k=L.length:=by omega
     have HCH:=Lib.hid (zl4 (file:=file) (l:=got) (L:=L) (by have:=HALK.out;rw[hke,List.take_length]at this;exact this))
     clear hke
     go_wp2_with fail
     go_ret
     rw[HCH.out]
     exact⟨hCW.trans (Chg.of_ext hxr),rfl,_,hLS.ext hxr,hown⟩
end
def RdIP (lb:Nat) (P:Nat→Prop) (files:List (ByteArray×ByteArray)) (opn:List Nat) (all:List Ent) (vo va:Value) (w:World) (res:Out (List Ent×Nat)) (e:Ending) (w':World):Prop :=
 e=.returned (.tuple #[])∧Chg (lb::(vo.ownBlock.toList++va.ownBlock.toList)) w w'∧match res with
 |.ok x=>∃vo' va',LSt lb (fun b=>P b∨w.heap.size≤b) w' files opn (all++x.1) x.2 vo' va'∧Moved w vo vo'∧Moved w va va'
 |.flt t=>LFl lb w' t opn.length
def IncIP (lb zb ib:Nat) (file:Int) (l:List Tok) (P:Nat→Prop) (files:List (ByteArray×ByteArray)) (opn:List Nat) (all:List Ent) (vo va:Value) (w:World) (res:Out ((List Ent×Nat)×List Tok)) (e:Ending) (w':World):Prop :=
 Chg (ib::lb::(vo.ownBlock.toList++va.ownBlock.toList)) w w'∧match res with
 |.ok x=>e=.returned (.bool true)∧ISt lb zb file ib l w' (.ok () x.2)∧∃vo' va',LSt lb (fun b=>P b∨w.heap.size≤b) w' files opn (all++x.1.1) x.1.2 vo' va'∧Moved w vo vo'∧Moved w va va'
 |.flt t=>e=.returned (.bool false)∧LFl lb w' t opn.length
section
variable {lb zb ib:Nat}{file:Int}{l:List Tok}{P:Nat→Prop}{w w1:World}{files:List (ByteArray×ByteArray)}{opn:List Nat}{all:List Ent}{cnt:Nat}{vo va:Value}
theorem IncIP.bad {res:Out ((List Ent×Nat)×List Tok)}{t:Flt}{w':World}(hr:res=.flt t) (h:LFl lb w' t opn.length) (hx:Chg [ib,lb] w w'):IncIP lb zb ib file l P files opn all vo va w res (.returned (.bool false)) w':=by
 subst hr
 exact⟨hx.mono (by simp),rfl,h⟩
theorem LSt.count (h:LSt lb P w files opn all cnt vo va) (c:Nat){z:Int}(hz:z=c):LSt lb P (w.setCell ⟨lb,3,none⟩ (.int .i64 z)) files opn all c vo va:=by
 subst hz
 obtain⟨fa,fc,h1,h2,h3,h4,h5,h6⟩:=h
 have hset:Chg [lb] w (w.setCell ⟨lb,3,none⟩ (.int .i64 c)):=(Chg.refl [lb] w).setCell _ (.inl (by simp))
 exact⟨fa,fc,h1.set (i:=3) (by simp) _,h2,Dat.Rows.chg h3 hset (fun b hb=>by simp;omega),h4.chg hset (fun i hi=>⟨fun e=>by have:=(h4.own_ge e).1;simp at hi;omega,fun hb=>hb.elim⟩),h5.chg hset (fun i hi=>⟨fun e=>by have:=(h5.own_ge e).1;simp at hi;omega,fun hb=>by have:=hb.2.1;simp at hi;omega⟩),h6⟩
theorem LSt.open' {v':Value}{o':List Nat}(h:LSt lb P w files opn all cnt vo va) (hr:PRow 1 3 (lb+1) (fun _=>False) w1 v' (zko o')) (hf:RFr w vo w1 v'):LSt lb P (w1.setCell ⟨lb,1,none⟩ v') files o' all cnt v' va:=by
 obtain⟨fa,fc,h1,h2,h3,h4,h5,h6⟩:=h
 have hn:∀i∈vo.ownBlock.toList,lb<i:=fun i hi=>by have:=(h4.own_ge (g:=i) (by simpa using hi)).1;omega
 have hc:Chg [lb] w1 (w1.setCell ⟨lb,1,none⟩ v'):=(Chg.refl [lb] w1).setCell _ (.inl (by simp))
 have h5':PRow 7 53 (lb+1) (fun b=>(P b∧lb<b∧vo.ownBlock≠some b)∧v'.ownBlock≠some b) w va (all.map Ent.dat):=h5.mono fun b hb hl=>⟨hb,fun e=>by
  rcases hf.own with h|h
  ·exact hb.2.2 (by rw[←h];exact e)
  ·have:=h b e;omega⟩
 refine⟨fa,fc,(h1.chg hf.chg (fun hm=>by have:=hn lb hm;omega)).set (i:=1) (by simp) _,h2,Dat.Rows.chg (Dat.Rows.chg h3 hf.chg (fun b hb hm=>by have:=hn b hm;omega)) hc (fun b hb=>by simp;omega),hr.chg hc (fun i hi=>⟨fun e=>by have:=(hr.own_ge e).1;simp at hi;omega,fun hb=>hb.elim⟩),
  ((h5'.chg hf.chg (fun i hi=>⟨fun e=>h6 i (by simpa using hi) e,fun hb=>absurd (by simpa using hi) hb.1.2.2⟩)).chg hc (fun i hi=>⟨fun e=>by have:=(h5.own_ge e).1;simp at hi;omega,fun hb=>by have:=hb.1.2.1;simp at hi;omega⟩)).mono (fun b hb _=>⟨hb.1.1,hb.1.2.1,hb.2⟩),fun g hg he=>?_⟩
 rcases hf.own with h|h
 ·exact h6 g (by rw[←h];exact hg) he
 ·have:=h g hg;have:=(h5.own_ge he).2;omega
theorem PRow.cut {m e B n k:Nat}{Q:Nat→Prop}{a:Option Addr}{c:Nat}{M:List (List Dat)}(h:PRow m e B Q w (.slice a n c) M) (hk:k≤M.length):PRow m e B Q w (.slice a k c) (M.take k):=by
 obtain⟨a0,c0,hv0,-⟩:=h.form
 injection hv0 with e1 e2 e3
 subst e1;subst e2;subst e3
 rcases Nat.eq_zero_or_pos M.length with h0|h0
 ·have:M=[]:=List.eq_nil_of_length_eq_zero h0
  subst this
  simp at hk
  subst hk
  exact h
 ·obtain⟨g,cap,-,hv,-⟩:=h.at h0
  injection hv with e1 _ e3
  subst e1;subst e3
  obtain⟨cs,h1,h2,h3⟩:=h
  have hl:∀c∈cs,c.length=m:=by
   intro c hc
   obtain⟨k,hk,rfl⟩:=List.getElem_of_mem hc
   exact(h3 k (by omega) hk).1
  have hlen:(M.take k).length=k:=by rw[List.length_take];omega
  refine⟨cs.take k,by rw[List.length_take,List.length_take];omega,?_,fun j hj hj'=>?_⟩
  ·rw[hlen,←zd1 cs k hl (by omega)]
   exact zsy h2 hk
  ·rw[List.getElem_take,List.getElem_take]
   exact h3 j (by rw[hlen]at hj;omega) (by rw[List.length_take]at hj';omega)
theorem LFl.cut {t:Flt}{k:Nat}(h:LFl lb w t (k+1)):∃a c,w.cell? ⟨lb,1,none⟩=some (.slice a ((k+1:Nat):Nat) c)∧w.frozen? ⟨lb,1,none⟩=false∧k+1≤c∧lb<w.heap.size∧w.cell? ⟨lb,5,none⟩=some (.int .i64 t.at')∧w.cell? ⟨lb,6,none⟩=some (.int .i64 t.e)∧t.e≠0∧∀w',Ext w w'→LFl lb (w'.setCell ⟨lb,1,none⟩ (.slice a k c)) t k:=by
 obtain⟨fv,a,c,va,cv,h1,h2,h3⟩:=h
 obtain⟨c1,f1⟩:=h1 1 _ rfl
 exact⟨a,c,c1,f1,h2,h1.lt,(h1 5 _ rfl).1,(h1 6 _ rfl).1,h3,fun w' hx=>⟨fv,a,c,va,cv,(h1.ext hx).set (i:=1) (by simp) _,by omega,h3⟩⟩
end
theorem NamesP.good {lb zb ib k:Nat}{file:Int}{l r:List Tok}{w w':World}{ns:Option (List (ByteArray×Int))}{e:Ending}(h:NamesP lb zb ib file l k w (.ok ns r) e w') :
  ∃vl vt,e=.returned (.tuple #[vl,vt,.bool ns.isSome,.bool true])∧(∀NS,ns=some NS→StrRow w.heap.size w' vl (NS.map Prod.fst)∧PRow 1 3 w.heap.size (fun _=>False) w' vt (intsZ (NS.map Prod.snd)))∧ISt lb zb file ib l w' (.ok () r)∧Chg [ib] w w':=by
 cases ns with
 |none=>obtain⟨h1,h2,h3⟩:=h;exact⟨_,_,h1,(fun NS h=>by cases h),h2,h3⟩
 |some NS =>
  obtain⟨⟨vl,vt,h1,h2,h3,-⟩,h4,h5⟩:=h
  exact⟨vl,vt,h1,(fun N h=>by injection h with h;subst h;exact⟨h2,h3⟩),h4,h5⟩
theorem NamesP.wrong {lb zb ib k:Nat}{file:Int}{l r:List Tok}{w w':World}{e:Ending}(h:NamesP lb zb ib file l k w (.bad r) e w') :
  (∃vl vt,e=.returned (.tuple #[vl,vt,.bool true,.bool false]))∧LFl lb w' (zcr l file r) k∧Chg [ib,lb] w w':=h
theorem PRow.strsF {e B:Nat}{P:Nat→Prop}{w:World}{v:Value}{l:List ByteArray}(h:PRow 1 e B P w v (l.map fun s=>[Dat.str s])):PRow 1 e B (fun _=>False) w v (l.map fun s=>[Dat.str s]):=by
 obtain⟨cs,h1,h2,h3⟩:=h
 refine⟨cs,h1,h2,fun j hj hj'=>⟨(h3 j hj hj').1,?_⟩⟩
 have h4:=(h3 j hj hj').2
 have hd:(l.map fun s=>[Dat.str s])[j]=[Dat.str (l[j]'(by rw[List.length_map]at hj;exact hj))]:=by simp
 rw[hd]at h4 ⊢
 match cs[j],h4 with
 |[c],h4=>exact h4
theorem zqa (a:Option Addr) (n m c:Nat) (hm:m≤c) (w:World):(Instr.slice 109 (.slice a n c) none (some (.int .i64 (m:Int))) none).run Tryz.prog w=.ok (.slice a m c) w:=by
 have h1:((m:Nat):Int)≤(c:Int):=by omega
 cases a with
 |none=>simp[Instr.slice,run_underlying (Tryz.underlying109),Instr.sliceBounds,run_sliceBound,h1]
 |some a =>
  simp[Instr.slice,run_underlying (Tryz.underlying109),Instr.sliceBounds,run_sliceBound,h1]
  intro _
  cases a
  simp[Addr.add]
theorem zfv (a:Option Addr) (n m c:Nat):(Value.slice a n c).ownBlock=(Value.slice a m c).ownBlock:=by cases a<;>rfl
theorem zl6 (o:List Nat) (i:Nat):zko (o++[i])=zko o++[[Dat.int (i:Int)]]:=by simp[zko]
section
variable {lb zb ib:Nat}{file:Int}{l:List Tok}{P:Nat→Prop}{w w1:World}{files:List (ByteArray×ByteArray)}{opn:List Nat}{all:List Ent}{cnt:Nat}{vo va:Value}
theorem zqb (hl:l.length≤8001) (hE:Ends l) (hfl:files.length≤1048576){ks:List Tok}{u:Unit}(_hEk:Ends ks) (ha:Ap lb zb ib P w vo va) (h:ISt lb zb file ib l w (.ok u ks)) (hL:LSt lb P w files opn all cnt vo va) (hall:all.length≤200) (hcnt:cnt≤200) (hop:opn.length≤1048576)
  {rd:Nat→Nat→Nat→Out (List Ent×Nat)}(hrl:∀(i n c:Nat) (x:List Ent×Nat),n≤200→rd i n c=.ok x→n+x.1.length≤200)
  (hrd:∀(i:Nat) (hi:i<files.length),i∉opn→cnt+1≤200→∀(P':Nat→Prop) (w':World) (vo' va':Value),LSt lb P' w' files (opn++[i]) all (cnt+1) vo' va'→Calls Tryz.prog 63 #[.pointer (some ⟨lb,0,none⟩),.int .i64 i,.string files[i].2] w' (RdIP lb P' files (opn++[i]) all vo' va' w' (rd i all.length (cnt+1)))) :
  Calls Tryz.prog 116 #[.pointer (some ⟨ib,0,none⟩)] w (IncIP lb zb ib file l P files opn all vo va w (incR rd files (fun k=>decide (k∈opn)) l file all.length cnt ks)):=by
 have h0:=hE.pos
 have hl2:l.length≤1073741824:=by omega
 have hl3:l.length≤8388600:=by omega
 have HMU:=Lib.hid (fun (S:World) (r:List Tok) (hm:ISt lb zb file ib l S (.ok () r)) (hx:Chg [ib] w S) (s:ByteArray)=>znf hl2 h0 (ha.grow hx.size) hm (hL.chg hx ha.item) s)
 have HNA:=Lib.hid (fun (S:World) (r:List Tok) (hm:ISt lb zb file ib l S (.ok () r)) (hx:Chg [ib] w S)=>zwo hl3 h0 (ha.grow hx.size) hm (hL.chg hx ha.item))
 have hlt:=ha.h5
 have HH:=Lib.hid h
 unfold Fine at HMU
 have ksuf:ks <:+ l:=by obtain⟨_,_,_,-,-,-,hs,-⟩:=h.good;exact hs
 have HRD:=Lib.hid hrd
 have HRL:=Lib.hid hrl
 clear hrd hrl
 go_enter Tryz.func116,Tryz.ntmps116
 go_upto_region 1 with fail
 have HM1:=Lib.hid (HMU.out w ks HH.out (Chg.refl _ _) za6)
 rcases zav (zl za6 ks)with ⟨r1,hq1⟩|⟨u1,r1,hq1⟩
 ·have HE:=Lib.hid (zb3 (rd:=rd) (files:=files) (opn:=fun k=>decide (k∈opn)) (l:=l) (file:=file) (n:=all.length) (cnt:=cnt) (zpv hq1))
  simp only[hq1,Rd.isOk]at HM1
  simp only[za6]at HM1
  clear hq1
  go_wp2_with (go_at_call 155;refine(HM1.out).mono ?_;rintro e w1 ⟨rfl,h1,hx1⟩)
  go_ret
  exact IncIP.bad HE.out h1 hx1
 simp only[hq1,Rd.isOk]at HM1
 simp only[za6]at HM1
 have HQ1:=Lib.hid hq1
 clear hq1
 go_upto_region 3 with (go_at_call 155;refine(HM1.out).mono ?_;rintro e w3 ⟨rfl,h3,hx3⟩)
 have HP:=Lib.hid (zei hl2 h3)
 have HWR:=Lib.hid (fun (S:World) (hx:Ext w3 S)=>zdn hl2 (h3.ext hx))
 have HF:=Lib.hid (fun (S T:World) (hx:Chg [ib] w S) (hm:ISt lb zb file ib l T (.bad r1)) (hc:Chg [ib] S T)=>zfu hl2 h0 (by have:=ha.h1;have:=ha.h6;omega) hm (hL.chg (hx.trans hc) ha.item))
 have hs3:=hx3.size
 have h5T:∀t∈r1,t.ok:=fun t ht=>by obtain⟨_,_,_,-,-,-,hs,-⟩:=h3.good;exact h3.toks t (hs.subset ht)
 rcases zav (za2 4 r1)with ⟨r2,hq2⟩|⟨fn,r2,hq2⟩
 ·have HE:=Lib.hid (zb3 (rd:=rd) (files:=files) (opn:=fun k=>decide (k∈opn)) (l:=l) (file:=file) (n:=all.length) (cnt:=cnt) (zpw HQ1.out hq2))
  obtain⟨hkn,rfl⟩:=zhu (by decide) hq2
  obtain⟨T,hT⟩:∃T,T=zq r2:=⟨_,rfl⟩
  rw[←hT]at hkn
  have HT:=Lib.hid hT
  clear hq2 hT
  obtain⟨kd,tx,ta⟩:=T
  have q1:(kd != 4)=true:=by rw[bne_iff_ne];exact hkn
  clear hkn
  go_wp2_with (first
   |(go_at_call 84;refine(HP.out).mono ?_;rintro e w4 ⟨⟨t,rfl,hsz,ht⟩,hx4⟩;(obtain rfl:t=⟨kd,tx,ta⟩:=(ht _ _ rfl).trans HT.out.symm);clear ht;have hlt4:ib<w4.heap.size:=(by have:=hx4.size;omega);(have hx4':=hx4.trans (zd w4 (.cells #[.int .i64 kd,.string tx,.int .i64 ta] 77)));simp only[Tok.vals])
   |(go_at_call 117;refine(HWR.out _ hx4').mono ?_;rintro e w5 ⟨rfl,h5,hx5⟩)
   |(go_at_call 118;refine(HF.out _ _ (hx3.trans (Chg.of_ext hx4')) h5 hx5).mono ?_;rintro e w6 ⟨rfl,h6,hx6⟩))
  go_ret
  exact IncIP.bad HE.out h6 ((((hx3.trans (Chg.of_ext hx4')).trans hx5).mono (by simp)).trans hx6)
 have HQ2:=Lib.hid hq2
 obtain⟨t,rfl,hk1,rfl⟩:=zc7 hq2
 obtain⟨kd,tx,ta⟩:=t
 simp only at hk1
 subst hk1
 obtain⟨a,c,p,hown,hp,hpk,hsuf3,hmove,-⟩:=h3.good
 obtain⟨c3,f3⟩:=hown 3 _ rfl
 have HM:=Lib.hid hmove
 have HPT:=Lib.hid (show ∀t:Tok,t=zq ((⟨4,tx,ta⟩:Tok)::r2)→t=⟨4,tx,ta⟩from fun t h=>h)
 have HKK:=Lib.hid (show((p:Int)+1)=((l.length-r2.length:Nat):Int) by have:=hsuf3.length_le;simp at this;simp at hpk;omega)
 have HR4:=Lib.hid ((List.suffix_cons (⟨4,tx,ta⟩:Tok) r2).trans hsuf3)
 have hp1:(p:Int)+1≤1073741824:=by have:=hsuf3.length_le;simp at this;simp at hpk;omega
 clear hq2 hpk hmove hown h5T
 go_upto_region 8 with (go_at_call 84;refine(HP.out).mono ?_;rintro e w4 ⟨⟨t,rfl,-,ht⟩,hx4⟩;(obtain rfl:t=⟨4,tx,ta⟩:=HPT.out _ (ht _ _ rfl));clear ht;have hlt4:ib<w4.heap.size:=(by have:=hx4.size;omega);(have hx4':=hx4.trans (zd w4 (.cells #[.int .i64 4,.string tx,.int .i64 ta] 77)));replace f3:=hx4.frozen c3 f3;replace c3:=hx4.cell c3;have hne4:w4.heap.size≠ib:=(by omega);simp only[Tok.vals])
 obtain⟨V5,hV5⟩:∃V5,V5=(w4.setCell ⟨ib,3,none⟩ (.int .i64 ((p:Int)+1))).alloc (.cells #[.int .i64 4,.string tx,.int .i64 ta] 77):=⟨_,rfl⟩
 have C5:Chg [ib] w V5:=by rw[hV5];exact((hx3.trans (Chg.of_ext hx4)).setCell _ (.inl (by simp))).alloc _
 have I5:ISt lb zb file ib l V5 (.ok () r2):=by rw[hV5];exact(HM.out _ (Chg.of_ext hx4) _ _ HR4.out HKK.out).ext (zd _ _)
 have b5:Own V5 w4.heap.size [.int .i64 4,.string tx,.int .i64 ta]:=by
  rw[hV5]
  have:=zaq (w4.setCell ⟨ib,3,none⟩ (.int .i64 ((p:Int)+1))) #[.int .i64 4,.string tx,.int .i64 ta] 77
  rw[show(w4.setCell ⟨ib,3,none⟩ (.int .i64 ((p:Int)+1))).heap.size=w4.heap.size by simp[World.setCell]]at this
  exact this
 have hwb:w.heap.size≤w4.heap.size:=by have:=hx4.size;omega
 rw[←hV5]
 clear hV5 c3 f3 hx4' hx4
 generalize w4.heap.size=tb at *
 have htb:tb∉[ib]:=by simp;omega
 have HN6:=Lib.hid (HNA.out V5 r2 I5 C5)
 rcases zav (zae r2)with ⟨r3,hq3⟩|⟨ns,r3,hq3⟩
 ·have HE:=Lib.hid (zb3 (rd:=rd) (files:=files) (opn:=fun k=>decide (k∈opn)) (l:=l) (file:=file) (n:=all.length) (cnt:=cnt) (zhk HQ1.out HQ2.out hq3))
  rw[hq3]at HN6
  clear hq3
  go_wp2_with (go_at_call 157;refine(HN6.out).mono ?_;intro e w6 hpo;(obtain⟨⟨vl,vt,rfl⟩,h6,hx6⟩:=hpo.wrong);clear hpo)
  go_ret
  exact IncIP.bad HE.out h6 ((C5.mono (by simp)).trans hx6)
 rw[hq3]at HN6
 have HQ3:=Lib.hid hq3
 clear hq3
 go_upto_region 9 with (go_at_call 157;refine(HN6.out).mono ?_;intro e w6 hpo;(obtain⟨vl,vt,rfl,hrows,h6,hx6⟩:=hpo.good);clear hpo)
 have C6:=C5.trans hx6
 have HM7:=Lib.hid (HMU.out w6 r3 h6 C6 zbo)
 rcases zav (zl zbo r3)with ⟨r4,hq4⟩|⟨u4,r4,hq4⟩
 ·have HE:=Lib.hid (zb3 (rd:=rd) (files:=files) (opn:=fun k=>decide (k∈opn)) (l:=l) (file:=file) (n:=all.length) (cnt:=cnt) (zpx HQ1.out HQ2.out HQ3.out hq4))
  simp only[hq4,Rd.isOk]at HM7
  simp only[zbo]at HM7
  clear hq4
  go_wp2_with (go_at_call 155;refine(HM7.out).mono ?_;rintro e w7 ⟨rfl,h7,hx7⟩)
  go_ret
  exact IncIP.bad HE.out h7 ((C6.mono (by simp)).trans hx7)
 simp only[hq4,Rd.isOk]at HM7
 simp only[zbo]at HM7
 have HM8:=Lib.hid (fun (S:World) (hm:ISt lb zb file ib l S (.ok () r4)) (hx:Chg [ib] w S)=>HMU.out S r4 hm hx sDot)
 rcases zav (zl sDot r4)with ⟨r5,hq5⟩|⟨u5,r5,hq5⟩
 ·have HE:=Lib.hid (zb3 (rd:=rd) (files:=files) (opn:=fun k=>decide (k∈opn)) (l:=l) (file:=file) (n:=all.length) (cnt:=cnt) (zpy HQ1.out HQ2.out HQ3.out hq4 hq5))
  simp only[hq5,Rd.isOk]at HM8
  simp only[sDot]at HM8
  clear hq4 hq5
  go_wp2_with (first|(go_at_call 155;refine(HM8.out _ h7 (C6.trans hx7)).mono ?_;rintro e w8 ⟨rfl,h8,hx8⟩)|(go_at_call 155;refine(HM7.out).mono ?_;rintro e w7 ⟨rfl,h7,hx7⟩))
  go_ret
  exact IncIP.bad HE.out h8 (((C6.trans hx7).mono (by simp)).trans hx8)
 have hH:=Lib.hid (zly HQ1.out HQ2.out HQ3.out hq4 hq5)
 simp only[hq5,Rd.isOk]at HM8
 simp only[sDot]at HM8
 clear hq4 hq5
 go_upto_region 11 with (first|(go_at_call 155;refine(HM8.out _ h7 (C6.trans hx7)).mono ?_;rintro e w8 ⟨rfl,h8,hx8⟩)|(go_at_call 155;refine(HM7.out).mono ?_;rintro e w7 ⟨rfl,h7,hx7⟩))
 have c68:=hx7.trans hx8
 have C8:=C6.trans c68
 have L8:=hL.chg C8 ha.item
 have b8:=(b5.chg hx6 htb).chg c68 htb
 have hB5:=Lib.hid (And.intro C5.size (And.intro hx6.size c68.size))
 have HRW:=Lib.hid hrows
 have hne6:lb≠ib:=by have:=ha.h1;have:=ha.h6;omega
 obtain⟨_,_,_,_,ho8,-⟩:=id h8
 obtain⟨i0,-⟩:=ho8 0 _ rfl
 obtain⟨i1,-⟩:=ho8 1 _ rfl
 have hlt8:=ho8.lt
 obtain⟨_,_,g1,-⟩:=id L8
 obtain⟨n3,nf3⟩:=g1 3 _ rfl
 have hll8:=g1.lt
 clear HM7 HM8 HMU HNA HP HWR HF HM1 HN6 h6 h7 hx6 hx7 hx8 hrows ho8 g1 b5 I5 C5 C6 h3 hx3
 go_upto_region 13 with fail
 obtain⟨W9,hW9⟩:∃W9,W9=w8.setCell ⟨lb,3,none⟩ (.int .i64 ((cnt:Int)+1)):=⟨_,rfl⟩
 have c9:Chg [lb] w8 W9:=by rw[hW9];exact(Chg.refl [lb] w8).setCell _ (.inl (by simp))
 obtain⟨c2,hc2⟩:∃c2,c2=cnt+1:=⟨_,rfl⟩
 have L9:LSt lb P W9 files opn all c2 vo va:=by rw[hW9];exact L8.count c2 (by omega)
 have hbl:tb∉[lb]:=by have:=hL.lt;simp;omega
 have I9:ISt lb zb file ib l W9 (.ok () r5):=h8.chg c9 (fun b hb=>.inr (by have:=ha.h1;simp at hb;omega))
 have b9:=b8.chg c9 hbl
 have CX:Chg [ib,lb] w W9:=(C8.mono (by simp)).trans (c9.mono (by simp))
 rw[←hW9]
 have HC2:=Lib.hid hc2
 have C6X:Chg [ib,lb] w6 W9:=(c68.mono (by simp)).trans (c9.mono (by simp))
 clear hW9 i0 i1 n3 nf3 b8 h8 L8 hc2 c9
 generalize W9=wX at *
 obtain⟨_,_,_,_,ho9,-⟩:=id I9
 obtain⟨i0,-⟩:=ho9 0 _ rfl
 obtain⟨i1,-⟩:=ho9 1 _ rfl
 have hlt9:=ho9.lt
 obtain⟨_,_,g1,-⟩:=id L9
 obtain⟨n3,-⟩:=g1 3 _ rfl
 have hll9:=g1.lt
 obtain⟨t1,-⟩:=b9 1 _ rfl
 obtain⟨t2,-⟩:=b9 2 _ rfl
 have hlb9:=b9.lt
 clear ho9 g1
 by_cases hlong:200<cnt+1
 ·have hlong':(200:Int)<(c2:Int):=by have:=HC2.out;omega
  have HE:=Lib.hid (zp1 (rd:=rd) (files:=files) (opn:=fun k=>decide (k∈opn)) (l:=l) (file:=file) (n:=all.length) hH.out hlong)
  have HFL:=Lib.hid (fun (S:World) (hx:Ext wX S)=>zcp (file:=file) (L9.ext hx) (at':=ta) (e0:=3) (by decide))
  go_upto_region 14 with fail
  go_still_tail 7,(by kernel_rfl)
  change wpList _ _ _ _ _ wX.drew
  go_wp2_with (go_at_call 114;refine(HFL.out _ (Ext.drew (Below.refl _ _))).mono ?_;rintro e w13 ⟨rfl,h13,hx13⟩)
  go_ret
  exact IncIP.bad HE.out h13 ((CX.drew).trans (hx13.mono (by simp)))
 have hlong':¬(200:Int)<(c2:Int):=by have:=HC2.out;omega
 have HFI:=Lib.hid (zyb (by omega) L9 tx)
 have HFL:=Lib.hid (fun (S:World) (hx:Ext wX S) (e0:Int) (he:e0≠0)=>zcp (file:=file) (L9.ext hx) (at':=ta) he)
 cases hf:zh2 files tx with
 |none =>
  have HE:=Lib.hid (zp2 (rd:=rd) (opn:=fun k=>decide (k∈opn)) (l:=l) (file:=file) (n:=all.length) hH.out hlong hf)
  rw[show zng files tx=-1 by unfold zng;rw[hf]]at HFI
  clear hf hlong
  go_upto_region 18 with (go_at_call 158;refine(HFI.out).mono ?_;rintro e w10 ⟨rfl,hx10⟩)
  replace i0:=hx10.cell i0
  replace i1:=hx10.cell i1
  replace t2:=hx10.cell t2
  have k1:=zf i0
  have k2:=zf t2
  go_still_tail 7,(by kernel_rfl)
  change wpList _ _ _ _ _ w10.drew
  go_wp2_with (go_at_call 114;refine(HFL.out _ (hx10.trans (Ext.drew (Below.refl _ _))) 244 (by decide)).mono ?_;rintro e w13 ⟨rfl,h13,hx13⟩)
  go_ret
  exact IncIP.bad HE.out h13 ((CX.trans (Chg.of_ext (hx10.trans (Ext.drew (Below.refl _ _))))).trans (hx13.mono (by simp)))
 |some i =>
  have hi:i<files.length:=by
   rcases zkj files tx with ⟨h1,-⟩|⟨j,h1,h2,-⟩
   ·rw[hf]at h1;cases h1
   ·rw[hf]at h1;injection h1 with h1;subst h1;exact h2
  rw[show zng files tx=(i:Nat) by unfold zng;rw[hf]]at HFI
  have HOP:=Lib.hid (fun (S:World) (hx:Ext wX S)=>zuw (by omega) (L9.ext hx) i)
  have hge0:decide (((i:Nat):Int)<0)=false:=decide_eq_false (by omega)
  cases hod:decide (i∈opn) with
  |true =>
   have HE:=Lib.hid (zl2 (rd:=rd) (opn:=fun k=>decide (k∈opn)) (l:=l) (file:=file) (n:=all.length) hH.out hlong hf hod)
   rw[hod]at HOP
   clear hf hlong hod
   go_upto_region 21 with (first
    |(go_at_call 159;refine(HOP.out _ hx10).mono ?_;rintro e w11 ⟨rfl,hx11⟩)
    |(go_at_call 158;refine(HFI.out).mono ?_;rintro e w10 ⟨rfl,hx10⟩))
   have hxA:=hx10.trans hx11
   replace i0:=hxA.cell i0
   replace i1:=hxA.cell i1
   replace t2:=hxA.cell t2
   have k1:=zf i0
   have k2:=zf t2
   go_still_tail 7,(by kernel_rfl)
   change wpList _ _ _ _ _ w11.drew
   go_wp2_with (go_at_call 114;refine(HFL.out _ (hxA.trans (Ext.drew (Below.refl _ _))) 245 (by decide)).mono ?_;rintro e w13 ⟨rfl,h13,hx13⟩)
   go_ret
   exact IncIP.bad HE.out h13 ((CX.trans (Chg.of_ext (hxA.trans (Ext.drew (Below.refl _ _))))).trans (hx13.mono (by simp)))
  |false =>
   have HE:=Lib.hid (zp3 (rd:=rd) (opn:=fun k=>decide (k∈opn)) (l:=l) (file:=file) (n:=all.length) hH.out hlong hf hod)
   have hni:i∉opn:=of_decide_eq_false hod
   rw[hod]at HOP
   have HNI:=Lib.hid (And.intro hni hlong)
   clear hf hlong hod hni
   go_upto_region 24 with (first
    |(go_at_call 159;refine(HOP.out _ hx10).mono ?_;rintro e w11 ⟨rfl,hx11⟩)
    |(go_at_call 158;refine(HFI.out).mono ?_;rintro e w10 ⟨rfl,hx10⟩))
   have hxA:=hx10.trans hx11
   have L11:=L9.ext hxA
   have I11:=I9.ext hxA
   have CA:Chg [ib,lb] w w11:=CX.trans (Chg.of_ext hxA)
   clear HOP HFI HFL hx10 hx11 L9 I9 i0 i1 n3 t1 t2 b9 CX hge0 hlong'
   obtain⟨fa,fc,g1,g2,g3,g4,g5,g6⟩:=id L11
   obtain⟨n1,nf1⟩:=g1 1 _ rfl
   obtain⟨n2,-⟩:=g1 2 _ rfl
   have hlw:=g1.lt
   have hwA:=CA.size
   have hwX:wX.heap.size≤w11.heap.size:=hxA.size
   obtain⟨k0,hk0,kz0,kz1',kz2'⟩:=info_parts zkh
   obtain⟨j0,hj0,jz0,jz1',jz2'⟩:=info_parts zr2
   go_upto_region 25 with (at_builtin;refine zho (m:=7) (B:=lb+1) (P:=fun b=>(P b∧lb<b∧vo.ownBlock≠some b)∧va.ownBlock≠some b∧b<w11.heap.size) (v:=.slice none 0 0) (l:=[]) (u:=va) (M:=all.map Ent.dat) Tryz.underlying45 hk0 kz0 kz1' kz2' rfl (by decide) (by decide) rfl _ _ rfl rfl PRow.nil rfl g5 (fun b hb hu hl=>⟨⟨hb,hu,hl⟩,fun e=>(by simp[Value.ownBlock]at e)⟩) (by simp only[List.length_nil,List.length_map];omega) (by omega) ?_;intro va0 w12 hrow12 hfr12)
   rw[List.nil_append]at hrow12
   have E12:Ext w11 w12:=hfr12.ext (Below.refl _ _) (fun g hg=>by simp[Value.ownBlock]at hg)
   have hA0:=Lib.hid (fun g (hg:va0.ownBlock=some g)=>(by
    refine⟨?_,(hrow12.own_ge hg).2⟩
    rcases hfr12.own with h|h
    ·rw[hg]at h;simp[Value.ownBlock]at h
    ·exact h g hg:w11.heap.size≤g∧g<w12.heap.size))
   have hs12:=E12.size
   have L12:LSt lb (fun b=>P b∧b<w11.heap.size) w12 files opn all c2 vo va:=(L11.mono fun b hb hl=>⟨hb,hl⟩).ext E12
   have HVO:=Lib.hid (fun g (hg:vo.ownBlock=some g)=>((g4.own_ge hg):lb+1≤g∧g<w11.heap.size))
   have HVA:=Lib.hid (fun g (hg:va.ownBlock=some g)=>((g5.own_ge hg):lb+1≤g∧g<w11.heap.size))
   have HSEP:=Lib.hid g6
   have m1:=E12.cell n1
   have mf1:=E12.frozen n1 nf1
   have hll:=zf m1
   simp only at hll
   have hrowO:=g4.ext E12
   have Hol:=Lib.hid (zej opn)
   clear hfr12 g1 g2 g3 g4 g5 g6 n1 nf1 n2
   go_upto_region 26 with (at_builtin;refine zek (m:=1) (B:=lb+1) (P:=fun _=>False) (Q:=fun _=>False) (v:=vo) (x:=[Dat.int (i:Int)]) (cs:=[.int .i64 (i:Int)]) (l:=zko opn) Tryz.underlying109 hj0 jz0 jz1' jz2' rfl (by decide) (by decide) rfl _ _ rfl rfl (hrowO.ext (zd _ _)) rfl ⟨⟨rfl,(by omega)⟩,trivial⟩ rfl (fun j u hu=>(by have:=(zaq w12 #[.int .i64 (i:Int)] 3 j u hu).1;rw[Nat.zero_add];exact this)) (fun b hb=>hb.elim) (by rw[Hol.out];omega) (by rw[World.size_alloc];omega) ?_;intro vo1 w13 hrow13 hfr13;(have hfar:lb∉vo.ownBlock.toList:=fun hm=>(by have:=(HVO.out lb (by simpa using hm)).1;omega));(have p1:=hfr13.chg.cell ((zd _ _).cell m1) hfar);(have pf1:=hfr13.chg.frozen ((zd _ _).cell m1) hfar ((zd _ _).frozen m1 mf1));(have lp1:=zf p1);(obtain⟨a1,c1,hv1,-⟩:=hrow13.form);(obtain⟨N1,hN1⟩:∃N1,N1=(zko opn++[[Dat.int (i:Int)]]).length:=⟨_,rfl⟩);(rw[←hN1]at hv1);subst hv1;clear hN1)
   obtain⟨V14,hV14⟩:∃V14,V14=w13.setCell ⟨lb,1,none⟩ (.slice a1 N1 c1):=⟨_,rfl⟩
   have L14:LSt lb (fun b=>P b∧b<w11.heap.size) V14 files (opn++[i]) all c2 (.slice a1 N1 c1) va:=by rw[hV14];exact LSt.open' (L12.ext (zd _ _)) (by rw[zl6];exact hrow13) hfr13
   have C14:Chg (lb::vo.ownBlock.toList) w12 V14:=by
    rw[hV14]
    exact(((Chg.of_ext (S:=[]) (zd w12 _)).mono (T:=lb::vo.ownBlock.toList) (by simp)).trans (hfr13.chg.mono (fun k hk=>List.mem_cons_of_mem _ hk))).setCell _ (.inl (by simp))
   have hV1:=Lib.hid (fun g (hg:(Value.slice a1 N1 c1).ownBlock=some g)=>(by
    rcases hfr13.own with h|h
    ·exact .inl (by rw[←h];exact hg)
    ·have:=h g hg;rw[World.size_alloc]at this;exact .inr (by omega):vo.ownBlock=some g∨w12.heap.size<g))
   have hs14:=C14.size
   have hrfm:=Lib.hid (show(Value.slice a1 N1 c1).ownBlock=vo.ownBlock∨∀g,(Value.slice a1 N1 c1).ownBlock=some g→w.heap.size≤g from hfr13.own.imp id fun h g hg=>by have:=h g hg;rw[World.size_alloc]at this;omega)
   rw[←hV14]
   clear hV14 hfr13 hrow13 p1 pf1 lp1 m1 mf1 hrowO L12 hfar
   obtain⟨fa,fc,g1,g2,g3,-⟩:=id L14
   obtain⟨n0,-⟩:=g1 0 _ rfl
   have hll14:=g1.lt
   obtain⟨fb,fo,hfa,-,-,ft,-⟩:=IsFiles.look g3 hi
   subst hfa
   have hif:(i:Int)<files.length:=by omega
   have HRC:=Lib.hid (HRD.out i hi HNI.out.1 (by have:=HNI.out.2;omega) (fun b=>P b∧b<w11.heap.size) V14 (.slice a1 N1 c1) va (by rw[←HC2.out];exact L14))
   unfold RdIP at HRC
   have HLN:=Lib.hid (HRL.out i all.length (cnt+1))
   have Hop2:=Lib.hid (show(opn++[i]).length=opn.length+1 by simp)
   clear HRD HRL g1 g3
   have hown14:∀b∈(Value.slice a1 N1 c1).ownBlock.toList,b∈vo.ownBlock.toList∨w12.heap.size<b:=fun b hb=>(hV1.out b (by simpa using hb)).imp (fun h=>by simpa using h) id
   have HCA:=Lib.hid (show ∀S:World,Chg (lb::((Value.slice a1 N1 c1).ownBlock.toList++va.ownBlock.toList)) V14 S→Chg (ib::lb::(vo.ownBlock.toList++va.ownBlock.toList)) w S from fun S hx=>by
    refine Chg.drop (Below.refl _ _) (S:=(ib::lb::(vo.ownBlock.toList++va.ownBlock.toList))++(Value.slice a1 N1 c1).ownBlock.toList) ((((CA.trans (Chg.of_ext E12)).mono (fun k hk=>?_)).trans (C14.mono (fun k hk=>?_))).trans (hx.mono (fun k hk=>?_))) (fun k hk=>?_)
    ·simp at hk ⊢;rcases hk with h|h
     ·exact .inl h
     ·exact .inr (.inl h)
    ·simp at hk ⊢;rcases hk with h|h
     ·exact .inr (.inl h)
     ·exact .inr (.inr (.inl h))
    ·simp at hk ⊢;rcases hk with h|h|h
     ·exact .inr (.inl h)
     ·exact .inr (.inr (.inr (.inr h)))
     ·exact .inr (.inr (.inr (.inl h)))
    ·rcases List.mem_append.1 hk with h|h
     ·exact .inl h
     ·rcases hown14 k h with h2|h2
      ·exact .inl (by simp at h2 ⊢;exact .inr (.inr (.inl h2)))
      ·exact .inr (by omega))
   have hm1:∀m:Nat,m≤1048576→IntKind.i64.wrap (((m+1:Nat):Int)-1)=m:=fun m hm=>by rw[IntWalk.i64_in _ (by omega)];omega
   have hmm:=hm1 opn.length hop
   obtain⟨m,hm⟩:∃m,m=opn.length:=⟨_,rfl⟩
   rw[←hm]at hmm Hop2
   have HMM:=Lib.hid hm
   have hmb:m≤1048576:=by omega
   have hmm2:IntKind.i64.wrap ((m:Nat):Int)=m:=IntWalk.i64_in _ (by omega)
   clear hm1 hm
   cases hr:rd i all.length (cnt+1) with
   |flt t =>
    have HE2:=Lib.hid (HE.out.trans (by rw[hr];rfl:_=Out.flt t))
    rw[hr]at HRC
    simp only[Hop2.out]at HRC
    clear hr
    go_upto_region 27 with (go_at_call 63;refine(HRC.out).mono ?_;rintro e w15 ⟨rfl,hx15,hfl15⟩)
    obtain⟨a5,c5,q1,qf1,hc5,hl5,q5,q6,hne,hcut⟩:=LFl.cut hfl15
    have hq:(t.e != 0)=true:=by rw[bne_iff_ne];exact hne
    have hsl:=zqa a5 (m+1) m c5 (by omega)
    go_still_tail 14,(by kernel_rfl)
    change wpList _ _ _ _ _ w15.drew
    go_wp2_with fail
    go_ret
    rw[HE2.out]
    exact⟨((HCA.out _ hx15).setCell _ (.inl (by simp))).drew,rfl,by rw[←HMM.out];exact(hcut _ (Below.refl _ _)).ext (Ext.drew (Below.refl _ _))⟩
   |ok x =>
    have HE2:=Lib.hid (HE.out.trans (by rw[hr];rfl:_=(zev file ns x.1).bind fun l'=>Out.ok ((l',x.2),r5)))
    have hxl:=HLN.out x hall hr
    rw[hr]at HRC
    clear hr
    go_upto_region 27 with (go_at_call 63;refine(HRC.out).mono ?_;rintro e w15 ⟨rfl,hx15,vo2,va2,L15,mo2,ma2⟩)
    obtain⟨⟨a5,c5,hv5,hc5⟩,a6,c6,hv6,hc6⟩:=L15.form
    rw[Hop2.out]at hv5 hc5
    subst hv5 hv6
    obtain⟨fa',fc',g1,-,-,g4,g5,-⟩:=id L15
    obtain⟨q1,qf1⟩:=g1 1 _ rfl
    obtain⟨q6,-⟩:=g1 6 _ rfl
    have hl5:=g1.lt
    have hsl:=zqa a5 (m+1) m c5 (by omega)
    have H15:=Lib.hid L15
    have HC15:=Lib.hid hx15
    clear g1 g5
    go_still_tail 14,(by kernel_rfl)
    change wpList _ _ _ _ _ w15.drew
    go_upto_region 28 with fail
    obtain⟨W16,hW16⟩:∃W16,W16=(w15.setCell ⟨lb,1,none⟩ (.slice a5 m c5)).drew:=⟨_,rfl⟩
    have L16:LSt lb (fun b=>(P b∧b<w11.heap.size)∨V14.heap.size≤b) W16 files opn (all++x.1) x.2 (.slice a5 m c5) (.slice a6 (all++x.1).length c6):=by
     rw[hW16]
     refine LSt.ext (LSt.open' (w1:=w15) H15.out ?_ ⟨Chg.refl _ w15,.inl (zfv _ _ _ _)⟩) (Ext.drew (Below.refl _ _))
     have h1:=PRow.cut (k:=m) g4 (by rw[zej,Hop2.out];omega)
     rw[zl6,List.take_append_of_le_length (by rw[Hol.out];have:=HMM.out;omega),List.take_of_length_le (by rw[Hol.out];have:=HMM.out;omega)]at h1
     exact h1
    have C16:Chg (lb::((Value.slice a1 N1 c1).ownBlock.toList++va.ownBlock.toList)) V14 W16:=by
     rw[hW16]
     exact(HC15.out.setCell _ (.inl (by simp))).drew
    have I16:ISt lb zb file ib l W16 (.ok () r5):=(((I11.ext E12).chg C14 (fun b hb=>by
     simp at hb
     rcases hb with h|h
     ·exact .inr (by have:=ha.h1;omega)
     ·have:=ha.h2 b h;omega)).chg C16 (fun b hb=>by
     simp at hb
     rcases hb with h|h|h
     ·exact .inr (by have:=ha.h1;omega)
     ·rcases hV1.out b h with h2|h2
      ·have:=ha.h2 b h2;omega
      ·have:=I11.lt;exact .inl (by omega)
     ·have:=ha.h3 b h;omega))
    have mo16:Moved w vo (.slice a5 m c5):=by
     rcases mo2 with h|h
     ·rcases hrfm.out with h2|h2
      ·exact .inl ((zfv _ _ _ _).trans (h.trans h2))
      ·exact .inr fun g hg=>h2 g (by rw[←h,←zfv a5 m];exact hg)
     ·exact .inr fun g hg=>by have:=h g (by rw[←zfv a5 m];exact hg);omega
    have ma16:Moved w va (.slice a6 (all++x.1).length c6):=by
     rcases ma2 with h|h
     ·exact .inl h
     ·exact .inr fun g hg=>by have:=h g hg;omega
    have HMO:=Lib.hid (fun g (hg:(Value.slice a5 m c5).ownBlock=some g)=>(mo2.imp (fun h=>by rw[←h,←zfv a5 m];exact hg) (fun h=>h g (by rw[←zfv a5 m];exact hg)):(Value.slice a1 N1 c1).ownBlock=some g∨V14.heap.size≤g))
    have HMA:=Lib.hid (fun g (hg:(Value.slice a6 (all++x.1).length c6).ownBlock=some g)=>(ma2.imp (fun h=>by rw[←h];exact hg) (fun h=>h g hg):va.ownBlock=some g∨V14.heap.size≤g))
    have q6':W16.cell? ⟨lb,6,none⟩=some (.int .i64 0):=by obtain⟨_,_,g1,-⟩:=id L16;exact(g1 6 _ rfl).1
    have ll16:=L16.lt
    rw[←hW16]
    clear hW16 hsl g4 q1 qf1 q6 L15 hx15 mo2 ma2
    have hLS:LSt lb (fun b=>P b∨w.heap.size≤b) W16 files opn (all++x.1) x.2 (.slice a5 m c5) (.slice a6 (all++x.1).length c6):=L16.mono fun b hb _=>hb.elim (fun h=>.inl h.1) (fun h=>.inr (by omega))
    cases hns:ns with
    |none =>
     rw[hns]at HE2
     clear hns
     go_wp2_with fail
     go_ret
     rw[HE2.out]
     exact⟨HCA.out _ C16,rfl,I16,_,_,hLS,mo16,ma16⟩
    |some NS =>
     rw[hns]at HE2 HQ3 HRW
     clear hns
     obtain⟨hr1,hr2⟩:=HRW.out NS rfl
     have hNL:NS.length≤8001:=by have:=zgd HQ3.out;have:=hsuf3.length_le;simp at this;omega
     have hsz:=hB5.out
     have hsX:=C6X.size
     have hOW:=Lib.hid (show(∀g,vo.ownBlock=some g→g<w.heap.size)∧∀g,va.ownBlock=some g→g<w.heap.size by
      obtain⟨_,_,_,_,_,h4,h5,-⟩:=id hL
      exact⟨fun g hg=>(h4.own_ge hg).2,fun g hg=>(h5.own_ge hg).2⟩)
     have hlb0:lb<w.heap.size:=hL.lt
     have hstay:∀(e:TypeId) (v:Value) (M:List (List Dat)),PRow 1 e V5.heap.size (fun _=>False) w6 v M→PRow 1 e V5.heap.size (fun _=>False) W16 v M:=fun e v M h=>by
      have h2:∀g,v.ownBlock=some g→V5.heap.size≤g∧g<w6.heap.size:=fun g hg=>h.own_ge hg
      refine PRow.but (PRow.but ((PRow.but h C6X fun g hg hm=>?_).ext (hxA.trans E12)) C14 fun g hg hm=>?_) C16 fun g hg hm=>?_
      ·have:=h2 g hg;simp at hm;omega
      ·have:=h2 g hg
       simp at hm
       rcases hm with h|h
       ·omega
       ·have:=hOW.out.1 g h;omega
      ·have:=h2 g hg
       simp at hm
       rcases hm with h|h|h
       ·omega
       ·rcases hV1.out g h with h3|h3
        ·have:=hOW.out.1 g h3;omega
        ·omega
       ·have:=hOW.out.2 g h;omega
     have hvl:=Lib.hid (fun g (hg:vl.ownBlock=some g)=>(StrRow.own_ge hr1 hg))
     have hvt:=Lib.hid (fun g (hg:vt.ownBlock=some g)=>(PRow.own_ge hr2 hg))
     obtain⟨na,nc,hvle,-,hN⟩:=(hstay _ _ _ (PRow.strsF (PRow.of_grow hr1))).dat (by decide)
     obtain⟨ta2,tc,hvte,-,hT⟩:=(hstay _ _ _ hr2).dat (by decide)
     rw[List.length_map,List.length_map]at hvle
     rw[show(intsZ (NS.map Prod.snd)).length=NS.length by simp[intsZ]]at hvte
     have hA:PRow 7 53 (lb+1) (fun b=>((P b∧b<w11.heap.size)∨V14.heap.size≤b)∧lb<b∧(Value.slice a5 m c5).ownBlock≠some b) W16 va0 (all.map Ent.dat):=by
      refine((hrow12.chg C14 fun k hk=>?_).chg C16 fun k hk=>?_).mono fun b hb _=>?_
      ·simp at hk
       rcases hk with h|h
       ·subst h
        exact⟨fun e=>by have:=(hA0.out _ e).1;omega,fun hb=>by have:=hb.1.2.1;omega⟩
       ·exact⟨fun e=>by have:=(hA0.out _ e).1;have:=(HVO.out k h).2;omega,fun hb=>absurd h hb.1.2.2⟩
      ·simp at hk
       rcases hk with h|h|h
       ·subst h
        exact⟨fun e=>by have:=(hA0.out _ e).1;omega,fun hb=>by have:=hb.1.2.1;omega⟩
       ·rcases hV1.out k h with h3|h3
        ·exact⟨fun e=>by have:=(hA0.out _ e).1;have:=(HVO.out k h3).2;omega,fun hb=>absurd h3 hb.1.2.2⟩
        ·exact⟨fun e=>by have:=(hA0.out _ e).2;omega,fun hb=>by have:=hb.2.2;omega⟩
       ·exact⟨fun e=>by have:=(hA0.out _ e).1;have:=(HVA.out k h).2;omega,fun hb=>absurd h hb.2.1⟩
      ·refine⟨.inl ⟨hb.1.1,hb.2.2⟩,hb.1.2.1,fun e=>?_⟩
       rcases HMO.out b e with h|h
       ·rcases hV1.out b h with h3|h3
        ·exact hb.1.2.2 h3
        ·have:=hb.2.2;omega
       ·have:=hb.2.2;omega
     have hAP:∀g,va0.ownBlock=some g→(¬((P g∧g<w11.heap.size)∨V14.heap.size≤g)∧(Value.slice a6 (all++x.1).length c6).ownBlock≠some g)∧(Value.slice a5 m c5).ownBlock≠some g∧g≠ib∧¬(False∨vl.ownBlock=some g)∧¬(False∨vt.ownBlock=some g):=fun g hg=>by
      have h1:=hA0.out g hg
      refine⟨⟨fun h=>?_,fun e=>?_⟩,fun e=>?_,by omega,fun h=>?_,fun h=>?_⟩
      ·rcases h with h|h
       ·have:=h.2;omega
       ·omega
      ·rcases HMA.out g e with h|h
       ·have:=(HVA.out g h).2;omega
       ·omega
      ·rcases HMO.out g e with h|h
       ·rcases hV1.out g h with h3|h3
        ·have:=(HVO.out g h3).2;omega
        ·omega
       ·omega
      ·rcases h with h|h
       ·exact h
       ·have:=(hvl.out g h).2;omega
      ·rcases h with h|h
       ·exact h
       ·have:=(hvt.out g h).2;omega
     obtain⟨_,_,_,_,ho16,-⟩:=id I16
     obtain⟨i0,-⟩:=ho16 0 _ rfl
     obtain⟨i1,-⟩:=ho16 1 _ rfl
     have hPT:∀b,(False∨vt.ownBlock=some b)→b≠lb:=fun b h=>by
      rcases h with h|h
      ·exact h.elim
      ·have:=(hvt.out b h).1;omega
     have HCH:=Lib.hid (zu0 (file:=file) (L:=NS) (all:=all++x.1) (pre:=all) (got:=x.1) (nc:=nc) (tc:=tc) rfl L16 i0 i1 (Ne.symm hne6) hA hAP hN hT hPT (by rw[List.length_append];omega) (by omega))
     have hCH:∀S,Chg (lb::va0.ownBlock.toList) W16 S→Chg (ib::lb::(vo.ownBlock.toList++va.ownBlock.toList)) w S∧ISt lb zb file ib l S (.ok () r5):=fun S hx=>by
      refine⟨Chg.drop (Below.refl _ _) (S:=(ib::lb::(vo.ownBlock.toList++va.ownBlock.toList))++va0.ownBlock.toList) (((HCA.out _ C16).mono fun k hk=>List.mem_append_left _ hk).trans (hx.mono fun k hk=>?_)) fun k hk=>?_,I16.chg hx fun b hb=>?_⟩
      ·rcases List.mem_cons.1 hk with h|h
       ·subst h;simp
       ·exact List.mem_append_right _ h
      ·rcases List.mem_append.1 hk with h|h
       ·exact .inl h
       ·have:=(hA0.out k (by simpa using h)).1;exact .inr (by omega)
      ·rcases List.mem_cons.1 hb with h|h
       ·subst h;have:=ha.h1;exact .inr (by omega)
       ·have:=(hA0.out b (by simpa using h)).1;exact .inl (by omega)
     have HCHG:=Lib.hid hCH
     have HA0W:=Lib.hid (fun g (hg:va0.ownBlock=some g)=>(by have:=(hA0.out g hg).1;omega:w.heap.size≤g))
     have hW16:w.heap.size≤W16.heap.size:=by have:=C16.size;omega
     unfold zw0 at HCH
     subst hvle hvte
     clear hstay hA hAP hN hT hPT hCH hr1 hr2 ho16 hxA L11 I11 CA E12 L14 C14 hrow12 n0 ft i0 i1 C6X hown14 g2 c68 C8 C16 L16 HRW
     cases hch:zev file (some NS) x.1 with
     |flt t =>
      rw[hch]at HE2 HCH
      clear hch
      go_wp2_with (go_at_call 160;refine(HCH.out).mono ?_;rintro e w17 ⟨hx17,rfl,hfl17⟩)
      go_ret
      rw[HE2.out]
      exact⟨(HCHG.out _ hx17).1,rfl,hfl17⟩
     |ok mm =>
      rw[hch]at HE2 HCH
      clear hch
      go_wp2_with (go_at_call 160;refine(HCH.out).mono ?_;rintro e w17 ⟨hx17,rfl,va17,hl17,ho17⟩)
      go_ret
      rw[HE2.out]
      refine⟨(HCHG.out _ hx17).1,rfl,(HCHG.out _ hx17).2,_,va17,hl17.mono (fun b hb _=>hb.elim (fun h=>.inl h.1) (fun h=>.inr (by omega))),mo16,.inr fun g hg=>?_⟩
      rcases ho17 with h|h
      ·exact HA0W.out g (by rw[←h];exact hg)
      ·have:=h g hg;omega
end
end Go.Proofs.YtnclgkdpafhogaaGreat
