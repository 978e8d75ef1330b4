/- Rows of the call's own whose elements are things read out of a world: they are kept, looked into, appended to. No condition.
Rows of the call's own whose elements are plain data. No condition.
Plain: tokens, bytes of a text, names in quotes. No condition.
Plain: how tokens are read as terms and formulas. No condition.
Plain: what a reading leaves is an end of what it was given; how large what is read is. No condition.
An append onto a row of the call's own, as a step of a walk. Conditions: the row's bytes stay below 2^47.
Plain: which formulas may be, which are the same, how they are written. No condition. -/
import Derived.Test.YtnclgkdpafhogaaGreatQe0
import Derived.Test.YtnclgkdpafhogaaGreatQe2
import Derived.Maps.AppendAt
import Derived.Laws.OwnMore
import Derived.Deep.AppendLies
import Derived.RegionTactic
import Derived.OwnWalk
set_option maxHeartbeats 16000000
set_option maxRecDepth 100000
namespace Go.Proofs.YtnclgkdpafhogaaGreat
open Go.ChangeShapes Go.WideShapes Go.ChangeAt Go.RowKit
structure Elt (α:Type) where
 size:Nat
 is:(Nat→Prop)→World→List Value→α→Prop
 len:∀ {P w cs a},is P w cs a→cs.length=size
 one:∀ {P w cs a},is P w cs a→∀u∈cs,u.oneCell'=true
 keep:∀ {P Q:Nat→Prop}{w w':World}{cs a},(∀b,P b→b<w.heap.size→Q b)→(∀p v,P p.block→w.cell? p=some v→w'.cell? p=some v)→is P w cs a→is Q w' cs a
theorem zis {n:Nat}:∀(cs:List (List Value)),(∀c∈cs,c.length=n)→∀(j:Nat) (hj:j<cs.length) (i:Nat),i<n→cs.flatten[j * n+i]?=cs[j][i]?
 |[],_,j,hj,_,_=>by simp at hj
 |c::cs,h,0,_,i,hi=>by
  have hc:=h c (by simp)
  simp only[List.flatten_cons,Nat.zero_mul,Nat.zero_add,List.getElem_cons_zero]
  rw[List.getElem?_append_left (by omega)]
 |c::cs,h,j+1,hj,i,hi=>by
  have hc:=h c (by simp)
  simp only[List.flatten_cons,List.getElem_cons_succ]
  rw[List.getElem?_append_right (by rw[hc,Nat.add_mul];omega),show(j+1) * n+i-c.length=j * n+i by rw[hc,Nat.add_mul];omega]
  exact zis cs (fun c hc=>h c (by simp[hc])) j (by simpa using hj) i hi
theorem zdr {w w':World}{B e size n:Nat}{v:Value}{xs:List Value}(h:w.ownsRow B e size v n xs) (hb:∀g,v.ownBlock=some g→g<w.heap.size→w'.heap[g]?=w.heap[g]?):w'.ownsRow B e size v n xs:=by
 refine⟨h.1,?_⟩
 rcases h.2 with h1|⟨g,cap,cur,hv,hg,hh,hr⟩
 ·exact .inl h1
 ·refine .inr ⟨g,cap,cur,hv,hg,?_,hr⟩
  rw[hb g (by rw[hv];rfl) ?_]
  ·exact hh
  ·rcases Nat.lt_or_ge g w.heap.size with h1|h1
   ·exact h1
   ·rw[Array.getElem?_eq_none h1]at hh;cases hh
theorem zqf {w:World}{B e size n:Nat}{v:Value}{xs:List Value}(h:w.ownsRow B e size v n xs){g:Nat}(hg:v.ownBlock=some g):B≤g∧g<w.heap.size:=by
 rcases h.2 with ⟨h1,-⟩|⟨g',cap,cur,hv,hb,hh,hr⟩
 ·subst h1;cases hg
 ·subst hv
  injection hg with hg
  subst hg
  refine⟨hb,?_⟩
  rcases Nat.lt_or_ge g' w.heap.size with h1|h1
  ·exact h1
  ·rw[Array.getElem?_eq_none h1]at hh;cases hh
theorem zll {w w':World}{B e size n:Nat}{v:Value}{xs:List Value}(h:w.ownsRow B e size v n xs) (hx:Ext w w'):w'.ownsRow B e size v n xs :=
 zdr h fun g _ hl=>hx.block g hl
theorem zsb {w w':World}{S:List Nat}{B e size n:Nat}{v:Value}{xs:List Value}(h:w.ownsRow B e size v n xs) (hx:Chg S w w') (hS:∀i∈S,i<B):w'.ownsRow B e size v n xs :=
 zdr h fun g hg hl=>hx.block g hl (fun hm=>by have:=hS g hm;have:=(zqf h hg).1;omega)
theorem Chg.of_grown {w w':World}{S:List Nat}{r:Option Nat}(h:w.grownBy w' r) (hS:∀g,r=some g→g∈S∨w.heap.size≤g):Chg S w w' :=
 ⟨h.os,h.tape,h.output,h.size,fun k hk hs=>h.block k hk (fun e=>by rcases hS k e.symm with h1|h1;exact hs h1;omega)⟩
def GRow {α:Type}(E:Elt α) (e:TypeId) (B:Nat) (w:World) (v:Value) (l:List α):Prop :=
 ∃cs:List (List Value),cs.length=l.length∧w.ownsRow B e E.size v l.length cs.flatten∧∀j (h:j<l.length) (h':j<cs.length),E.is (fun b=>B≤b∧v.ownBlock≠some b) w cs[j] l[j]
section
variable {α:Type}{E:Elt α}{e B:Nat}{w w':World}{v:Value}{l:List α}
theorem GRow.nil:GRow E e B w (.slice none 0 0) []:=⟨[],rfl,World.ownsRow_nil _ _ _ _,fun j h=>by simp at h⟩
theorem GRow.chg {S:List Nat}(h:GRow E e B w v l) (hx:Chg S w w') (hS:∀i∈S,i<B):GRow E e B w' v l:=by
 obtain⟨cs,h1,h2,h3⟩:=h
 exact⟨cs,h1,zsb h2 hx hS,fun j h h'=>E.keep (fun _ h _=>h) (fun p v hp hv=>hx.cell hv (fun hm=>by have:=hS _ hm;omega)) (h3 j h h')⟩
theorem GRow.ext (h:GRow E e B w v l) (hx:Ext w w'):GRow E e B w' v l:=h.chg (Chg.of_ext (S:=[]) hx) (by simp)
theorem GRow.down {C:Nat}(h:GRow E e B w v l) (hC:C≤B):GRow E e C w v l:=by
 obtain⟨cs,h1,⟨h2,h4⟩,h3⟩:=h
 refine⟨cs,h1,⟨h2,?_⟩,fun j h h'=>E.keep (fun b h _=>⟨by omega,h.2⟩) (fun _ _ _ h=>h) (h3 j h h')⟩
 rcases h4 with h4|⟨g,cap,cur,k1,k2,k3⟩
 ·exact .inl h4
 ·exact .inr ⟨g,cap,cur,k1,by omega,k3⟩
theorem GRow.form (h:GRow E e B w v l):∃a c,v=.slice a l.length c∧l.length≤c:=by
 obtain⟨cs,-,⟨-,h2⟩,-⟩:=h
 rcases h2 with ⟨h2,h3⟩|⟨g,cap,cur,h2,-,-,h4,-⟩
 ·exact⟨none,0,by rw[h3];exact h2,by omega⟩
 ·exact⟨_,_,h2,h4⟩
theorem GRow.at (h:GRow E e B w v l){j:Nat}(hj:j<l.length):∃g cap cs,v=.slice (some ⟨g,0,none⟩) l.length cap∧B≤g∧g<w.heap.size∧l.length≤cap∧E.is (fun b=>B≤b∧v.ownBlock≠some b) w cs l[j]∧cs.length=E.size∧∀i u,cs[i]?=some u→w.cell? ⟨g,j * E.size+i,none⟩=some u:=by
 obtain⟨a0,c0,hv0,hc0⟩:=h.form
 obtain⟨cs,h1,h2,h3⟩:=h
 obtain⟨g,cap,rfl,hb,hlt⟩:=h2.form (by omega)
 injection hv0 with _ _ hcc
 subst hcc
 refine⟨g,cap,cs[j],rfl,hb,hlt,hc0,h3 j hj (by omega),E.len (h3 j hj (by omega)),fun i u hu=>?_⟩
 have hlen:∀c∈cs,c.length=E.size:=by
  intro c hc
  obtain⟨k,hk,rfl⟩:=List.getElem_of_mem hc
  exact E.len (h3 k (by omega) hk)
 have hi:i<E.size:=by
  have:=hlen cs[j] (List.getElem_mem _)
  rcases Nat.lt_or_ge i cs[j].length with h1|h1
  ·omega
  ·rw[List.getElem?_eq_none h1]at hu;cases hu
 have:=h2.cells (g:=g) rfl (j * E.size+i) u (by rw[zis cs hlen j (by omega) i hi];exact hu)
 have hadd:(⟨g,0,none⟩:Addr).add (j * E.size+i)=⟨g,j * E.size+i,none⟩:=by unfold Addr.add;split<;>simp_all
 rw[hadd]at this
 exact this
theorem GRow.grow {cs:List (List Value)}{w1 w2:World}{c:List Value}{t:α}{g cap:Nat}(hcl:cs.length=l.length) (hel:∀j (h:j<l.length) (h':j<cs.length),E.is (fun b=>B≤b∧v.ownBlock≠some b) w cs[j] l[j])
  (hx:Ext w w1) (hg:w1.grownBy w2 v.ownBlock) (ho:w2.ownsRow B e E.size (.slice (some ⟨g,0,none⟩) (l.length+1) cap) (l.length+1) (cs.flatten++c)) (hat:v.ownBlock=some g∨g=w1.heap.size)
  (hc:E.is (fun b=>B≤b∧v.ownBlock≠some b) w1 c t):GRow E e B w2 (.slice (some ⟨g,0,none⟩) (l.length+1) cap) (l++[t]):=by
 have hQ:∀b,(B≤b∧v.ownBlock≠some b)→b<w1.heap.size→B≤b∧(Value.slice (some ⟨g,0,none⟩) (l.length+1) cap).ownBlock≠some b:=by
  intro b hb hlt
  refine⟨hb.1,fun h=>?_⟩
  injection h with h
  dsimp only at h
  subst h
  rcases hat with h1|h1
  ·exact hb.2 h1
  ·omega
 have hK:∀p u,(B≤p.block∧v.ownBlock≠some p.block)→w1.cell? p=some u→w2.cell? p=some u:=by
  intro p u hp hu
  rw[hg.cell_far p (zf hu) (Ne.symm hp.2)];exact hu
 refine⟨cs++[c],by simp[hcl],?_,fun j h h'=>?_⟩
 ·have:(cs++[c]).flatten=cs.flatten++c:=by simp
  rw[this,List.length_append,List.length_singleton]
  exact ho
 ·by_cases hj:j<l.length
  ·rw[List.getElem_append_left hj,List.getElem_append_left (by omega)]
   exact E.keep hQ hK (E.keep (fun _ h _=>h) (fun p u _ hu=>hx.cell hu) (hel j hj (by omega)))
  ·have hje:j=l.length:=by simp at h;omega
   subst hje
   rw[List.getElem_append_right (by omega),List.getElem_append_right (by omega)]
   simp only[hcl,Nat.sub_self,List.getElem_cons_zero]
   exact E.keep hQ hK hc
theorem GRow.one {c:List Value}{t:α}(hB:B≤w.heap.size) (hc:E.is (fun b=>B≤b∧b<w.heap.size) w c t) (arr:Array Value) (ha:arr.toList=c):GRow E e B (w.alloc (.cells arr e)) (.slice (some ⟨w.heap.size,0,none⟩) 1 1) [t]:=by
 have hl:=E.len hc
 refine⟨[c],rfl,⟨by simp[hl],.inr ⟨w.heap.size,1,arr,rfl,hB,heap_alloc_new _ _,Nat.le_refl _,by decide,by rw[←Array.length_toList,ha];simpa using hl,?_⟩⟩,fun j h h'=>?_⟩
 ·simp only[List.flatten_cons,List.flatten_nil,List.append_nil,List.length_singleton,Nat.one_mul]
  rw[ha,←hl,List.take_length]
 ·have:j=0:=by simp at h;omega
  subst this
  simp only[List.getElem_cons_zero]
  refine E.keep (fun b hb _=>⟨hb.1,fun h=>?_⟩) (fun p u _ hu=>(zb w _).cell hu) hc
  injection h with h;dsimp only at h;omega
end
def AtInts (P:Nat→Prop) (w:World) (a:Option Addr) (l:List Int):Prop :=
 ∀i (h:i<l.length),-9223372036854775808≤l[i]∧l[i]≤9223372036854775807∧∃b o,a=some ⟨b,o,none⟩∧P b∧w.cell? ⟨b,o+i,none⟩=some (.int .i64 l[i])
theorem AtInts.keep {P Q:Nat→Prop}{w w':World}{a:Option Addr}{l:List Int}(h:AtInts P w a l) (hQ:∀b,P b→b<w.heap.size→Q b) (hK:∀p v,P p.block→w.cell? p=some v→w'.cell? p=some v):AtInts Q w' a l:=fun i hi=>by
 obtain⟨h1,h2,b,o,h3,h4,h5⟩:=h i hi
 exact⟨h1,h2,b,o,h3,hQ b h4 (zf h5),hK _ _ h4 h5⟩
theorem AtTms.of_at {P:Nat→Prop}{b:Nat}{w:World}:∀ {ts:List Tm}{o:Nat},P b→(∀i (h:i<ts.length),∃x s,w.cell? ⟨b,o+i * 2,none⟩=some x∧w.cell? ⟨b,o+i * 2+1,none⟩=some s∧AtTm P w x s ts[i])→AtTms P w (some ⟨b,o,none⟩) ts
 |[],_,_,_=>by simp only[AtTms]
 |t::ts,o,hB,h=>by
  simp only[AtTms]
  obtain⟨x,s,h1,h2,h3⟩:=h 0 (by simp)
  refine⟨b,o,x,s,rfl,hB,by simpa using h1,by simpa using h2,h3,AtTms.of_at hB fun i hi=>?_⟩
  obtain⟨x,s,g1,g2,g3⟩:=h (i+1) (by simpa using hi)
  exact⟨x,s,by rw[show o+2+i * 2=o+(i+1) * 2 by omega];exact g1,by rw[show o+2+i * 2+1=o+(i+1) * 2+1 by omega];exact g2,by simpa using g3⟩
def TmRow (P:Nat→Prop) (b:Nat) (w:World) (ks:List Tm):Prop :=
 ∀i (h:i<ks.length),∃x s,w.cell? ⟨b,i * 2,none⟩=some x∧w.cell? ⟨b,i * 2+1,none⟩=some s∧AtTm (fun c=>P c∧c≠b) w x s ks[i]
theorem TmRow.put {P:Nat→Prop}{b:Nat}{w:World}{ks:List Tm}(h:TmRow P b w ks) (hb:P b){n:Nat}(hn:n<ks.length){x s:Value}{u:Tm}(hu:AtTm (fun c=>P c∧c≠b) w x s u) :
  AtTms P ((w.setCell ⟨b,n * 2,none⟩ x).setCell ⟨b,n * 2+1,none⟩ s) (some ⟨b,0,none⟩) (ks.set n u):=by
 have hc:Chg [b] w ((w.setCell ⟨b,n * 2,none⟩ x).setCell ⟨b,n * 2+1,none⟩ s):=((Chg.refl [b] w).setCell _ (.inl (by simp))).setCell _ (.inl (by simp))
 have oth:∀j,j≠n * 2→j≠n * 2+1→((w.setCell ⟨b,n * 2,none⟩ x).setCell ⟨b,n * 2+1,none⟩ s).cell? ⟨b,j,none⟩=w.cell? ⟨b,j,none⟩:=by
  intro j h1 h2
  rw[World.cell?_setCell_other _ _ _ _ (by intro e;injection e with _ e2;omega),World.cell?_setCell_other _ _ _ _ (by intro e;injection e with _ e2;omega)]
 have up:∀ {y r:Value}{t:Tm},AtTm (fun c=>P c∧c≠b) w y r t→AtTm P ((w.setCell ⟨b,n * 2,none⟩ x).setCell ⟨b,n * 2+1,none⟩ s) y r t:=fun ht =>
  ht.of_cells (fun c hc _=>hc.1) (fun p v hp hv=>hc.cell hv (by simpa using hp.2))
 obtain⟨x0,s0,e1,e2,-⟩:=h n hn
 refine AtTms.of_at hb fun i hi=>?_
 rw[List.length_set]at hi
 simp only[Nat.zero_add]
 by_cases hin:i=n
 ·subst hin
  refine⟨x,s,?_,?_,by rw[List.getElem_set_self];exact up hu⟩
  ·rw[World.cell?_setCell_other _ _ _ _ (by intro e;injection e with _ e2;omega)];exact World.cell?_setCell_same _ _ _ e1
  ·exact World.cell?_setCell_same (u:=s0) _ _ _ (by rw[World.cell?_setCell_other _ _ _ _ (by intro e;injection e with _ e2;omega)];exact e2)
 ·obtain⟨y,r,k1,k2,k3⟩:=h i hi
  exact⟨y,r,by rw[oth _ (by omega) (by omega)];exact k1,by rw[oth _ (by omega) (by omega)];exact k2,by rw[List.getElem_set_ne (by omega)];exact up k3⟩
mutual
theorem NewTm.at {w:World}:∀ {t:Tm}{x s:Value}{B:Nat},NewTm B w x s t→AtTm (fun b=>B≤b) w x s t
 |.mk n ks,x,s,B,ht=>by
  simp only[NewTm]at ht;simp only[AtTm]
  obtain⟨h1,h2,h3,a,h4,-,h5⟩:=ht
  exact⟨h1,h2,h3,a,_,h4,Nat.le_refl _,NewTms.at h5⟩
theorem NewTms.at {w:World}:∀ {ts:List Tm}{a:Option Addr}{B:Nat},NewTms B w a ts→AtTms (fun b=>B≤b) w a ts
 |[],a,B,_=>by simp only[AtTms]
 |t::ts,a,B,ht=>by
  simp only[NewTms]at ht;simp only[AtTms]
  obtain⟨b,o,x,s,h1,h0,h2,h3,h4,h5⟩:=ht
  exact⟨b,o,x,s,h1,h0,h2,h3,(NewTm.at h4).mono (fun c hc _=>by omega),NewTms.at h5⟩
end
def z6 (m:Nat):Elt (List Dat) where
 size:=m
 is P w cs a:=cs.length=m∧Dat.Fs P w cs a
 len h:=h.1
 one h:=Dat.Fs.one h.2
 keep h1 h2 h:=⟨h.1,Dat.Fs.of_cells h1 h2 h.2⟩
theorem GRow.dat {m e B:Nat}{w:World}{v:Value}{l:List (List Dat)}(hm:0<m) (h:GRow (z6 m) e B w v l):∃a c,v=.slice a l.length c∧l.length≤c∧Dat.Rows (fun b=>B≤b) w a l:=by
 obtain⟨a,c,rfl,hc⟩:=h.form
 refine⟨a,c,rfl,hc,?_⟩
 rcases Nat.eq_zero_or_pos l.length with h0|h0
 ·have:l=[]:=List.eq_nil_of_length_eq_zero h0
  subst this;trivial
 ·obtain⟨g,cap,cs,hv,hg,-⟩:=h.at h0
  injection hv with e1 _ _
  subst e1
  have hel:∀e∈l,e.length=m:=by
   intro x hx
   obtain⟨i,hi,rfl⟩:=List.getElem_of_mem hx
   obtain⟨_,_,cs,-,-,-,-,h1,h2,-⟩:=h.at hi
   rw[←Dat.Fs.length h1.2];exact h2
  refine Dat.Rows.of_at hg hm hel fun i hi=>?_
  obtain⟨g',cap',cs,hv',-,-,-,h1,h2,h3⟩:=h.at hi
  injection hv' with e1 _ _
  injection e1 with e1;injection e1 with e1 _ _
  subst e1
  exact⟨cs,fun j u hu=>by have:=h3 j u hu;simpa[z6]using this,h1.2.mono fun b hb _=>hb.1⟩
def byt (s:ByteArray) (i:Nat):Int:=if h:i<s.size then ((s[i]).toNat:Int)else -1
theorem zbs {s:ByteArray}{i:Nat}(h:i<s.size):byt s i=((s[i]).toNat:Int):=dif_pos h
theorem zds {s:ByteArray}{i:Nat}(h:s.size≤i):byt s i=-1:=dif_neg (by omega)
def zay (s:ByteArray):ByteArray×Bool :=
 if named s then (if 97≤byt s 0∧byt s 0≤122 then (s,true)else (⟨#[39]⟩++s++⟨#[39]⟩,true))else (⟨#[]⟩,false)
structure Tok where
 kind:Int
 text:ByteArray
 at':Int
def Tok.vals (t:Tok):Array Value:=#[.int .i64 t.kind,.string t.text,.int .i64 t.at']
def Tok.dat (t:Tok):List Dat:=[.int t.kind,.str t.text,.int t.at']
def Tok.ok (t:Tok):Prop:=(-9223372036854775808≤t.kind∧t.kind≤9223372036854775807)∧t.text.size≤1073741824∧(-9223372036854775808≤t.at'∧t.at'≤9223372036854775807)
theorem Tok.fs {t:Tok}(h:t.ok) (P:Nat→Prop) (w:World):(z6 3).is P w [.int .i64 t.kind,.string t.text,.int .i64 t.at'] t.dat :=
 ⟨rfl,⟨rfl,h.1⟩,⟨rfl,h.2.1⟩,⟨rfl,h.2.2⟩,trivial⟩
theorem z1h:(Tryz.prog.info? 77).map (fun i=>(i.zero,i.size,i.bytes))=some (some (.agg #[.int .i64 0,.string ⟨#[]⟩,.int .i64 0]),3,32):=by kernel_rfl
inductive Rd (α:Type) where
 |ok (x:α) (ks:List Tok)
 |bad (ks:List Tok)
def Rd.bind {α β:Type}(x:Rd α) (g:α→List Tok→Rd β):Rd β:=match x with
 |.ok x ks=>g x ks
 |.bad ks=>.bad ks
def Rd.map {α β:Type}(g:α→β) (x:Rd α):Rd β:=match x with
 |.ok x ks=>.ok (g x) ks
 |.bad ks=>.bad ks
def Rd.rest {α:Type}:Rd α→List Tok
 |.ok _ ks=>ks
 |.bad ks=>ks
@[simp] theorem Rd.bind_ok {α β : Type} (x : α) (ks : List Tok) (g : α → List Tok → Rd β) : Rd.bind (.ok x ks) g = g x ks := rfl
@[simp] theorem Rd.bind_bad {α β : Type} (ks : List Tok) (g : α → List Tok → Rd β) : Rd.bind (.bad ks) g = .bad ks := rfl
@[simp] theorem Rd.map_ok {α β : Type} (x : α) (ks : List Tok) (g : α → β) : Rd.map g (.ok x ks) = .ok (g x) ks := rfl
@[simp] theorem Rd.map_bad {α β : Type} (ks : List Tok) (g : α → β) : Rd.map g (.bad ks) = .bad ks := rfl
def Tok.named (t:Tok):Bool:=decide (t.kind=1) || (decide (t.kind=4)&&Go.Proofs.YtnclgkdpafhogaaGreat.named t.text)
def Tok.sign (t:Tok) (s:ByteArray):Bool:=decide (t.kind=6)&&decide (t.text=s)
def zx (s:ByteArray):List Tok→Option (List Tok)
 |[]=>none
 |t::ks=>if t.sign s then some ks else none
theorem zce (s:ByteArray) (t:Tok) (ks:List Tok):zx s (t::ks)=if t.sign s then some ks else none:=rfl
def zw (s:ByteArray) (ks:List Tok):Rd Unit:=match zx s ks with
 |some r=>.ok () r
 |none=>.bad ks
def za5 (k:Int):List Tok→Rd ByteArray
 |[]=>.bad []
 |t::ks=>if t.kind=k then .ok t.text ks else .bad (t::ks)
theorem zcf (k:Int) (t:Tok) (ks:List Tok):za5 k (t::ks)=if t.kind=k then .ok t.text ks else .bad (t::ks):=rfl
def ze4 {α:Type}(one:List Tok→Rd α) (sep:ByteArray):Nat→List Tok→Rd (List α)
 |0,ks=>.bad ks
 |f+1,ks=>match zx sep ks with
  |none=>.ok [] ks
  |some r=>(one r).bind fun x r'=>(ze4 one sep f r').map (x::·)
def more {α:Type}(one:List Tok→Rd α) (sep:ByteArray) (ks:List Tok):Rd (List α):=ze4 one sep (ks.length+1) ks
def rowR {α:Type}(one:List Tok→Rd α) (sep:ByteArray) (ks:List Tok):Rd (List α):=(one ks).bind fun x r=>(more one sep r).map (x::·)
def zbh {α:Type}(one:List Tok→Rd α) (n:Nat):Prop:=∀ks x r,ks.length≤n→one ks=.ok x r→r.length<ks.length
theorem zv {s:ByteArray}{ks r:List Tok}(h:zx s ks=some r):r.length+1=ks.length:=by
 cases ks with
 |nil=>cases h
 |cons t ks =>
  rw[zce]at h
  split at h
  ·injection h with h;subst h;rfl
  ·cases h
theorem zit {α:Type}{one two:List Tok→Rd α}{sep:ByteArray}{n:Nat}(hs:zbh one n) (he:∀ks,ks.length<n→one ks=two ks) :
  ∀(f g:Nat) (ks:List Tok),ks.length≤n→ks.length<f→ks.length<g→ze4 one sep f ks=ze4 two sep g ks
 |0,_,_,_,h,_=>by omega
 |_+1,0,_,_,_,h=>by omega
 |f+1,g+1,ks,hn,h1,h2=>by
  unfold ze4
  cases ht:zx sep ks with
  |none=>rfl
  |some r =>
   have hl:=zv ht
   simp only
   rw[←he r (by omega)]
   cases ho:one r with
   |bad r'=>rfl
   |ok x r' =>
    have:=hs r x r' (by omega) ho
    simp only[Rd.bind_ok]
    rw[zit hs he f g r' (by omega) (by omega) (by omega)]
theorem zlm {α:Type}{one two:List Tok→Rd α}{sep:ByteArray}{n:Nat}(hs:zbh one n) (he:∀ks,ks.length<n→one ks=two ks){ks:List Tok}(hk:ks.length≤n):more one sep ks=more two sep ks :=
 zit hs he _ _ ks hk (by omega) (by omega)
theorem zdj {α:Type}{one:List Tok→Rd α}{sep:ByteArray}{ks:List Tok}(hs:zbh one ks.length):more one sep ks=match zx sep ks with
  |none=>.ok [] ks
  |some r=>(one r).bind fun x r'=>(more one sep r').map (x::·):=by
 conv=>lhs;unfold more ze4
 cases ht:zx sep ks with
 |none=>rfl
 |some r =>
  have hl:=zv ht
  simp only
  cases ho:one r with
  |bad r'=>rfl
  |ok x r' =>
   have:=hs r x r' (by omega) ho
   simp only[Rd.bind_ok]
   rw[zit hs (fun _ _=>rfl) ks.length (r'.length+1) r' (by omega) (by omega) (by omega)]
   rfl
theorem zj9 {α:Type}{one:List Tok→Rd α}{sep:ByteArray}:∀ {f:Nat}{ks:List Tok}{l:List α}{r:List Tok},zbh one ks.length→ze4 one sep f ks=.ok l r→r.length≤ks.length
 |0,_,_,_,_,h=>by cases h
 |f+1,ks,l,r,hs,h=>by
  unfold ze4 at h
  cases ht:zx sep ks with
  |none=>rw[ht]at h;injection h with _ h;subst h;exact Nat.le_refl _
  |some r1 =>
   have hl:=zv ht
   rw[ht]at h
   simp only at h
   cases ho:one r1 with
   |bad r'=>rw[ho]at h;cases h
   |ok x r' =>
    have hlt:=hs r1 x r' (by omega) ho
    rw[ho,Rd.bind_ok]at h
    cases hm:ze4 one sep f r' with
    |bad r2=>rw[hm]at h;cases h
    |ok l' r2 =>
     rw[hm]at h
     injection h with _ h;subst h
     have:=zj9 (fun ks x r hk=>hs ks x r (by omega)) hm
     omega
theorem zka {α:Type}{one:List Tok→Rd α}{sep:ByteArray}{ks:List Tok}{l:List α}{r:List Tok}(hs:zbh one ks.length) (h:rowR one sep ks=.ok l r):r.length<ks.length:=by
 unfold rowR at h
 cases ho:one ks with
 |bad r'=>rw[ho]at h;cases h
 |ok x r' =>
  have hlt:=hs ks x r' (Nat.le_refl _) ho
  rw[ho,Rd.bind_ok]at h
  cases hm:more one sep r' with
  |bad r2=>rw[hm]at h;cases h
  |ok l' r2 =>
   rw[hm]at h
   injection h with _ h;subst h
   have:=zj9 (fun ks x r hk=>hs ks x r (by omega)) hm
   omega
theorem zwy {α:Type}{one two:List Tok→Rd α}{sep:ByteArray}{n:Nat}(hs:zbh one n) (he:∀ks,ks.length≤n→one ks=two ks){ks:List Tok}(hk:ks.length≤n):rowR one sep ks=rowR two sep ks:=by
 unfold rowR
 rw[←he ks hk]
 cases ho:one ks with
 |bad r'=>rfl
 |ok x r' =>
  have hlt:=hs ks x r' hk ho
  simp only[Rd.bind_ok]
  rw[zlm hs (fun ks hk=>he ks (by omega)) (ks:=r') (by omega)]
def zbp:ByteArray:=⟨#[40]⟩
def zcx:ByteArray:=⟨#[41]⟩
def zj:ByteArray:=⟨#[44]⟩
def ziu:ByteArray:=⟨#[91]⟩
def zln:ByteArray:=⟨#[93]⟩
def znd:ByteArray:=⟨#[58]⟩
def sEq:ByteArray:=⟨#[61]⟩
def sNe:ByteArray:=⟨#[33,61]⟩
def sNot:ByteArray:=⟨#[126]⟩
def sAll:ByteArray:=⟨#[33]⟩
def zj0:ByteArray:=⟨#[63]⟩
def sAnd:ByteArray:=⟨#[38]⟩
def sOr:ByteArray:=⟨#[124]⟩
def sImp:ByteArray:=⟨#[61,62]⟩
def sRev:ByteArray:=⟨#[60,61]⟩
def sIff:ByteArray:=⟨#[60,61,62]⟩
def sXor:ByteArray:=⟨#[60,126,62]⟩
def sNor:ByteArray:=⟨#[126,124]⟩
def zwz:ByteArray:=⟨#[126,38]⟩
def zmm:ByteArray:=⟨#[36,116,114,117,101]⟩
def zgk:ByteArray:=⟨#[36,102,97,108,115,101]⟩
def zdt (one:List Tok→Rd Ex):List Tok→Rd Ex
 |[]=>.bad []
 |t::ks =>
  if t.kind=2 then .ok (.mk true t.text []) ks
  else if t.named then match zx zbp ks with
   |none=>.ok (.mk false t.text []) ks
   |some r=>(rowR one zj r).bind fun l r'=>(zw zcx r').map fun _=>.mk false t.text l
  else .bad (t::ks)
theorem zam (one:List Tok→Rd Ex) (t:Tok) (ks:List Tok):zdt one (t::ks)=if t.kind=2 then .ok (.mk true t.text []) ks
  else if t.named then match zx zbp ks with
   |none=>.ok (.mk false t.text []) ks
   |some r=>(rowR one zj r).bind fun l r'=>(zw zcx r').map fun _=>.mk false t.text l
  else .bad (t::ks):=rfl
def zhw:Nat→List Tok→Rd Ex
 |0,ks=>.bad ks
 |f+1,ks=>zdt (zhw f) ks
def za2 (ks:List Tok):Rd Ex:=zhw (ks.length+1) ks
theorem za7 {s:ByteArray}{ks r:List Tok}{u:Unit}(h:zw s ks=.ok u r):r.length+1=ks.length:=by
 unfold zw at h
 split at h
 ·rename_i h';injection h with _ h;subst h;exact zv h'
 ·cases h
theorem zkb {k:Int}{ks r:List Tok}{x:ByteArray}(h:za5 k ks=.ok x r):r.length+1=ks.length:=by
 cases ks with
 |nil=>cases h
 |cons t ks =>
  rw[zcf]at h
  split at h
  ·injection h with _ h;subst h;rfl
  ·cases h
theorem zb3 (k:Int) (n:Nat):zbh (za5 k) n:=fun ks x r _ h=>by have:=zkb h;omega
theorem zsc {one:List Tok→Rd Ex}{ks:List Tok}{x:Ex}{r:List Tok}(hs:zbh one (ks.length-1)) (h:zdt one ks=.ok x r):r.length<ks.length:=by
 cases ks with
 |nil=>cases h
 |cons t ks =>
  rw[zam]at h
  simp only[List.length_cons,Nat.add_sub_cancel]at hs ⊢
  split at h
  ·injection h with _ h;subst h;omega
  ·split at h
   ·split at h
    ·injection h with _ h;subst h;omega
    ·rename_i r1 hr
     have:=zv hr
     cases hm:rowR one zj r1 with
     |bad r2=>rw[hm]at h;cases h
     |ok l r2 =>
      rw[hm,Rd.bind_ok]at h
      have:=zka (fun ks x r hk=>hs ks x r (by omega)) hm
      cases hq:zw zcx r2 with
      |bad r3=>rw[hq]at h;cases h
      |ok u r3 =>
       rw[hq]at h
       injection h with _ h;subst h
       have:=za7 hq
       omega
   ·cases h
theorem zhx:∀(f:Nat){ks:List Tok}{x:Ex}{r:List Tok},zhw f ks=.ok x r→r.length<ks.length
 |0,_,_,_,h=>by cases h
 |f+1,_,_,_,h=>zsc (fun _ _ _ _ h=>zhx f h) h
theorem zhy {one two:List Tok→Rd Ex}{ks:List Tok}(hs:zbh one ks.length) (he:∀k,k.length<ks.length→one k=two k):zdt one ks=zdt two ks:=by
 cases ks with
 |nil=>rfl
 |cons t ks =>
  rw[zam,zam]
  split
  ·rfl
  ·split
   ·cases ht:zx zbp ks with
    |none=>rfl
    |some r =>
     have hl:=zv ht
     simp only
     rw[zwy (n:=r.length) (fun ks x r hk=>hs ks x r (by simp;omega)) (fun k hk=>he k (by simp;omega)) (Nat.le_refl _)]
   ·rfl
theorem zlo:∀(f g:Nat) (ks:List Tok),ks.length<f→ks.length<g→zhw f ks=zhw g ks
 |0,_,_,h,_=>by omega
 |_+1,0,_,_,h=>by omega
 |f+1,g+1,ks,h1,h2=>zhy (fun _ _ _ _ h=>zhx f h) fun k hk=>zlo f g k (by omega) (by omega)
theorem zhz (ks:List Tok):za2 ks=zdt za2 ks :=
 zhy (fun _ _ _ _ h=>zhx _ h) fun k hk=>zlo _ _ k (by omega) (by omega)
theorem zf2 {ks:List Tok}{x:Ex}{r:List Tok}(h:za2 ks=.ok x r):r.length<ks.length:=zhx _ h
theorem zew (n:Nat):zbh za2 n:=fun _ _ _ _ h=>zf2 h
def zzp:Fm:=.mk 1 [] [] []
def ztj:Fm:=.mk 2 [] [] []
def zzq (x:Ex):Fm:=.mk 3 [] [x] []
def fEq (x y:Ex):Fm:=.mk 4 [] [x,y] []
def fNot (f:Fm):Fm:=.mk 5 [] [] [f]
def fOf (op:Int) (l:List Fm):Fm:=.mk op [] [] l
def za3 (ks:List Tok):Rd Fm :=
 if (ks.head?.map fun t=>decide (t.kind=3)&&decide (t.text=zmm))=some true then .ok zzp ks.tail
 else if (ks.head?.map fun t=>decide (t.kind=3)&&decide (t.text=zgk))=some true then .ok ztj ks.tail
 else (za2 ks).bind fun x r=>match zx sEq r with
  |some r'=>(za2 r').map fun y=>fEq x y
  |none=>match zx sNe r with
   |some r'=>(za2 r').map fun y=>fNot (fEq x y)
   |none=>if x.var then .bad r else .ok (zzq x) r
def zad (u:List Tok→Rd Fm) (op:Int) (ks:List Tok):Rd Fm :=
 (zw ziu ks).bind fun _ r1=>(rowR (za5 2) zj r1).bind fun vs r2=>(zw zln r2).bind fun _ r3=>(zw znd r3).bind fun _ r4=>(u r4).map fun f=>.mk op vs [] [f]
def zdl (s:ByteArray):Option (Fm→Fm→Fm) :=
 if s=sImp then some fun f g=>fOf 8 [f,g]
 else if s=sRev then some fun f g=>fOf 8 [g,f]
 else if s=sIff then some fun f g=>fOf 9 [f,g]
 else if s=sXor then some fun f g=>fOf 10 [f,g]
 else if s=sNor then some fun f g=>fNot (fOf 7 [f,g])
 else if s=zwz then some fun f g=>fNot (fOf 6 [f,g])
 else none
def zc6 (u:List Tok→Rd Fm) (f:Fm):List Tok→Rd Fm
 |[]=>.ok f []
 |t::r =>
  if t.kind≠6 then .ok f (t::r)
  else if t.text=sAnd then (more u sAnd (t::r)).map fun l=>fOf 6 (f::l)
  else if t.text=sOr then (more u sOr (t::r)).map fun l=>fOf 7 (f::l)
  else match zdl t.text with
   |some b=>(u r).map fun g=>b f g
   |none=>.ok f (t::r)
theorem zl (u:List Tok→Rd Fm) (f:Fm) (t:Tok) (r:List Tok):zc6 u f (t::r)=if t.kind≠6 then .ok f (t::r)
  else if t.text=sAnd then (more u sAnd (t::r)).map fun l=>fOf 6 (f::l)
  else if t.text=sOr then (more u sOr (t::r)).map fun l=>fOf 7 (f::l)
  else match zdl t.text with
   |some b=>(u r).map fun g=>b f g
   |none=>.ok f (t::r):=rfl
def zh (u:List Tok→Rd Fm) (ks:List Tok):Rd Fm:=(u ks).bind fun f r=>zc6 u f r
def zan (u:List Tok→Rd Fm) (ks:List Tok):Rd Fm :=
 match zx sNot ks with
 |some r=>(u r).map fNot
 |none=>match zx sAll ks with
  |some r=>zad u 11 r
  |none=>match zx zj0 ks with
   |some r=>zad u 12 r
   |none=>match zx zbp ks with
    |some r=>(zh u r).bind fun f r'=>(zw zcx r').map fun _=>f
    |none=>za3 ks
def zh0:Nat→List Tok→Rd Fm
 |0,ks=>.bad ks
 |f+1,ks=>zan (zh0 f) ks
def zr (ks:List Tok):Rd Fm:=zh0 (ks.length+1) ks
def zex (ks:List Tok):Rd Fm:=zh zr ks
theorem map_ok {α β:Type}{g:α→β}{x:Rd α}{y:β}{r:List Tok}(h:x.map g=.ok y r):∃z,x=.ok z r∧g z=y:=by
 cases x with
 |ok z r'=>injection h with h1 h2;subst h2;exact⟨z,rfl,h1⟩
 |bad r'=>cases h
theorem bind_ok {α β:Type}{g:α→List Tok→Rd β}{x:Rd α}{y:β}{r:List Tok}(h:x.bind g=.ok y r):∃z r',x=.ok z r'∧g z r'=.ok y r:=by
 cases x with
 |ok z r'=>exact⟨z,r',rfl,h⟩
 |bad r'=>cases h
theorem zne {ks:List Tok}{x:Fm}{r:List Tok}(h:za3 ks=.ok x r):r.length<ks.length:=by
 unfold za3 at h
 split at h
 ·rename_i h1
  injection h with _ h;subst h
  cases ks with
  |nil=>cases h1
  |cons t ks=>simp
 ·split at h
  ·rename_i h1
   injection h with _ h;subst h
   cases ks with
   |nil=>cases h1
   |cons t ks=>simp
  ·obtain⟨z,r1,h1,h⟩:=bind_ok h
   have:=zf2 h1
   split at h
   ·rename_i h2
    obtain⟨y,h3,-⟩:=map_ok h
    have:=zf2 h3
    have:=zv h2
    omega
   ·split at h
    ·rename_i h2
     obtain⟨y,h3,-⟩:=map_ok h
     have:=zf2 h3
     have:=zv h2
     omega
    ·split at h
     ·cases h
     ·injection h with _ h;subst h;omega
theorem zjq {u:List Tok→Rd Fm}{op:Int}{ks:List Tok}{x:Fm}{r:List Tok}(hs:zbh u ks.length) (h:zad u op ks=.ok x r):r.length<ks.length:=by
 unfold zad at h
 obtain⟨_,r1,h1,h⟩:=bind_ok h
 obtain⟨_,r2,h2,h⟩:=bind_ok h
 obtain⟨_,r3,h3,h⟩:=bind_ok h
 obtain⟨_,r4,h4,h⟩:=bind_ok h
 obtain⟨z,h5,-⟩:=map_ok h
 have:=za7 h1
 have:=zka (zb3 2 _) h2
 have:=za7 h3
 have:=za7 h4
 have:=hs r4 z r (by omega) h5
 omega
theorem zol {u:List Tok→Rd Fm}{f:Fm}{ks:List Tok}{x:Fm}{r:List Tok}(hs:zbh u ks.length) (h:zc6 u f ks=.ok x r):r.length≤ks.length:=by
 cases ks with
 |nil=>injection h with _ h;subst h;simp
 |cons t ks =>
  rw[zl]at h
  split at h
  ·injection h with _ h;subst h;simp
  ·split at h
   ·obtain⟨l,h1,-⟩:=map_ok h
    exact zj9 hs h1
   ·split at h
    ·obtain⟨l,h1,-⟩:=map_ok h
     exact zj9 hs h1
    ·split at h
     ·obtain⟨l,h1,-⟩:=map_ok h
      have:=hs ks l r (by simp) h1
      simp;omega
     ·injection h with _ h;subst h;simp
theorem zlp {u:List Tok→Rd Fm}{ks:List Tok}{x:Fm}{r:List Tok}(hs:zbh u ks.length) (h:zh u ks=.ok x r):r.length<ks.length:=by
 unfold zh at h
 obtain⟨f,r1,h1,h⟩:=bind_ok h
 have h2:=hs ks f r1 (Nat.le_refl _) h1
 have:=zol (fun ks x r hk=>hs ks x r (by omega)) h
 omega
theorem zsd {u:List Tok→Rd Fm}{ks:List Tok}{x:Fm}{r:List Tok}(hs:zbh u (ks.length-1)) (h:zan u ks=.ok x r):r.length<ks.length:=by
 unfold zan at h
 split at h
 ·rename_i r1 hr
  have:=zv hr
  obtain⟨z,h1,-⟩:=map_ok h
  have:=hs r1 z r (by omega) h1
  omega
 ·split at h
  ·rename_i r1 hr
   have:=zv hr
   have:=zjq (fun ks x r hk=>hs ks x r (by omega)) h
   omega
  ·split at h
   ·rename_i r1 hr
    have:=zv hr
    have:=zjq (fun ks x r hk=>hs ks x r (by omega)) h
    omega
   ·split at h
    ·rename_i r1 hr
     have:=zv hr
     obtain⟨f,r2,h1,h⟩:=bind_ok h
     obtain⟨z,h2,-⟩:=map_ok h
     have:=zlp (fun ks x r hk=>hs ks x r (by omega)) h1
     have:=za7 h2
     omega
    ·exact zne h
theorem zh1:∀(f:Nat){ks:List Tok}{x:Fm}{r:List Tok},zh0 f ks=.ok x r→r.length<ks.length
 |0,_,_,_,h=>by cases h
 |f+1,_,_,_,h=>zsd (fun _ _ _ _ h=>zh1 f h) h
theorem zgl {u v:List Tok→Rd Fm}{op:Int}{ks:List Tok}(he:∀k,k.length<ks.length→u k=v k):zad u op ks=zad v op ks:=by
 unfold zad
 cases h1:zw ziu ks with
 |bad _=>rfl
 |ok _ r1 =>
  simp only[Rd.bind_ok]
  cases h2:rowR (za5 2) zj r1 with
  |bad _=>rfl
  |ok vs r2 =>
   simp only[Rd.bind_ok]
   cases h3:zw zln r2 with
   |bad _=>rfl
   |ok _ r3 =>
    simp only[Rd.bind_ok]
    cases h4:zw znd r3 with
    |bad _=>rfl
    |ok _ r4 =>
     have:=za7 h1
     have:=zka (zb3 2 _) h2
     have:=za7 h3
     have:=za7 h4
     simp only[Rd.bind_ok]
     rw[he r4 (by omega)]
theorem zlq {u v:List Tok→Rd Fm}{f:Fm}{ks:List Tok}(hs:zbh u ks.length) (he:∀k,k.length<ks.length→u k=v k):zc6 u f ks=zc6 v f ks:=by
 cases ks with
 |nil=>rfl
 |cons t ks =>
  rw[zl,zl,zlm hs he (Nat.le_refl _),zlm hs he (Nat.le_refl _),he ks (by simp)]
theorem zom {u v:List Tok→Rd Fm}{ks:List Tok}(hs:zbh u ks.length) (he:∀k,k.length≤ks.length→u k=v k):zh u ks=zh v ks:=by
 unfold zh
 rw[←he ks (Nat.le_refl _)]
 cases h:u ks with
 |bad _=>rfl
 |ok f r =>
  have:=hs ks f r (Nat.le_refl _) h
  simp only[Rd.bind_ok]
  exact zlq (fun ks x r hk=>hs ks x r (by omega)) fun k hk=>he k (by omega)
theorem zh2 {u v:List Tok→Rd Fm}{ks:List Tok}(hs:zbh u ks.length) (he:∀k,k.length<ks.length→u k=v k):zan u ks=zan v ks:=by
 unfold zan
 cases h1:zx sNot ks with
 |some r=>have:=zv h1;simp only;rw[he r (by omega)]
 |none =>
  simp only
  cases h2:zx sAll ks with
  |some r=>have:=zv h2;exact zgl fun k hk=>he k (by omega)
  |none =>
   simp only
   cases h3:zx zj0 ks with
   |some r=>have:=zv h3;exact zgl fun k hk=>he k (by omega)
   |none =>
    simp only
    cases h4:zx zbp ks with
    |some r =>
     have:=zv h4
     simp only
     rw[zom (ks:=r) (fun ks x r hk=>hs ks x r (by omega)) fun k hk=>he k (by omega)]
    |none=>rfl
theorem zlr:∀(f g:Nat) (ks:List Tok),ks.length<f→ks.length<g→zh0 f ks=zh0 g ks
 |0,_,_,h,_=>by omega
 |_+1,0,_,_,h=>by omega
 |f+1,g+1,ks,h1,h2=>zh2 (fun _ _ _ _ h=>zh1 f h) fun k hk=>zlr f g k (by omega) (by omega)
theorem zdc (ks:List Tok):zr ks=zan zr ks :=
 zh2 (fun _ _ _ _ h=>zh1 _ h) fun k hk=>zlr _ _ k (by omega) (by omega)
theorem zb4 {ks:List Tok}{x:Fm}{r:List Tok}(h:zr ks=.ok x r):r.length<ks.length:=zh1 _ h
theorem zcq (n:Nat):zbh zr n:=fun _ _ _ _ h=>zb4 h
theorem zzr {ks:List Tok}{x:Fm}{r:List Tok}(h:zex ks=.ok x r):r.length<ks.length:=zlp (zcq _) h
theorem zz {α β:Type}{x:Rd α}{g:α→List Tok→Rd β}{ks:List Tok}(h:x.rest <:+ ks) (hg:∀y r,x=.ok y r→(g y r).rest <:+ r):(x.bind g).rest <:+ ks:=by
 cases x with
 |ok y r=>exact(hg y r rfl).trans h
 |bad r=>exact h
theorem zby {α β:Type}{x:Rd α}{g:α→β}{ks:List Tok}(h:x.rest <:+ ks):(x.map g).rest <:+ ks:=by
 cases x with
 |ok y r=>exact h
 |bad r=>exact h
theorem zbm {s:ByteArray}{ks r:List Tok}(h:zx s ks=some r):r <:+ ks:=by
 cases ks with
 |nil=>cases h
 |cons t ks =>
  rw[zce]at h
  split at h
  ·injection h with h;subst h;exact List.suffix_cons _ _
  ·cases h
theorem z7 (s:ByteArray) (ks:List Tok):(zw s ks).rest <:+ ks:=by
 unfold zw
 split
 ·rename_i h;exact zbm h
 ·exact List.suffix_refl _
theorem zfp (k:Int) (ks:List Tok):(za5 k ks).rest <:+ ks:=by
 cases ks with
 |nil=>exact List.suffix_refl _
 |cons t ks =>
  rw[zcf]
  split
  ·exact List.suffix_cons _ _
  ·exact List.suffix_refl _
theorem zqg {α:Type}{one:List Tok→Rd α}{sep:ByteArray}(h1:∀ks,(one ks).rest <:+ ks):∀(f:Nat) (ks:List Tok),(ze4 one sep f ks).rest <:+ ks
 |0,ks=>List.suffix_refl _
 |f+1,ks=>by
  unfold ze4
  split
  ·exact List.suffix_refl _
  ·rename_i r hr
   exact(zz (h1 r) fun y r' _=>zby (zqg h1 f r')).trans (zbm hr)
theorem zon {α:Type}{one:List Tok→Rd α}{sep:ByteArray}(h1:∀ks,(one ks).rest <:+ ks) (ks:List Tok):(more one sep ks).rest <:+ ks:=zqg h1 _ ks
theorem zoo {α:Type}{one:List Tok→Rd α}{sep:ByteArray}(h1:∀ks,(one ks).rest <:+ ks) (ks:List Tok):(rowR one sep ks).rest <:+ ks :=
 zz (h1 ks) fun _ r _=>zby (zon h1 r)
theorem zqh {one:List Tok→Rd Ex}(h1:∀ks,(one ks).rest <:+ ks) (ks:List Tok):(zdt one ks).rest <:+ ks:=by
 cases ks with
 |nil=>exact List.suffix_refl _
 |cons t ks =>
  rw[zam]
  split
  ·exact List.suffix_cons _ _
  ·split
   ·split
    ·exact List.suffix_cons _ _
    ·rename_i r hr
     exact((zz (zoo h1 r) fun _ r' _=>zby (z7 _ r')).trans (zbm hr)).trans (List.suffix_cons _ _)
   ·exact List.suffix_refl _
theorem znf:∀(f:Nat) (ks:List Tok),(zhw f ks).rest <:+ ks
 |0,_=>List.suffix_refl _
 |f+1,ks=>zqh (znf f) ks
theorem zls (ks:List Tok):(za2 ks).rest <:+ ks:=znf _ ks
theorem zse (ks:List Tok):(za3 ks).rest <:+ ks:=by
 unfold za3
 split
 ·exact List.tail_suffix _
 ·split
  ·exact List.tail_suffix _
  ·refine zz (zls ks) fun x r _=>?_
   split
   ·rename_i r' hr;exact(zby (zls r')).trans (zbm hr)
   ·split
    ·rename_i r' hr;exact(zby (zls r')).trans (zbm hr)
    ·split<;>exact List.suffix_refl _
theorem zh3 {u:List Tok→Rd Fm}(h1:∀ks,(u ks).rest <:+ ks) (op:Int) (ks:List Tok):(zad u op ks).rest <:+ ks :=
 zz (z7 _ ks) fun _ r1 _=>zz (zoo (zfp 2) r1) fun _ r2 _=>zz (z7 _ r2) fun _ r3 _=>zz (z7 _ r3) fun _ r4 _=>zby (h1 r4)
theorem zmn {u:List Tok→Rd Fm}(h1:∀ks,(u ks).rest <:+ ks) (f:Fm) (ks:List Tok):(zc6 u f ks).rest <:+ ks:=by
 cases ks with
 |nil=>exact List.suffix_refl _
 |cons t ks =>
  rw[zl]
  split
  ·exact List.suffix_refl _
  ·split
   ·exact zby (zon h1 _)
   ·split
    ·exact zby (zon h1 _)
    ·split
     ·exact(zby (h1 ks)).trans (List.suffix_cons _ _)
     ·exact List.suffix_refl _
theorem zjr {u:List Tok→Rd Fm}(h1:∀ks,(u ks).rest <:+ ks) (ks:List Tok):(zh u ks).rest <:+ ks :=
 zz (h1 ks) fun f r _=>zmn h1 f r
theorem zqi {u:List Tok→Rd Fm}(h1:∀ks,(u ks).rest <:+ ks) (ks:List Tok):(zan u ks).rest <:+ ks:=by
 unfold zan
 split
 ·rename_i r hr;exact(zby (h1 r)).trans (zbm hr)
 ·split
  ·rename_i r hr;exact(zh3 h1 _ r).trans (zbm hr)
  ·split
   ·rename_i r hr;exact(zh3 h1 _ r).trans (zbm hr)
   ·split
    ·rename_i r hr;exact(zz (zjr h1 r) fun _ r' _=>zby (z7 _ r')).trans (zbm hr)
    ·exact zse ks
theorem zng:∀(f:Nat) (ks:List Tok),(zh0 f ks).rest <:+ ks
 |0,_=>List.suffix_refl _
 |f+1,ks=>zqi (zng f) ks
theorem zw0 (ks:List Tok):(zr ks).rest <:+ ks:=zng _ ks
theorem zqj (ks:List Tok):(zex ks).rest <:+ ks:=zjr zw0 ks
theorem ztk {α:Type}{f g:α→Nat}(h:∀x,f x≤g x):∀l:List α,(l.map f).sum≤(l.map g).sum
 |[]=>by simp
 |x::l=>by have:=h x;have:=ztk h l;simp only[List.map_cons,List.sum_cons];omega
theorem ztl {α:Type}:∀l:List α,(l.map fun _=>1).sum=l.length
 |[]=>rfl
 |x::l=>by have:=ztl l;simp only[List.map_cons,List.sum_cons,List.length_cons];omega
def Fits {α:Type}(m:α→Nat) (one:List Tok→Rd α):Prop:=∀ks x r,one ks=.ok x r→m x+2 * r.length≤2 * ks.length
theorem ziv {α:Type}{m:α→Nat}{one:List Tok→Rd α}{sep:ByteArray}(h1:Fits m one):∀(f:Nat) (ks:List Tok) (l:List α) (r:List Tok),ze4 one sep f ks=.ok l r→(l.map fun x=>m x+2).sum+2 * r.length≤2 * ks.length
 |0,_,_,_,h=>by cases h
 |f+1,ks,l,r,h=>by
  unfold ze4 at h
  split at h
  ·injection h with h1 h2;subst h1;subst h2;simp
  ·rename_i r1 hr
   have:=zv hr
   obtain⟨x,r2,h2,h3⟩:=bind_ok h
   obtain⟨l',h4,rfl⟩:=map_ok h3
   have:=h1 _ _ _ h2
   have:=ziv h1 f r2 l' r h4
   simp only[List.map_cons,List.sum_cons]
   omega
theorem zqk {α:Type}{m:α→Nat}{one:List Tok→Rd α}{sep:ByteArray}(h1:Fits m one){ks:List Tok}{l:List α}{r:List Tok}(h:rowR one sep ks=.ok l r):(l.map m).sum+2 * r.length≤2 * ks.length:=by
 unfold rowR at h
 obtain⟨x,r2,h2,h3⟩:=bind_ok h
 obtain⟨l',h4,rfl⟩:=map_ok h3
 have a1:=h1 _ _ _ h2
 have a2:=ziv h1 _ _ _ _ h4
 have a3:(l'.map m).sum≤(l'.map fun x=>m x+2).sum:=ztk (fun x=>by omega) _
 simp only[List.map_cons,List.sum_cons]
 omega
theorem Ex.sizes_sum:∀l:List Ex,Ex.sizes l=(l.map Ex.size).sum
 |[]=>rfl
 |e::l=>by simp only[Ex.sizes,List.map_cons,List.sum_cons,Ex.sizes_sum l]
theorem Fm.sizes_sum:∀l:List Fm,Fm.sizes l=(l.map Fm.size).sum
 |[]=>rfl
 |e::l=>by simp only[Fm.sizes,List.map_cons,List.sum_cons,Fm.sizes_sum l]
theorem zlt:∀f,Fits (fun x:Ex=>x.size+1) (zhw f)
 |0=>fun ks x r h=>by cases h
 |f+1=>fun ks x r h=>by
  have h:zdt (zhw f) ks=.ok x r:=h
  cases ks with
  |nil=>cases h
  |cons t ks =>
   rw[zam]at h
   split at h
   ·injection h with h1 h2;subst h1;subst h2;simp[Ex.size,Ex.sizes];omega
   ·split at h
    ·split at h
     ·injection h with h1 h2;subst h1;subst h2;simp[Ex.size,Ex.sizes];omega
     ·rename_i r1 hr
      have:=zv hr
      obtain⟨l,r2,h2,h3⟩:=bind_ok h
      obtain⟨u,h4,rfl⟩:=map_ok h3
      have a1:=zqk (zlt f) h2
      have a2:=za7 h4
      have a3:(l.map Ex.size).sum≤(l.map fun x:Ex=>x.size+1).sum:=ztk (fun x=>by omega) _
      simp only[Ex.size,Ex.sizes_sum,List.length_cons]
      omega
    ·cases h
theorem ziw:Fits (fun x:Ex=>x.size+1) za2:=fun ks x r h=>zlt _ ks x r h
theorem zql:Fits Fm.size za3:=fun ks x r h=>by
 have hlt:=zne h
 unfold za3 at h
 split at h
 ·injection h with h1 h2;subst h1;simp[zzp,Fm.size,Fm.sizes,Ex.sizes];omega
 ·split at h
  ·injection h with h1 h2;subst h1;simp[ztj,Fm.size,Fm.sizes,Ex.sizes];omega
  ·obtain⟨z,r1,h1,h⟩:=bind_ok h
   have a1:=ziw _ _ _ h1
   simp only at a1
   split at h
   ·rename_i h2
    obtain⟨y,h3,rfl⟩:=map_ok h
    have a2:=ziw _ _ _ h3
    have a3:=zv h2
    simp only[fEq,Fm.size,Fm.sizes,Ex.sizes,List.length_nil]at a2 ⊢
    omega
   ·split at h
    ·rename_i h2
     obtain⟨y,h3,rfl⟩:=map_ok h
     have a2:=ziw _ _ _ h3
     have a3:=zv h2
     simp only[fNot,fEq,Fm.size,Fm.sizes,Ex.sizes,List.length_nil]at a2 ⊢
     omega
    ·split at h
     ·cases h
     ·injection h with h2 h3;subst h2;subst h3
      simp only[zzq,Fm.size,Fm.sizes,Ex.sizes,List.length_nil]
      omega
theorem zgm {u:List Tok→Rd Fm}(h1:Fits Fm.size u) (op:Int){ks:List Tok}{x:Fm}{r:List Tok}(h:zad u op ks=.ok x r):x.size+2 * r.length≤2 * ks.length:=by
 unfold zad at h
 obtain⟨_,r1,h2,h⟩:=bind_ok h
 obtain⟨vs,r2,h3,h⟩:=bind_ok h
 obtain⟨_,r3,h4,h⟩:=bind_ok h
 obtain⟨_,r4,h5,h⟩:=bind_ok h
 obtain⟨z,h6,rfl⟩:=map_ok h
 have a1:=za7 h2
 have a2:=zqk (m:=fun _=>1) (fun ks x r h=>by have:=zkb h;show 1+_≤_;omega) h3
 have a3:=za7 h4
 have a4:=za7 h5
 have a5:=h1 _ _ _ h6
 have a6:(vs.map fun _=>1).sum=vs.length:=ztl vs
 simp only[Fm.size,Fm.sizes,Ex.sizes]
 omega
theorem zsf {s:ByteArray}{b:Fm→Fm→Fm}(h:zdl s=some b) (f g:Fm):(b f g).size≤f.size+g.size+2:=by
 unfold zdl at h
 repeat' split at h
 all_goals first
  |(cases h;done)
  |(injection h with h;subst h;simp[fOf,fNot,Fm.size,Fm.sizes,Ex.sizes];try omega)
theorem zqm {u:List Tok→Rd Fm}(h1:Fits Fm.size u){s:ByteArray}{t:Tok}{ks:List Tok}{l:List Fm}{r:List Tok}(ht:t.sign s=true) (h:more u s (t::ks)=.ok l r):Fm.sizes l+2+2 * r.length≤2 * (ks.length+1):=by
 have a1:=ziv h1 _ _ _ _ h
 have hne:l≠[]:=by
  unfold more ze4 at h
  have:zx s (t::ks)=some ks:=by rw[zce,if_pos ht]
  rw[this]at h
  obtain⟨x,r2,h2,h3⟩:=bind_ok h
  obtain⟨l',h4,rfl⟩:=map_ok h3
  simp
 have a2:Fm.sizes l+2≤(l.map fun x:Fm=>x.size+2).sum:=by
  clear h a1
  cases l with
  |nil=>exact absurd rfl hne
  |cons x l =>
   clear hne
   rw[Fm.sizes_sum]
   simp only[List.map_cons,List.sum_cons]
   have:(l.map Fm.size).sum≤(l.map fun x:Fm=>x.size+2).sum:=ztk (fun x=>by omega) _
   omega
 simp only[List.length_cons]at a1
 omega
theorem zh4 {u:List Tok→Rd Fm}(h1:Fits Fm.size u):Fits Fm.size (zh u):=fun ks x r h=>by
 unfold zh at h
 obtain⟨f,r1,h2,h⟩:=bind_ok h
 have a1:=h1 _ _ _ h2
 cases r1 with
 |nil=>injection h with h3 h4;subst h3;subst h4;exact a1
 |cons t r1 =>
  rw[zl]at h
  simp only[List.length_cons]at a1
  split at h
  ·injection h with h3 h4;subst h3;subst h4;exact a1
  ·rename_i hk
   have hk:t.kind=6:=by simpa using hk
   split at h
   ·rename_i hs
    obtain⟨l,h3,rfl⟩:=map_ok h
    have a2:=zqm h1 (by unfold Tok.sign;simp[hk,hs]) h3
    simp only[fOf,Fm.size,Fm.sizes,Ex.sizes,List.length_nil]
    omega
   ·split at h
    ·rename_i hs
     obtain⟨l,h3,rfl⟩:=map_ok h
     have a2:=zqm h1 (by unfold Tok.sign;simp[hk,hs]) h3
     simp only[fOf,Fm.size,Fm.sizes,Ex.sizes,List.length_nil]
     omega
    ·split at h
     ·rename_i b hb
      obtain⟨g,h3,rfl⟩:=map_ok h
      have a2:=h1 _ _ _ h3
      have a3:=zsf hb f g
      omega
     ·injection h with h3 h4;subst h3;subst h4;exact a1
theorem zdz:∀f,Fits Fm.size (zh0 f)
 |0=>fun ks x r h=>by cases h
 |f+1=>fun ks x r h=>by
  have h:zan (zh0 f) ks=.ok x r:=h
  unfold zan at h
  split at h
  ·rename_i r1 hr
   have:=zv hr
   obtain⟨z,h2,rfl⟩:=map_ok h
   have:=zdz f _ _ _ h2
   simp only[fNot,Fm.size,Fm.sizes,Ex.sizes,List.length_nil]
   omega
  ·split at h
   ·rename_i r1 hr
    have:=zv hr
    have:=zgm (zdz f) _ h
    omega
   ·split at h
    ·rename_i r1 hr
     have:=zv hr
     have:=zgm (zdz f) _ h
     omega
    ·split at h
     ·rename_i r1 hr
      have:=zv hr
      obtain⟨g,r2,h2,h3⟩:=bind_ok h
      obtain⟨u,h4,rfl⟩:=map_ok h3
      have:=zh4 (zdz f) _ _ _ h2
      have:=za7 h4
      omega
     ·exact zql _ _ _ h
theorem zur:Fits Fm.size zr:=fun ks x r h=>zdz _ ks x r h
theorem znh:Fits Fm.size zex:=zh4 zur
section
variable {α:Type}{E:Elt α}{P:Program}{w:World}
theorem zav {ops:Array Oper}{rest:List Oper}{o:Oper}{a:Act}{Q:Exit→Act→World→Prop}(hgd:o.guard=none) (s x:Operand) (t:TypeId)
  (ho:o.op=.call { callee:=.builtin .append,args:=#[s,x],argTypes:=#[t,t] })
  (e:TypeId) (i:TypeInfo) (z:Value) (bytes:Nat) (ht:P.underlying t=some (.slice e)) (hi:P.info? e=some i) (hz:i.zero=some z)
  (hsize:i.size=E.size) (hby:i.bytes=bytes) (hzs:z.cells.size=E.size) (hsz:0<E.size)
  (B:Nat) (v:Value) (l:List α) (hs:a.eval s=v) (w0:World) (hrow:GRow E e B w0 v l) (hx0:Ext w0 w)
  (blk:Nat) (hx:a.eval x=.slice (some ⟨blk,0,none⟩) 1 1) (arr:Array Value) (ty:TypeId) (hblk:w.heap[blk]?=some (.cells arr ty (0,0)))
  (el:α) (hc:E.is (fun b=>B≤b∧v.ownBlock≠some b) w arr.toList el) (h63:l.length+1≤maxLen) (hbytes:(l.length+1) * bytes≤140737488355328) (hbase:B≤w.heap.size)
  (h:∀g cap w',GRow E e B w' (.slice (some ⟨g,0,none⟩) (l.length+1) cap) (l++[el])→w.grownBy w' v.ownBlock→(v.ownBlock=some g∨g=w.heap.size)→g<w'.heap.size→wpList P ops Q rest (a.put o.dst (.slice (some ⟨g,0,none⟩) (l.length+1) cap)) w'):wpList P ops Q (o::rest) a w:=by
 obtain⟨cs,hcl,hown,hel⟩:=hrow
 refine wpList_append_lies w hgd s x t ho B e i z E.size bytes ht hi hz hsize hby hzs hsz v l.length cs.flatten hs (zll hown hx0) ⟨blk,0,none⟩ 1 1 arr.toList hx (by rw[E.len hc];omega) (World.news_of_block hblk) (E.one hc) (by omega) h63 hbytes hbase _ rfl ?_
 intro g cap w' hown' hgrow hat hlt
 exact h g cap w' (GRow.grow hcl hel hx0 hgrow hown' hat hc) hgrow hat hlt
theorem zbz {ops:Array Oper}{o:Oper}{a:Act}{K:Act→World→Prop}{Q:Exit→Act→World→Prop}{F:Prop}(hgd:o.guard=none) (s x:Operand) (t:TypeId)
  (ho:o.op=.call { callee:=.builtin .append,args:=#[s,x],argTypes:=#[t,t] })
  (e:TypeId) (i:TypeInfo) (z:Value) (bytes:Nat) (ht:P.underlying t=some (.slice e)) (hi:P.info? e=some i) (hz:i.zero=some z)
  (hsize:i.size=E.size) (hby:i.bytes=bytes) (hzs:z.cells.size=E.size) (hsz:0<E.size)
  (B:Nat) (v:Value) (l:List α) (hs:a.eval s=v) (w0:World) (hrow:GRow E e B w0 v l) (hx0:Ext w0 w)
  (blk:Nat) (hx:a.eval x=.slice (some ⟨blk,0,none⟩) 1 1) (arr:Array Value) (ty:TypeId) (hblk:w.heap[blk]?=some (.cells arr ty (0,0)))
  (el:α) (hc:E.is (fun b=>B≤b∧v.ownBlock≠some b) w arr.toList el) (h63:l.length+1≤maxLen) (hbytes:(l.length+1) * bytes≤140737488355328) (hbase:B≤w.heap.size)
  (h:∀g cap w',GRow E e B w' (.slice (some ⟨g,0,none⟩) (l.length+1) cap) (l++[el])→w.grownBy w' v.ownBlock→(v.ownBlock=some g∨g=w.heap.size)→g<w'.heap.size→K (a.put o.dst (.slice (some ⟨g,0,none⟩) (l.length+1) cap)) w') :
  if Region.wanted o (yielded ops a.tmps)=true then Oper.wp P o a w K Q else F:=by
 obtain⟨cs,hcl,hown,hel⟩:=hrow
 refine step_append_lies w hgd s x t ho B e i z E.size bytes ht hi hz hsize hby hzs hsz v l.length cs.flatten hs (zll hown hx0) ⟨blk,0,none⟩ 1 1 arr.toList hx (by rw[E.len hc];omega) (World.news_of_block hblk) (E.one hc) (by omega) h63 hbytes hbase _ rfl ?_
 intro g cap w' hown' hgrow hat hlt
 exact h g cap w' (GRow.grow hcl hel hx0 hgrow hown' hat hc) hgrow hat hlt
end
theorem z1i:(Tryz.prog.info? 3).map (fun i=>(i.zero,i.size,i.bytes))=some (some (.int .i64 0),1,8):=by kernel_rfl
theorem GRow.own_ge {α:Type}{E:Elt α}{e B:Nat}{w:World}{v:Value}{l:List α}(h:GRow E e B w v l){g:Nat}(hg:v.ownBlock=some g):B≤g∧g<w.heap.size:=by
 obtain⟨cs,-,h2,-⟩:=h
 exact zqf h2 hg
theorem Ext.append {α:Type}{E:Elt α}{e:Nat}{w0 w w1 w2:World}{v:Value}{l:List α}(h:Ext w0 w) (hr:GRow E e w0.heap.size w v l) (hx:Ext w w1) (hg:w1.grownBy w2 v.ownBlock):Ext w0 w2:=by
 have h1:=h.trans hx
 exact⟨hg.os.trans h1.os,hg.tape.trans h1.tape,hg.output.trans h1.output,Nat.le_trans h1.size hg.size,fun k hk=>(hg.block k (Nat.lt_of_lt_of_le hk h1.size) (fun e=>by have:=(hr.own_ge e.symm).1;omega)).trans (h1.block k hk)⟩
theorem Ext.append' {α:Type}{E:Elt α}{e B:Nat}{w0 w w1 w2:World}{v:Value}{l:List α}(h:Ext w0 w) (hr:GRow E e B w v l) (hB:w0.heap.size≤B) (hx:Ext w w1) (hg:w1.grownBy w2 v.ownBlock):Ext w0 w2:=by
 have h1:=h.trans hx
 exact⟨hg.os.trans h1.os,hg.tape.trans h1.tape,hg.output.trans h1.output,Nat.le_trans h1.size hg.size,fun k hk=>(hg.block k (Nat.lt_of_lt_of_le hk h1.size) (fun e=>by have:=(hr.own_ge e.symm).1;omega)).trans (h1.block k hk)⟩
def zcg (s:ByteArray):Bool:=named s&&decide (65≤byt s 0∧byt s 0≤90)
mutual
def Ex.may:Ex→Bool
 |.mk v n l=>if v then decide (l.length=0)&&zcg n else named n&&Ex.mays l
def Ex.mays:List Ex→Bool
 |[]=>true
 |e::l=>e.may&&Ex.mays l
end
def za8 (op:Int):Option (Int×Int×Int) :=
 if op=1∨op=2 then some (0,0,0)
 else if op=3 then some (0,1,0)
 else if op=4 then some (0,2,0)
 else if op=5 then some (0,0,1)
 else if op=6∨op=7 then some (0,0,-2)
 else if op=8∨op=9∨op=10 then some (0,0,2)
 else if op=11∨op=12 then some (-1,0,1)
 else none
def zaw (n:Nat) (want:Int):Bool:=if want<0 then decide (-want≤n)else decide ((n:Int)=want)
def zdd (pre:List ByteArray):List ByteArray→Bool
 |[]=>true
 |v::l=>zcg v&&!(pre.any fun u=>decide (u=v))&&zdd (pre++[v]) l
def zdk (l:List ByteArray):Bool:=zdd [] l
theorem zh5 {l:List ByteArray}{k:Nat}(h:k<l.length):zdd (l.take k) (l.drop k)=(zcg l[k]&&!((l.take k).any fun u=>decide (u=l[k]))&&zdd (l.take (k+1)) (l.drop (k+1))):=by
 rw[List.drop_eq_getElem_cons h,List.take_succ_eq_append_getElem h]
 rfl
def zh6 (op:Int) (v:List ByteArray) (t:List Ex) (n:Nat):Bool:=match za8 op with
 |none=>false
 |some (a,b,c)=>zaw v.length a&&zaw t.length b&&zaw n c&&zdk v&&t.all fun x=>x.may&&!(decide (op=3)&&x.var)
mutual
def Fm.may:Fm→Bool
 |.mk o v t l=>zh6 o v t l.length&&Fm.mays l
def Fm.mays:List Fm→Bool
 |[]=>true
 |e::l=>e.may&&Fm.mays l
end
def zaz (t:List Ex):Bool:=t.all fun x=>decide (x.depth≤30)&&decide (x.wide≤6)
mutual
def Fm.narrow:Fm→Bool
 |.mk _ _ t l=>zaz t&&Fm.narrows l
def Fm.narrows:List Fm→Bool
 |[]=>true
 |e::l=>e.narrow&&Fm.narrows l
end
def Fm.check (f:Fm):Int:=if 300<f.size∨30<f.depth∨f.narrow=false then 3 else if f.may then 0 else 2
theorem Ex.mays_all:∀l:List Ex,Ex.mays l=l.all Ex.may
 |[]=>rfl
 |e::l=>by simp only[Ex.mays,List.all_cons,Ex.mays_all l]
theorem Fm.mays_all:∀l:List Fm,Fm.mays l=l.all Fm.may
 |[]=>rfl
 |e::l=>by simp only[Fm.mays,List.all_cons,Fm.mays_all l]
theorem Fm.narrows_all:∀l:List Fm,Fm.narrows l=l.all Fm.narrow
 |[]=>rfl
 |e::l=>by simp only[Fm.narrows,List.all_cons,Fm.narrows_all l]
mutual
def Ex.same:Ex→Ex→Bool
 |.mk v n l,.mk v' n' l'=>decide (v=v')&&decide (n=n')&&Ex.sames l l'
def Ex.sames:List Ex→List Ex→Bool
 |[],[]=>true
 |a::l,b::l'=>Ex.same a b&&Ex.sames l l'
 |_,_=>false
end
mutual
def Fm.same:Fm→Fm→Bool
 |.mk o v t l,.mk o' v' t' l'=>decide (o=o')&&decide (v=v')&&Ex.sames t t'&&Fm.sames l l'
def Fm.sames:List Fm→List Fm→Bool
 |[],[]=>true
 |a::l,b::l'=>Fm.same a b&&Fm.sames l l'
 |_,_=>false
end
mutual
theorem Ex.same_iff:∀a b:Ex,Ex.same a b=true↔a=b
 |.mk v n l,.mk v' n' l'=>by simp only[Ex.same,Bool.and_eq_true,decide_eq_true_eq,Ex.sames_iff l l',Ex.mk.injEq,and_assoc]
theorem Ex.sames_iff:∀a b:List Ex,Ex.sames a b=true↔a=b
 |[],[]=>by simp[Ex.sames]
 |[],b::l'=>by simp[Ex.sames]
 |a::l,[]=>by simp[Ex.sames]
 |a::l,b::l'=>by simp only[Ex.sames,Bool.and_eq_true,Ex.same_iff a b,Ex.sames_iff l l',List.cons.injEq]
end
mutual
theorem Fm.same_iff:∀a b:Fm,Fm.same a b=true↔a=b
 |.mk o v t l,.mk o' v' t' l'=>by simp only[Fm.same,Bool.and_eq_true,decide_eq_true_eq,Ex.sames_iff t t',Fm.sames_iff l l',Fm.mk.injEq,and_assoc]
theorem Fm.sames_iff:∀a b:List Fm,Fm.sames a b=true↔a=b
 |[],[]=>by simp[Fm.sames]
 |[],b::l'=>by simp[Fm.sames]
 |a::l,[]=>by simp[Fm.sames]
 |a::l,b::l'=>by simp only[Fm.sames,Bool.and_eq_true,Fm.same_iff a b,Fm.sames_iff l l',List.cons.injEq]
end
theorem Ex.same_refl (a:Ex):Ex.same a a=true:=(Ex.same_iff a a).2 rfl
theorem Fm.same_refl (a:Fm):Fm.same a a=true:=(Fm.same_iff a a).2 rfl
mutual
def Ex.text:Ex→List UInt8
 |.mk v n l=>(if v then n.data.toList else (zay n).1.data.toList)++(Ex.texts 40 l++(if 0<l.length then [41]else []))
def Ex.texts (c:UInt8):List Ex→List UInt8
 |[]=>[]
 |e::l=>c::(e.text++Ex.texts 44 l)
end
def zop:List Ex→List UInt8
 |[]=>[]
 |x::_=>x.text
def ze2 (sep:List UInt8):List Ex→List UInt8
 |x::y::_=>x.text++(sep++y.text)
 |_=>[]
def bEq:List UInt8:=[32,61,32]
def bNe:List UInt8:=[32,33,61,32]
def bNot:List UInt8:=[126,32]
def bAnd:List UInt8:=[32,38,32]
def bOr:List UInt8:=[32,124,32]
def bImp:List UInt8:=[32,61,62,32]
def bIff:List UInt8:=[32,60,61,62,32]
def bXor:List UInt8:=[32,60,126,62,32]
def bAll:List UInt8:=[33,32,91]
def z2n:List UInt8:=[63,32,91]
def bOf:List UInt8:=[93,32,58,32]
def ze3 (op:Int):List UInt8:=if op=6 then bAnd else if op=7 then bOr else if op=8 then bImp else if op=9 then bIff else if op=10 then bXor else if op=11 then bAll else z2n
def zbe (op:Int) (s:List UInt8):List UInt8:=if 6≤op∧op≤10 then 40::(s++[41])else s
def zaa:Bool→List ByteArray→List UInt8
 |_,[]=>[]
 |first,v::l=>(if first then []else [44])++(v.data.toList++zaa false l)
def zni:List UInt8:=[36,116,114,117,101]
def zix:List UInt8:=[36,102,97,108,115,101]
mutual
def Fm.text:Fm→List UInt8
 |.mk op v t l =>
  if op=1 then zni
  else if op=2 then zix
  else if op=3 then zop t
  else if op=4 then ze2 bEq t
  else if op=5 then (if (l.head?.map Fm.op)=some 4 then ze2 bNe ((l.head?.map Fm.terms).getD [])else bNot++Fm.units true [] l)
  else if op≤10 then Fm.units true (ze3 op) l
  else ze3 op++(zaa true v++(bOf++Fm.units true [] l))
def Fm.units (first:Bool) (sep:List UInt8):List Fm→List UInt8
 |[]=>[]
 |e::l=>(if first then []else sep)++(zbe e.op e.text++Fm.units false sep l)
end
end Go.Proofs.YtnclgkdpafhogaaGreat
