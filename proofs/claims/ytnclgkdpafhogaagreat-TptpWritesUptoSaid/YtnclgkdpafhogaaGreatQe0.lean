/- Terms, symbols and signatures as plain data; what it is that values read as such in a world; what stays when a world grows. No condition.
Small blocks of the call's own: what stands in their cells; none of them is frozen. No condition.
Data of any shape as plain trees: numbers, truths, texts, rows of such; what it is that values read as such in a world, in blocks of a kind; what stays when a world goes on. No condition.
Terms and formulas as they are written, as plain data; how they lie in memory. No condition.
Plain: sizes, depths, widths of terms and formulas. No condition.
What the reference's Named, Truth, One and At of layer 1 return. No condition but the sizes that a symbol may have.
What term.Size, term.Depth and the reference's Size, Depth, low, Small return, for every term of at most 2097152 parts.
Terms whose arguments lie in blocks of a kind; rows of the call's own that hold terms. No condition.
Bytes of words, runs of bytes, names: token.small, great, digit, inWord, while, Name, Quote; the reference's letter, digit, word, blank, Name, Quote. Condition: a text of at most 2^30 bytes. -/
import Derived.Test.YtnclgkdpafhogaaGreatRows
import Derived.WalkKit
import Derived.ProofKit
import Derived.OpenShut
import Derived.JoinedCond
import Derived.Lib.Hide
import Derived.Handy
import Derived.BigQuiet
import Derived.Deep.QuietTactic
set_option maxHeartbeats 16000000
set_option maxRecDepth 100000
namespace Go.Proofs.YtnclgkdpafhogaaGreat
open Go.ChangeShapes Go.WideShapes Go.ChangeAt Go.RowKit
inductive Tm where
 |mk (f:Int) (ks:List Tm)
namespace Tm
def f:Tm→Int|.mk f _=>f
def ks:Tm→List Tm|.mk _ ks=>ks
end Tm
theorem Tm.ind {P:Tm→Prop}(h:∀f ks,(∀a∈ks,P a)→P (.mk f ks)):∀t,P t:=by
 intro t
 refine Tm.rec (motive_1:=P) (motive_2:=fun l=>∀a∈l,P a) h ?_ ?_ t
 ·intro a ha;cases ha
 ·intro t ts h1 h2 a ha
  rcases List.mem_cons.1 ha with rfl|h3
  ·exact h1
  ·exact h2 a h3
abbrev Ext (w w':World):Prop:=Below w.heap.size w w'
theorem zf {w:World}{p:Addr}{v:Value}(h:w.cell? p=some v):p.block<w.heap.size:=by
 unfold World.cell? at h
 rcases Nat.lt_or_ge p.block w.heap.size with h1|h1
 ·exact h1
 ·simp[Array.getElem?_eq_none h1]at h
theorem Ext.cell {w w':World}(h:Ext w w'){p:Addr}{v:Value}(hp:w.cell? p=some v):w'.cell? p=some v:=by
 rw[Below.cell h (zf hp)];exact hp
theorem Ext.frozen {w w':World}(h:Ext w w'){p:Addr}{v:Value}{f:Bool}(hp:w.cell? p=some v) (hf:w.frozen? p=f):w'.frozen? p=f:=by
 rw[Below.frozen h (zf hp)];exact hf
theorem Ext.trans {a b c:World}(h:Ext a b) (k:Ext b c):Ext a c:=Below.trans h (Below.mono k h.size)
theorem Ext.alloc {a b:World}(h:Ext a b) (o:Obj):Ext a (b.alloc o):=Below.alloc h h.size o
theorem zb (a:World) (o:Obj):Ext a (a.alloc o):=Below.alloc (Below.refl _ _) (Nat.le_refl _) o
theorem Ext.drew {a b:World}(h:Ext a b):Ext a b.drew:=Below.drew h
theorem zo6 {B:Nat}{a b:World}(h:Below B a b) (n:Nat):Below B a (b.drewN n):=⟨h.os,h.tape,h.output,h.size,h.block⟩
theorem Ext.drewN {a b:World}(h:Ext a b) (n:Nat):Ext a (b.drewN n):=zo6 h n
structure Chg (S:List Nat) (w w':World):Prop where
 os:w'.os=w.os
 tape:w'.tape=w.tape
 output:w'.output=w.output
 size:w.heap.size≤w'.heap.size
 block:∀k,k<w.heap.size→k∉S→w'.heap[k]?=w.heap[k]?
theorem Chg.refl (S:List Nat) (w:World):Chg S w w:=⟨rfl,rfl,rfl,Nat.le_refl _,fun _ _ _=>rfl⟩
theorem Chg.trans {S:List Nat}{a b c:World}(h:Chg S a b) (k:Chg S b c):Chg S a c :=
 ⟨k.os.trans h.os,k.tape.trans h.tape,k.output.trans h.output,Nat.le_trans h.size k.size,fun i hi hs=>(k.block i (Nat.lt_of_lt_of_le hi h.size) hs).trans (h.block i hi hs)⟩
theorem Chg.of_ext {S:List Nat}{a b:World}(h:Ext a b):Chg S a b:=⟨h.os,h.tape,h.output,h.size,fun k hk _=>h.block k hk⟩
theorem Chg.mono {S T:List Nat}{a b:World}(h:Chg S a b) (hs:∀k,k∈S→k∈T):Chg T a b:=⟨h.os,h.tape,h.output,h.size,fun k hk hn=>h.block k hk (fun hm=>hn (hs k hm))⟩
theorem Chg.ext {S:List Nat}{a b c:World}(h:Ext a b) (k:Chg S b c) (hs:∀i,i∈S→a.heap.size≤i):Ext a c :=
 ⟨k.os.trans h.os,k.tape.trans h.tape,k.output.trans h.output,Nat.le_trans h.size k.size,fun i hi=>(k.block i (Nat.lt_of_lt_of_le hi h.size) (fun hm=>by have:=hs i hm;omega)).trans (h.block i hi)⟩
theorem Chg.drop {S T:List Nat}{a b c:World}(h:Ext a b) (k:Chg S b c) (hs:∀i,i∈S→i∈T∨a.heap.size≤i):Chg T a c :=
 ⟨k.os.trans h.os,k.tape.trans h.tape,k.output.trans h.output,Nat.le_trans h.size k.size,fun i hi hn=>(k.block i (Nat.lt_of_lt_of_le hi h.size) (fun hm=>by rcases hs i hm with h1|h1;exact hn h1;omega)).trans (h.block i hi)⟩
theorem Chg.cell {S:List Nat}{w w':World}(h:Chg S w w'){p:Addr}{v:Value}(hp:w.cell? p=some v) (hs:p.block∉S):w'.cell? p=some v:=by
 rw[World.cell?_of_block (w:=w) (h.block p.block (zf hp) hs)];exact hp
theorem Chg.frozen {S:List Nat}{w w':World}(h:Chg S w w'){p:Addr}{v:Value}{f:Bool}(hp:w.cell? p=some v) (hs:p.block∉S) (hf:w.frozen? p=f):w'.frozen? p=f:=by
 rw[World.frozen?_of_block (w:=w) (h.block p.block (zf hp) hs)];exact hf
theorem Chg.alloc {S:List Nat}{a b:World}(h:Chg S a b) (o:Obj):Chg S a (b.alloc o):=h.trans (.of_ext (zb b o))
theorem Chg.drew {S:List Nat}{a b:World}(h:Chg S a b):Chg S a b.drew:=⟨h.os,h.tape,h.output,h.size,h.block⟩
theorem Chg.setCell {S:List Nat}{a b:World}(h:Chg S a b){p:Addr}(v:Value) (hp:p.block∈S∨a.heap.size≤p.block):Chg S a (b.setCell p v) :=
 ⟨h.os,h.tape,h.output,by simp[World.setCell];exact h.size,fun k hk hs=>by
  rw[Below.heap_setCell _ _ _ _ (fun e=>by rcases hp with h1|h1;exact hs (e ▸ h1);omega)];exact h.block k hk hs⟩
mutual
def IsTm (w:World) (x s:Value):Tm→Prop
 |.mk n ks=>x=.int .i64 n∧-9223372036854775808≤n∧n≤9223372036854775807∧∃a c,s=.slice a ks.length c∧ks.length≤c∧IsTms w a ks
def IsTms (w:World) (a:Option Addr):List Tm→Prop
 |[]=>True
 |t::ts=>∃b o x s,a=some ⟨b,o,none⟩∧w.cell? ⟨b,o,none⟩=some x∧w.cell? ⟨b,o+1,none⟩=some s∧IsTm w x s t∧IsTms w (some ⟨b,o+2,none⟩) ts
end
section
variable {w w':World}
mutual
theorem IsTm.of_cells (h:∀p v,w.cell? p=some v→w'.cell? p=some v):∀ {t:Tm}{x s:Value},IsTm w x s t→IsTm w' x s t
 |.mk n ks,x,s,ht=>by
  simp only[IsTm]at ht ⊢
  obtain⟨h1,h2,h3,a,c,h4,h6,h5⟩:=ht
  exact⟨h1,h2,h3,a,c,h4,h6,IsTms.of_cells h h5⟩
theorem IsTms.of_cells (h:∀p v,w.cell? p=some v→w'.cell? p=some v):∀ {ts:List Tm}{a:Option Addr},IsTms w a ts→IsTms w' a ts
 |[],a,_=>trivial
 |t::ts,a,ht=>by
  simp only[IsTms]at ht ⊢
  obtain⟨b,o,x,s,h1,h2,h3,h4,h5⟩:=ht
  exact⟨b,o,x,s,h1,h _ _ h2,h _ _ h3,IsTm.of_cells h h4,IsTms.of_cells h h5⟩
end
end
theorem IsTm.ext {w w':World}{t:Tm}{x s:Value}(ht:IsTm w x s t) (h:Ext w w'):IsTm w' x s t:=ht.of_cells fun _ _ hp=>Ext.cell h hp
theorem IsTms.ext {w w':World}{ts:List Tm}{a:Option Addr}(ht:IsTms w a ts) (h:Ext w w'):IsTms w' a ts:=ht.of_cells fun _ _ hp=>Ext.cell h hp
theorem IsTms.at {w:World}:∀ {ts:List Tm}{b o:Nat},IsTms w (some ⟨b,o,none⟩) ts→∀ {i:Nat}(hi:i<ts.length),
  ∃x s,w.cell? ⟨b,o+i * 2,none⟩=some x∧w.cell? ⟨b,o+i * 2+1,none⟩=some s∧IsTm w x s ts[i]
 |[],_,_,_,_,hi=>by simp at hi
 |t::ts,b,o,h,i,hi=>by
  simp only[IsTms]at h
  obtain⟨b',o',x,s,h1,h2,h3,h4,h5⟩:=h
  simp only[Option.some.injEq,Addr.mk.injEq,and_true]at h1
  obtain⟨rfl,rfl⟩:=h1
  cases i with
  |zero=>exact⟨x,s,by simpa using h2,by simpa using h3,h4⟩
  |succ i =>
   obtain⟨x,s,g1,g2,g3⟩:=IsTms.at h5 (i:=i) (by simpa using hi)
   refine⟨x,s,?_,?_,by simpa using g3⟩
   ·rw[show o+(i+1) * 2=o+2+i * 2 by omega];exact g1
   ·rw[show o+(i+1) * 2+1=o+2+i * 2+1 by omega];exact g2
theorem IsTms.addr {w:World}{a:Option Addr}{ts:List Tm}(h:IsTms w a ts) (hl:0<ts.length):∃b o,a=some ⟨b,o,none⟩:=by
 cases ts with
 |nil=>simp at hl
 |cons t ts=>simp only[IsTms]at h;obtain⟨b,o,_,_,h,_⟩:=h;exact⟨b,o,h⟩
theorem IsTm.form {w:World}{x s:Value}:∀ {t:Tm},IsTm w x s t→∃a c,x=.int .i64 t.f∧s=.slice a t.ks.length c∧-9223372036854775808≤t.f∧t.f≤9223372036854775807∧t.ks.length≤c∧IsTms w a t.ks
 |.mk f ks,h=>by
  simp only[IsTm]at h
  obtain⟨h1,h2,h3,a,c,h4,h6,h5⟩:=h
  exact⟨a,c,h1,h4,h2,h3,h6,h5⟩
theorem IsTms.look {w:World}{ts:List Tm}{a:Option Addr}(h:IsTms w a ts){i:Nat}(hi:i<ts.length) :
  ∃b o a' c',a=some ⟨b,o,none⟩∧w.cell? ⟨b,o+i * 2,none⟩=some (.int .i64 ts[i].f)∧w.cell? ⟨b,o+i * 2+1,none⟩=some (.slice a' ts[i].ks.length c')∧IsTm w (.int .i64 ts[i].f) (.slice a' ts[i].ks.length c') ts[i]:=by
 obtain⟨b,o,rfl⟩:=h.addr (by omega)
 obtain⟨x,s,h1,h2,h3⟩:=h.at hi
 obtain⟨a',c',rfl,rfl,-⟩:=h3.form
 exact⟨b,o,a',c',rfl,h1,h2,h3⟩
structure Sy where
 name:ByteArray
 arity:Int
 pred:Bool
def Sy.cells (s:Sy):List Value:=[.string s.name,.int .i64 s.arity,.bool s.pred]
def Sy.ok (s:Sy):Prop:=s.name.size≤1048576∧-9223372036854775808≤s.arity∧s.arity≤9223372036854775807
def IsSyms (w:World) (a:Option Addr) (l:List Sy):Prop :=
 ∀i (h:i<l.length),Sy.ok l[i]∧∃b o,a=some ⟨b,o,none⟩∧w.cell? ⟨b,o+i * 3,none⟩=some (.string l[i].name)∧w.cell? ⟨b,o+i * 3+1,none⟩=some (.int .i64 l[i].arity)∧w.cell? ⟨b,o+i * 3+2,none⟩=some (.bool l[i].pred)
theorem IsSyms.ext {w w':World}{a:Option Addr}{l:List Sy}(h:IsSyms w a l) (hx:Ext w w'):IsSyms w' a l:=fun i hi=>by
 obtain⟨h0,b,o,h1,h2,h3,h4⟩:=h i hi
 exact⟨h0,b,o,h1,hx.cell h2,hx.cell h3,hx.cell h4⟩
theorem ze {a b:Bool}(h:a=b):Ending.returned (.bool a)=.returned (.bool b):=by rw[h]
theorem zm {k:IntKind}{a b:Int}(h:a=b):Ending.returned (.int k a)=.returned (.int k b):=by rw[h]
end Go.Proofs.YtnclgkdpafhogaaGreat
namespace Go.Proofs.YtnclgkdpafhogaaGreat
open Go.ChangeShapes Go.WideShapes Go.ChangeAt Go.RowKit
def Own (w:World) (b:Nat) (vs:List Value):Prop:=∀i v,vs[i]?=some v→w.cell? ⟨b,i,none⟩=some v∧w.frozen? ⟨b,i,none⟩=false
theorem Own.ext {w w':World}{b:Nat}{vs:List Value}(h:Own w b vs) (hx:Ext w w'):Own w' b vs:=fun i v hv=>by
 obtain⟨h1,h2⟩:=h i v hv
 exact⟨hx.cell h1,hx.frozen h1 h2⟩
theorem Own.chg {S:List Nat}{w w':World}{b:Nat}{vs:List Value}(h:Own w b vs) (hx:Chg S w w') (hb:b∉S):Own w' b vs:=fun i v hv=>by
 obtain⟨h1,h2⟩:=h i v hv
 exact⟨hx.cell h1 hb,hx.frozen h1 hb h2⟩
theorem Own.set {w:World}{b:Nat}{vs:List Value}(h:Own w b vs){i:Nat}(hi:i<vs.length) (x:Value):Own (w.setCell ⟨b,i,none⟩ x) b (vs.set i x):=fun j v hv=>by
 by_cases hj:j=i
 ·subst hj
  rw[List.getElem?_set_self hi]at hv
  injection hv with hv
  subst hv
  obtain⟨h1,h2⟩:=h j vs[j] (List.getElem?_eq_getElem hi)
  exact⟨World.cell?_setCell_same _ _ _ h1,by rw[World.frozen?_setCell];exact h2⟩
 ·rw[List.getElem?_set_ne (Ne.symm hj)]at hv
  obtain⟨h1,h2⟩:=h j v hv
  exact⟨by rw[World.cell?_setCell_other _ _ _ _ (by simp[])];exact h1,by rw[World.frozen?_setCell];exact h2⟩
theorem Own.eq {w:World}{b:Nat}{vs us:List Value}(h:Own w b vs) (e:vs=us):Own w b us:=e ▸ h
theorem Own.lt {w:World}{b:Nat}{v:Value}{vs:List Value}(h:Own w b (v::vs)):b<w.heap.size:=zf (h 0 v rfl).1
theorem own1 (w:World) (x:Value) (t:TypeId):Own (w.alloc (.cells #[x] t)) w.heap.size [x]:=fun i v hv=>by
 match i,hv with
 |0,hv=>injection hv with hv;subst hv;constructor<;>go_simp
 |n+1,hv=>simp at hv
theorem own2 (w:World) (x y:Value) (t:TypeId):Own (w.alloc (.cells #[x,y] t)) w.heap.size [x,y]:=fun i v hv=>by
 match i,hv with
 |0,hv=>injection hv with hv;subst hv;constructor<;>go_simp
 |1,hv=>injection hv with hv;subst hv;constructor<;>go_simp
 |n+2,hv=>simp at hv
theorem own3 (w:World) (x y z:Value) (t:TypeId):Own (w.alloc (.cells #[x,y,z] t)) w.heap.size [x,y,z]:=fun i v hv=>by
 match i,hv with
 |0,hv=>injection hv with hv;subst hv;constructor<;>go_simp
 |1,hv=>injection hv with hv;subst hv;constructor<;>go_simp
 |2,hv=>injection hv with hv;subst hv;constructor<;>go_simp
 |n+3,hv=>simp at hv
theorem own4 (w:World) (x y z u:Value) (t:TypeId):Own (w.alloc (.cells #[x,y,z,u] t)) w.heap.size [x,y,z,u]:=fun i v hv=>by
 match i,hv with
 |0,hv=>injection hv with hv;subst hv;constructor<;>go_simp
 |1,hv=>injection hv with hv;subst hv;constructor<;>go_simp
 |2,hv=>injection hv with hv;subst hv;constructor<;>go_simp
 |3,hv=>injection hv with hv;subst hv;constructor<;>go_simp
 |n+4,hv=>simp at hv
theorem zc8 {w:World}{b:Nat}{x y z:Value}(h:Own w b [x,y,z]) (x' y' z':Value):Own (((w.setCell ⟨b,0,none⟩ x').setCell ⟨b,1,none⟩ y').setCell ⟨b,2,none⟩ z') b [x',y',z'] :=
 ((h.set (i:=0) (by simp) x').set (i:=1) (by simp) y').set (i:=2) (by simp) z'
theorem zbq {w:World}{b:Nat}{x y z u:Value}(h:Own w b [x,y,z,u]) (x' y' z' u':Value):Own ((((w.setCell ⟨b,0,none⟩ x').setCell ⟨b,1,none⟩ y').setCell ⟨b,2,none⟩ z').setCell ⟨b,3,none⟩ u') b [x',y',z',u'] :=
 (((h.set (i:=0) (by simp) x').set (i:=1) (by simp) y').set (i:=2) (by simp) z').set (i:=3) (by simp) u'
theorem zd2 (w:World) (b:Nat) (x y z:Value):Chg [b] w (((w.setCell ⟨b,0,none⟩ x).setCell ⟨b,1,none⟩ y).setCell ⟨b,2,none⟩ z) :=
 (((Chg.refl [b] w).setCell _ (.inl (by simp))).setCell _ (.inl (by simp))).setCell _ (.inl (by simp))
theorem zbr (w:World) (b:Nat) (x y z u:Value):Chg [b] w ((((w.setCell ⟨b,0,none⟩ x).setCell ⟨b,1,none⟩ y).setCell ⟨b,2,none⟩ z).setCell ⟨b,3,none⟩ u) :=
 ((((Chg.refl [b] w).setCell _ (.inl (by simp))).setCell _ (.inl (by simp))).setCell _ (.inl (by simp))).setCell _ (.inl (by simp))
open Go.ChangeShapes Go.WideShapes Go.ChangeAt Go.RowKit
inductive Dat where
 |int (n:Int)
 |bool (b:Bool)
 |str (s:ByteArray)
 |row (l:List (List Dat))
mutual
def Dat.Is (P:Nat→Prop) (w:World) (v:Value):Dat→Prop
 |.int n=>v=.int .i64 n∧-9223372036854775808≤n∧n≤9223372036854775807
 |.bool b=>v=.bool b
 |.str s=>v=.string s∧s.size≤1073741824
 |.row l=>∃a c,v=.slice a l.length c∧l.length≤c∧Dat.Rows P w a l
def Dat.Fs (P:Nat→Prop) (w:World):List Value→List Dat→Prop
 |[],[]=>True
 |v::vs,d::ds=>Dat.Is P w v d∧Dat.Fs P w vs ds
 |_,_=>False
def Dat.Rows (P:Nat→Prop) (w:World) (a:Option Addr):List (List Dat)→Prop
 |[]=>True
 |e::l=>∃b o vs,a=some ⟨b,o,none⟩∧P b∧vs≠[]∧(∀i v,vs[i]?=some v→w.cell? ⟨b,o+i,none⟩=some v)∧Dat.Fs P w vs e∧Dat.Rows P w (some ⟨b,o+e.length,none⟩) l
end
section
variable {w w':World}{P Q:Nat→Prop}
mutual
theorem Dat.Is.of_cells (hQ:∀b,P b→b<w.heap.size→Q b) (h:∀p v,P p.block→w.cell? p=some v→w'.cell? p=some v):∀ {d:Dat}{v:Value},Dat.Is P w v d→Dat.Is Q w' v d
 |.int _,_,hd=>hd
 |.bool _,_,hd=>hd
 |.str _,_,hd=>hd
 |.row l,v,hd=>by
  obtain⟨a,c,h1,h2,h4⟩:=hd
  exact⟨a,c,h1,h2,Dat.Rows.of_cells hQ h h4⟩
theorem Dat.Fs.of_cells (hQ:∀b,P b→b<w.heap.size→Q b) (h:∀p v,P p.block→w.cell? p=some v→w'.cell? p=some v):∀ {ds:List Dat}{vs:List Value},Dat.Fs P w vs ds→Dat.Fs Q w' vs ds
 |[],[],_=>trivial
 |[],_::_,hd=>hd.elim
 |_::_,[],hd=>hd.elim
 |_d::_ds,_v::_vs,hd=>⟨Dat.Is.of_cells hQ h hd.1,Dat.Fs.of_cells hQ h hd.2⟩
theorem Dat.Rows.of_cells (hQ:∀b,P b→b<w.heap.size→Q b) (h:∀p v,P p.block→w.cell? p=some v→w'.cell? p=some v):∀ {l:List (List Dat)}{a:Option Addr},Dat.Rows P w a l→Dat.Rows Q w' a l
 |[],_,_=>trivial
 |e::l,a,hd=>by
  obtain⟨b,o,vs,h1,h0,hne,h2,h3,h4⟩:=hd
  refine⟨b,o,vs,h1,?_,hne,fun i v hv=>h _ _ h0 (h2 i v hv),Dat.Fs.of_cells hQ h h3,Dat.Rows.of_cells hQ h h4⟩
  cases vs with
  |nil=>exact absurd rfl hne
  |cons v vs=>exact hQ b h0 (zf (h2 0 v rfl))
end
end
theorem Dat.Is.ext {P:Nat→Prop}{w w':World}{v:Value}{d:Dat}(h:Dat.Is P w v d) (hx:Ext w w'):Dat.Is P w' v d:=h.of_cells (fun _ h _=>h) fun _ _ _ hp=>hx.cell hp
theorem Dat.Fs.ext {P:Nat→Prop}{w w':World}{vs:List Value}{ds:List Dat}(h:Dat.Fs P w vs ds) (hx:Ext w w'):Dat.Fs P w' vs ds:=h.of_cells (fun _ h _=>h) fun _ _ _ hp=>hx.cell hp
theorem Dat.Rows.ext {P:Nat→Prop}{w w':World}{a:Option Addr}{l:List (List Dat)}(h:Dat.Rows P w a l) (hx:Ext w w'):Dat.Rows P w' a l:=h.of_cells (fun _ h _=>h) fun _ _ _ hp=>hx.cell hp
theorem Dat.Is.mono {P Q:Nat→Prop}{w:World}{v:Value}{d:Dat}(h:Dat.Is P w v d) (hQ:∀b,P b→b<w.heap.size→Q b):Dat.Is Q w v d:=h.of_cells hQ fun _ _ _ h=>h
theorem Dat.Fs.mono {P Q:Nat→Prop}{w:World}{vs:List Value}{ds:List Dat}(h:Dat.Fs P w vs ds) (hQ:∀b,P b→b<w.heap.size→Q b):Dat.Fs Q w vs ds:=h.of_cells hQ fun _ _ _ h=>h
theorem Dat.Rows.mono {P Q:Nat→Prop}{w:World}{a:Option Addr}{l:List (List Dat)}(h:Dat.Rows P w a l) (hQ:∀b,P b→b<w.heap.size→Q b):Dat.Rows Q w a l:=h.of_cells hQ fun _ _ _ h=>h
theorem Dat.Is.chg {P:Nat→Prop}{S:List Nat}{w w':World}{v:Value}{d:Dat}(h:Dat.Is P w v d) (hx:Chg S w w') (hS:∀b,P b→b∉S):Dat.Is P w' v d:=h.of_cells (fun _ h _=>h) fun _p _ hb hp=>hx.cell hp (hS _ hb)
theorem Dat.Fs.chg {P:Nat→Prop}{S:List Nat}{w w':World}{vs:List Value}{ds:List Dat}(h:Dat.Fs P w vs ds) (hx:Chg S w w') (hS:∀b,P b→b∉S):Dat.Fs P w' vs ds:=h.of_cells (fun _ h _=>h) fun _p _ hb hp=>hx.cell hp (hS _ hb)
theorem Dat.Rows.chg {P:Nat→Prop}{S:List Nat}{w w':World}{a:Option Addr}{l:List (List Dat)}(h:Dat.Rows P w a l) (hx:Chg S w w') (hS:∀b,P b→b∉S):Dat.Rows P w' a l:=h.of_cells (fun _ h _=>h) fun _p _ hb hp=>hx.cell hp (hS _ hb)
theorem Dat.Fs.length {P:Nat→Prop}{w:World}:∀ {vs:List Value}{ds:List Dat},Dat.Fs P w vs ds→vs.length=ds.length
 |[],[],_=>rfl
 |[],_::_,h=>h.elim
 |_::_,[],h=>h.elim
 |v::vs,d::ds,h=>by simp only[List.length_cons];rw[Dat.Fs.length h.2]
theorem Dat.Fs.one {P:Nat→Prop}{w:World}:∀ {vs:List Value}{ds:List Dat},Dat.Fs P w vs ds→∀u∈vs,u.oneCell'=true
 |[],[],_,u,hu=>by cases hu
 |[],_::_,h,_,_=>h.elim
 |_::_,[],h,_,_=>h.elim
 |v::vs,d::ds,h,u,hu=>by
  rcases List.mem_cons.1 hu with rfl|hu
  ·cases d with
   |int n=>obtain⟨rfl,-⟩:=h.1;rfl
   |bool b=>obtain rfl:=h.1;rfl
   |str s=>obtain⟨rfl,-⟩:=h.1;rfl
   |row l=>obtain⟨a,c,rfl,-⟩:=h.1;rfl
  ·exact Dat.Fs.one h.2 u hu
theorem Dat.Fs.app {P:Nat→Prop}{w:World}:∀ {vs us:List Value}{ds es:List Dat},Dat.Fs P w vs ds→Dat.Fs P w us es→Dat.Fs P w (vs++us) (ds++es)
 |[],_,[],_,_,k=>k
 |[],_,_::_,_,h,_=>h.elim
 |_::_,_,[],_,h,_=>h.elim
 |_::_,_,_::_,_,h,k=>⟨h.1,Dat.Fs.app h.2 k⟩
theorem Dat.Rows.addr {P:Nat→Prop}{w:World}{a:Option Addr}{l:List (List Dat)}(h:Dat.Rows P w a l) (hl:0<l.length):∃b o,a=some ⟨b,o,none⟩∧P b:=by
 cases l with
 |nil=>simp at hl
 |cons e l=>obtain⟨b,o,vs,h1,h0,-⟩:=h;exact⟨b,o,h1,h0⟩
theorem Dat.Rows.at {P:Nat→Prop}{w:World}{m:Nat}:∀ {l:List (List Dat)}{b o:Nat},Dat.Rows P w (some ⟨b,o,none⟩) l→(∀e∈l,e.length=m)→∀ {i:Nat}(hi:i<l.length),
  ∃vs,(∀j v,vs[j]?=some v→w.cell? ⟨b,o+i * m+j,none⟩=some v)∧Dat.Fs P w vs l[i]
 |[],_,_,_,_,_,hi=>by simp at hi
 |e::l,b,o,h,hm,i,hi=>by
  obtain⟨b',o',vs,h1,h0,-,h2,h3,h4⟩:=h
  injection h1 with h1
  injection h1 with e1 e2 _
  subst e1;subst e2
  cases i with
  |zero=>exact⟨vs,fun j v hv=>by simpa using h2 j v hv,h3⟩
  |succ i =>
   obtain⟨us,g1,g2⟩:=Dat.Rows.at h4 (fun e he=>hm e (by simp[he])) (i:=i) (by simpa using hi)
   have:=hm e (by simp)
   refine⟨us,fun j v hv=>?_,by simpa using g2⟩
   have:=g1 j v hv
   rw[hm e (by simp)]at this
   rw[show o+(i+1) * m+j=o+m+i * m+j by rw[Nat.add_mul];omega]
   exact this
theorem Dat.Rows.of_at {P:Nat→Prop}{w:World}{m b:Nat}(h0:P b) (hm0:0<m):∀ {l:List (List Dat)}{o:Nat},(∀e∈l,e.length=m)→(∀i (hi:i<l.length),∃vs,(∀j v,vs[j]?=some v→w.cell? ⟨b,o+i * m+j,none⟩=some v)∧Dat.Fs P w vs l[i])→Dat.Rows P w (some ⟨b,o,none⟩) l
 |[],_,_,_=>trivial
 |e::l,o,hm,h=>by
  obtain⟨vs,h1,h2⟩:=h 0 (by simp)
  have he:=hm e (by simp)
  refine⟨b,o,vs,rfl,h0,fun hn=>?_,fun j v hv=>by simpa using h1 j v hv,h2,?_⟩
  ·subst hn
   have:=h2.length
   simp only[List.getElem_cons_zero,List.length_nil]at this
   omega
  ·rw[he]
   refine Dat.Rows.of_at h0 hm0 (fun e he=>hm e (by simp[he])) fun i hi=>?_
   obtain⟨us,g1,g2⟩:=h (i+1) (by simpa using hi)
   refine⟨us,fun j v hv=>?_,by simpa using g2⟩
   have:=g1 j v hv
   rw[show o+m+i * m+j=o+(i+1) * m+j by rw[Nat.add_mul];omega]
   exact this
open Go.ChangeShapes Go.WideShapes Go.ChangeAt Go.RowKit
inductive Ex where
 |mk (var:Bool) (name:ByteArray) (args:List Ex)
namespace Ex
def var:Ex→Bool|.mk v _ _=>v
def name:Ex→ByteArray|.mk _ n _=>n
def args:Ex→List Ex|.mk _ _ l=>l
end Ex
inductive Fm where
 |mk (op:Int) (vars:List ByteArray) (terms:List Ex) (args:List Fm)
namespace Fm
def op:Fm→Int|.mk o _ _ _=>o
def vars:Fm→List ByteArray|.mk _ v _ _=>v
def terms:Fm→List Ex|.mk _ _ t _=>t
def args:Fm→List Fm|.mk _ _ _ l=>l
end Fm
theorem Ex.ind {P:Ex→Prop}(h:∀v n l,(∀a∈l,P a)→P (.mk v n l)):∀t,P t:=by
 intro t
 refine Ex.rec (motive_1:=P) (motive_2:=fun l=>∀a∈l,P a) h ?_ ?_ t
 ·intro a ha;cases ha
 ·intro t ts h1 h2 a ha
  rcases List.mem_cons.1 ha with rfl|h3
  ·exact h1
  ·exact h2 a h3
theorem Fm.ind {P:Fm→Prop}(h:∀o v t l,(∀a∈l,P a)→P (.mk o v t l)):∀t,P t:=by
 intro t
 refine Fm.rec (motive_1:=P) (motive_2:=fun l=>∀a∈l,P a) h ?_ ?_ t
 ·intro a ha;cases ha
 ·intro t ts h1 h2 a ha
  rcases List.mem_cons.1 ha with rfl|h3
  ·exact h1
  ·exact h2 a h3
mutual
def Ex.dat:Ex→List Dat
 |.mk v n l=>[.bool v,.str n,.row (Ex.dats l)]
def Ex.dats:List Ex→List (List Dat)
 |[]=>[]
 |e::l=>e.dat::Ex.dats l
end
mutual
def Fm.dat:Fm→List Dat
 |.mk o v t l=>[.int o,.row (v.map fun s=>[Dat.str s]),.row (Ex.dats t),.row (Fm.dats l)]
def Fm.dats:List Fm→List (List Dat)
 |[]=>[]
 |e::l=>e.dat::Fm.dats l
end
theorem Ex.dats_map:∀l:List Ex,Ex.dats l=l.map Ex.dat
 |[]=>rfl
 |e::l=>by simp only[Ex.dats,List.map_cons,Ex.dats_map l]
theorem Fm.dats_map:∀l:List Fm,Fm.dats l=l.map Fm.dat
 |[]=>rfl
 |e::l=>by simp only[Fm.dats,List.map_cons,Fm.dats_map l]
theorem Ex.dat_length (e:Ex):e.dat.length=3:=by cases e;rfl
theorem Fm.dat_length (e:Fm):e.dat.length=4:=by cases e;rfl
def IsExs (P:Nat→Prop) (w:World) (a:Option Addr) (l:List Ex):Prop:=Dat.Rows P w a (Ex.dats l)
def IsFms (P:Nat→Prop) (w:World) (a:Option Addr) (l:List Fm):Prop:=Dat.Rows P w a (Fm.dats l)
def IsStrs (P:Nat→Prop) (w:World) (a:Option Addr) (l:List ByteArray):Prop:=Dat.Rows P w a (l.map fun s=>[Dat.str s])
def IsEx (P:Nat→Prop) (w:World) (x y z:Value) (e:Ex):Prop:=Dat.Fs P w [x,y,z] e.dat
def IsFm (P:Nat→Prop) (w:World) (x y z u:Value) (e:Fm):Prop:=Dat.Fs P w [x,y,z,u] e.dat
section
variable {P Q:Nat→Prop}{w w':World}
theorem IsEx.form {x y z:Value}{e:Ex}(h:IsEx P w x y z e):∃a c,x=.bool e.var∧y=.string e.name∧z=.slice a e.args.length c∧e.name.size≤1073741824∧e.args.length≤c∧IsExs P w a e.args:=by
 cases e with|mk v n l =>
 obtain⟨h1,⟨h2,h2'⟩,⟨a,c,h3,h4,h6⟩,-⟩:=h
 have hl:(Ex.dats l).length=l.length:=by rw[Ex.dats_map,List.length_map]
 rw[hl]at h3 h4
 exact⟨a,c,h1,h2,h3,h2',h4,h6⟩
theorem IsEx.mk' {v:Bool}{n:ByteArray}{l:List Ex}{a:Option Addr}{c:Nat}(h1:n.size≤1073741824) (h2:l.length≤c) (h4:IsExs P w a l):IsEx P w (.bool v) (.string n) (.slice a l.length c) (.mk v n l):=by
 have hl:(Ex.dats l).length=l.length:=by rw[Ex.dats_map,List.length_map]
 exact⟨rfl,⟨rfl,h1⟩,⟨a,c,by rw[hl],by rw[hl];exact h2,h4⟩,trivial⟩
theorem IsFm.form {x y z u:Value}{e:Fm}(h:IsFm P w x y z u e):∃va vc ta tc a c,x=.int .i64 e.op∧y=.slice va e.vars.length vc∧z=.slice ta e.terms.length tc∧u=.slice a e.args.length c ∧
  -9223372036854775808≤e.op∧e.op≤9223372036854775807∧e.vars.length≤vc∧e.terms.length≤tc∧e.args.length≤c ∧
  IsStrs P w va e.vars∧IsExs P w ta e.terms∧IsFms P w a e.args:=by
 cases e with|mk o v t l =>
 obtain⟨⟨h1,h1a,h1b⟩,⟨va,vc,h2,h2a,h2c⟩,⟨ta,tc,h3,h3a,h3c⟩,⟨a,c,h4,h4a,h4c⟩,-⟩:=h
 have hl:(Ex.dats t).length=t.length:=by rw[Ex.dats_map,List.length_map]
 have hl2:(Fm.dats l).length=l.length:=by rw[Fm.dats_map,List.length_map]
 rw[List.length_map]at h2 h2a
 rw[hl]at h3 h3a
 rw[hl2]at h4 h4a
 exact⟨va,vc,ta,tc,a,c,h1,h2,h3,h4,h1a,h1b,h2a,h3a,h4a,h2c,h3c,h4c⟩
theorem IsFm.mk' {o:Int}{v:List ByteArray}{t:List Ex}{l:List Fm}{va ta a:Option Addr}{vc tc c:Nat}(h0:-9223372036854775808≤o) (h0':o≤9223372036854775807) (h1:v.length≤vc) (h2:t.length≤tc) (h3:l.length≤c)
  (h4:IsStrs P w va v) (h5:IsExs P w ta t) (h6:IsFms P w a l):IsFm P w (.int .i64 o) (.slice va v.length vc) (.slice ta t.length tc) (.slice a l.length c) (.mk o v t l):=by
 have hl:(Ex.dats t).length=t.length:=by rw[Ex.dats_map,List.length_map]
 have hl2:(Fm.dats l).length=l.length:=by rw[Fm.dats_map,List.length_map]
 exact⟨⟨rfl,h0,h0'⟩,⟨va,vc,by rw[List.length_map],by rw[List.length_map];exact h1,h4⟩,⟨ta,tc,by rw[hl],by rw[hl];exact h2,h5⟩,⟨a,c,by rw[hl2],by rw[hl2];exact h3,h6⟩,trivial⟩
theorem IsEx.ext {x y z:Value}{e:Ex}(h:IsEx P w x y z e) (hx:Ext w w'):IsEx P w' x y z e:=Dat.Fs.ext h hx
theorem IsFm.ext {x y z u:Value}{e:Fm}(h:IsFm P w x y z u e) (hx:Ext w w'):IsFm P w' x y z u e:=Dat.Fs.ext h hx
theorem IsExs.ext {a:Option Addr}{l:List Ex}(h:IsExs P w a l) (hx:Ext w w'):IsExs P w' a l:=Dat.Rows.ext h hx
theorem IsFms.ext {a:Option Addr}{l:List Fm}(h:IsFms P w a l) (hx:Ext w w'):IsFms P w' a l:=Dat.Rows.ext h hx
theorem IsStrs.ext {a:Option Addr}{l:List ByteArray}(h:IsStrs P w a l) (hx:Ext w w'):IsStrs P w' a l:=Dat.Rows.ext h hx
theorem IsExs.look {a:Option Addr}{l:List Ex}(h:IsExs P w a l){i:Nat}(hi:i<l.length) :
  ∃b o a' c',a=some ⟨b,o,none⟩∧P b∧w.cell? ⟨b,o+i * 3,none⟩=some (.bool l[i].var)∧w.cell? ⟨b,o+i * 3+1,none⟩=some (.string l[i].name)∧w.cell? ⟨b,o+i * 3+2,none⟩=some (.slice a' l[i].args.length c') ∧
   IsEx P w (.bool l[i].var) (.string l[i].name) (.slice a' l[i].args.length c') l[i]:=by
 have hl:(Ex.dats l).length=l.length:=by rw[Ex.dats_map,List.length_map]
 obtain⟨b,o,rfl,hb⟩:=Dat.Rows.addr h (by omega)
 obtain⟨vs,h1,h2⟩:=Dat.Rows.at (m:=3) h (fun e he=>by rw[Ex.dats_map]at he;obtain⟨x,-,rfl⟩:=List.mem_map.1 he;exact x.dat_length) (i:=i) (by omega)
 have he:(Ex.dats l)[i]'(by omega)=l[i].dat:=by simp[Ex.dats_map]
 rw[he]at h2
 have hlen:=h2.length
 rw[Ex.dat_length]at hlen
 match vs,hlen with
 |[x,y,z],_ =>
  have h3:IsEx P w x y z l[i]:=h2
  obtain⟨a',c',rfl,rfl,rfl,-⟩:=h3.form
  exact⟨b,o,a',c',rfl,hb,h1 0 _ rfl,h1 1 _ rfl,h1 2 _ rfl,h3⟩
theorem IsFms.look {a:Option Addr}{l:List Fm}(h:IsFms P w a l){i:Nat}(hi:i<l.length) :
  ∃b o va vc ta tc a' c',a=some ⟨b,o,none⟩∧P b∧w.cell? ⟨b,o+i * 4,none⟩=some (.int .i64 l[i].op)∧w.cell? ⟨b,o+i * 4+1,none⟩=some (.slice va l[i].vars.length vc)∧w.cell? ⟨b,o+i * 4+2,none⟩=some (.slice ta l[i].terms.length tc)∧w.cell? ⟨b,o+i * 4+3,none⟩=some (.slice a' l[i].args.length c') ∧
   IsFm P w (.int .i64 l[i].op) (.slice va l[i].vars.length vc) (.slice ta l[i].terms.length tc) (.slice a' l[i].args.length c') l[i]:=by
 have hl:(Fm.dats l).length=l.length:=by rw[Fm.dats_map,List.length_map]
 obtain⟨b,o,rfl,hb⟩:=Dat.Rows.addr h (by omega)
 obtain⟨vs,h1,h2⟩:=Dat.Rows.at (m:=4) h (fun e he=>by rw[Fm.dats_map]at he;obtain⟨x,-,rfl⟩:=List.mem_map.1 he;exact x.dat_length) (i:=i) (by omega)
 have he:(Fm.dats l)[i]'(by omega)=l[i].dat:=by simp[Fm.dats_map]
 rw[he]at h2
 have hlen:=h2.length
 rw[Fm.dat_length]at hlen
 match vs,hlen with
 |[x,y,z,u],_ =>
  have h3:IsFm P w x y z u l[i]:=h2
  obtain⟨va,vc,ta,tc,a',c',rfl,rfl,rfl,rfl,-⟩:=h3.form
  exact⟨b,o,va,vc,ta,tc,a',c',rfl,hb,h1 0 _ rfl,h1 1 _ rfl,h1 2 _ rfl,h1 3 _ rfl,h3⟩
theorem IsStrs.look {a:Option Addr}{l:List ByteArray}(h:IsStrs P w a l){i:Nat}(hi:i<l.length):∃b o,a=some ⟨b,o,none⟩∧P b∧w.cell? ⟨b,o+i,none⟩=some (.string l[i])∧l[i].size≤1073741824:=by
 obtain⟨b,o,rfl,hb⟩:=Dat.Rows.addr h (by simpa using (show 0<l.length by omega))
 obtain⟨vs,h1,h2⟩:=Dat.Rows.at (m:=1) h (fun e he=>by obtain⟨x,-,rfl⟩:=List.mem_map.1 he;rfl) (i:=i) (by simpa using hi)
 rw[List.getElem_map]at h2
 have hlen:=h2.length
 match vs,hlen with
 |[x],_ =>
  obtain⟨⟨rfl,h3⟩,-⟩:=h2
  exact⟨b,o,rfl,hb,by simpa using h1 0 _ rfl,h3⟩
end
end Go.Proofs.YtnclgkdpafhogaaGreat
namespace Go.Proofs.YtnclgkdpafhogaaGreat
mutual
def Ex.size:Ex→Nat
 |.mk _ _ l=>Ex.sizes l+1
def Ex.sizes:List Ex→Nat
 |[]=>0
 |e::l=>e.size+Ex.sizes l
end
mutual
def Ex.depth:Ex→Nat
 |.mk _ _ l=>Ex.depths l+1
def Ex.depths:List Ex→Nat
 |[]=>0
 |e::l=>max e.depth (Ex.depths l)
end
mutual
def Ex.wide:Ex→Nat
 |.mk _ _ l=>max l.length (Ex.wides l)
def Ex.wides:List Ex→Nat
 |[]=>0
 |e::l=>max e.wide (Ex.wides l)
end
mutual
def Fm.size:Fm→Nat
 |.mk _ v t l=>Fm.sizes l+Ex.sizes t+v.length+1
def Fm.sizes:List Fm→Nat
 |[]=>0
 |e::l=>e.size+Fm.sizes l
end
mutual
def Fm.depth:Fm→Nat
 |.mk _ _ _ l=>Fm.depths l+1
def Fm.depths:List Fm→Nat
 |[]=>0
 |e::l=>max e.depth (Fm.depths l)
end
section
variable {l:List Ex}{k:Nat}
theorem Ex.sizes_take (h:k<l.length):Ex.sizes (l.take (k+1))=Ex.sizes (l.take k)+l[k].size:=by
 induction l generalizing k with
 |nil=>simp at h
 |cons t ts ih =>
  cases k with
  |zero=>simp[Ex.sizes]
  |succ k=>simp only[List.take_succ_cons,Ex.sizes,List.getElem_cons_succ];rw[ih (by simpa using h)];omega
theorem Ex.sizes_take_le (l:List Ex) (k:Nat):Ex.sizes (l.take k)≤Ex.sizes l:=by
 induction l generalizing k with
 |nil=>simp
 |cons t ts ih =>
  cases k with
  |zero=>simp[Ex.sizes]
  |succ k=>simp only[List.take_succ_cons,Ex.sizes];have:=ih k;omega
theorem Ex.size_pos (t:Ex):1≤t.size:=by cases t;simp[Ex.size]
theorem Ex.length_le_sizes (l:List Ex):l.length≤Ex.sizes l:=by
 induction l with
 |nil=>simp[Ex.sizes]
 |cons t ts ih=>simp only[List.length_cons,Ex.sizes];have:=t.size_pos;omega
theorem Ex.size_le_sizes (h:k<l.length):l[k].size≤Ex.sizes l:=by
 have:=Ex.sizes_take h;have:=Ex.sizes_take_le l (k+1);omega
theorem Ex.depths_take (h:k<l.length):Ex.depths (l.take (k+1))=max (Ex.depths (l.take k)) l[k].depth:=by
 induction l generalizing k with
 |nil=>simp at h
 |cons t ts ih =>
  cases k with
  |zero=>simp[Ex.depths]
  |succ k=>simp only[List.take_succ_cons,Ex.depths,List.getElem_cons_succ];rw[ih (by simpa using h)];omega
theorem Ex.wides_take (h:k<l.length):Ex.wides (l.take (k+1))=max (Ex.wides (l.take k)) l[k].wide:=by
 induction l generalizing k with
 |nil=>simp at h
 |cons t ts ih =>
  cases k with
  |zero=>simp[Ex.wides]
  |succ k=>simp only[List.take_succ_cons,Ex.wides,List.getElem_cons_succ];rw[ih (by simpa using h)];omega
end
theorem Ex.depth_le_size (t:Ex):t.depth≤t.size:=by
 refine Ex.rec (motive_1:=fun t=>t.depth≤t.size) (motive_2:=fun l=>Ex.depths l≤Ex.sizes l) ?_ ?_ ?_ t
 ·intro v n l h;simp only[Ex.depth,Ex.size];omega
 ·simp[Ex.depths]
 ·intro t ts h1 h2;simp only[Ex.depths,Ex.sizes];omega
theorem Ex.wide_le_size (t:Ex):t.wide+1≤t.size:=by
 refine Ex.rec (motive_1:=fun t=>t.wide+1≤t.size) (motive_2:=fun l=>Ex.wides l≤Ex.sizes l) ?_ ?_ ?_ t
 ·intro v n l h;simp only[Ex.wide,Ex.size];have:=Ex.length_le_sizes l;omega
 ·simp[Ex.wides]
 ·intro t ts h1 h2;simp only[Ex.wides,Ex.sizes];omega
section
variable {l:List Fm}{k:Nat}
theorem Fm.sizes_take (h:k<l.length):Fm.sizes (l.take (k+1))=Fm.sizes (l.take k)+l[k].size:=by
 induction l generalizing k with
 |nil=>simp at h
 |cons t ts ih =>
  cases k with
  |zero=>simp[Fm.sizes]
  |succ k=>simp only[List.take_succ_cons,Fm.sizes,List.getElem_cons_succ];rw[ih (by simpa using h)];omega
theorem Fm.sizes_take_le (l:List Fm) (k:Nat):Fm.sizes (l.take k)≤Fm.sizes l:=by
 induction l generalizing k with
 |nil=>simp
 |cons t ts ih =>
  cases k with
  |zero=>simp[Fm.sizes]
  |succ k=>simp only[List.take_succ_cons,Fm.sizes];have:=ih k;omega
theorem Fm.size_pos (t:Fm):1≤t.size:=by cases t;simp[Fm.size]
theorem Fm.length_le_sizes (l:List Fm):l.length≤Fm.sizes l:=by
 induction l with
 |nil=>simp[Fm.sizes]
 |cons t ts ih=>simp only[List.length_cons,Fm.sizes];have:=t.size_pos;omega
theorem Fm.size_le_sizes (h:k<l.length):l[k].size≤Fm.sizes l:=by
 have:=Fm.sizes_take h;have:=Fm.sizes_take_le l (k+1);omega
theorem Fm.depths_take (h:k<l.length):Fm.depths (l.take (k+1))=max (Fm.depths (l.take k)) l[k].depth:=by
 induction l generalizing k with
 |nil=>simp at h
 |cons t ts ih =>
  cases k with
  |zero=>simp[Fm.depths]
  |succ k=>simp only[List.take_succ_cons,Fm.depths,List.getElem_cons_succ];rw[ih (by simpa using h)];omega
end
theorem Fm.depth_le_size (t:Fm):t.depth≤t.size:=by
 refine Fm.rec (motive_1:=fun t=>t.depth≤t.size) (motive_2:=fun l=>Fm.depths l≤Fm.sizes l) ?_ ?_ ?_ t
 ·intro o v t l h;simp only[Fm.depth,Fm.size];omega
 ·simp[Fm.depths]
 ·intro t ts h1 h2;simp only[Fm.depths,Fm.sizes];omega
open Go.ChangeShapes Go.WideShapes Go.ChangeAt Go.RowKit
def zp (c:UInt8):Bool:=decide ((97≤c.toNat∧c.toNat≤122)∨(65≤c.toNat∧c.toNat≤90)∨(48≤c.toNat∧c.toNat≤57)∨c.toNat=95)
def zfx (s:ByteArray):Bool:=s.data.toList.all zp
def named (s:ByteArray):Bool:=decide (1≤s.size∧s.size≤40)&&zfx s
def Sy.one (x:Sy):Int:=if named x.name=false then 111 else if x.arity<0∨6<x.arity then 112 else 0
theorem zyo (p:UInt8→Bool) (s:ByteArray) (k:Nat) (h:k<s.size):(s.data.toList.take (k+1)).all p=((s.data.toList.take k).all p&&p s[k]):=by
 rw[List.take_succ_eq_append_getElem (by simpa using h),List.all_append]
 simp only[List.all_cons,List.all_nil,Bool.and_true]
 rfl
theorem zvi (p:UInt8→Bool) (l:List UInt8) (k:Nat) (h:(l.take k).all p=false):l.all p=false:=by
 rw[←List.take_append_drop k l,List.all_append,h];rfl
open Go.ChangeShapes Go.WideShapes Go.ChangeAt Go.RowKit
mutual
def Tm.size:Tm→Nat
 |.mk _ ks=>Tm.sizes ks+1
def Tm.sizes:List Tm→Nat
 |[]=>0
 |t::ts=>Tm.size t+Tm.sizes ts
end
mutual
def Tm.depth:Tm→Nat
 |.mk _ ks=>Tm.depths ks+1
def Tm.depths:List Tm→Nat
 |[]=>0
 |t::ts=>max (Tm.depth t) (Tm.depths ts)
end
mutual
def Tm.low (m:Int):Tm→Bool
 |.mk f ks=>if f<0 then decide (-m≤f)&&decide (ks.length=0)else Tm.lows m ks
def Tm.lows (m:Int):List Tm→Bool
 |[]=>true
 |t::ts=>Tm.low m t&&Tm.lows m ts
end
theorem sizes_take {ks:List Tm}{k:Nat}(h:k<ks.length):Tm.sizes (ks.take (k+1))=Tm.sizes (ks.take k)+ks[k].size:=by
 induction ks generalizing k with
 |nil=>simp at h
 |cons t ts ih =>
  cases k with
  |zero=>simp[Tm.sizes]
  |succ k=>simp only[List.take_succ_cons,Tm.sizes,List.getElem_cons_succ];rw[ih (by simpa using h)];omega
theorem sizes_take_le (ks:List Tm) (k:Nat):Tm.sizes (ks.take k)≤Tm.sizes ks:=by
 induction ks generalizing k with
 |nil=>simp
 |cons t ts ih =>
  cases k with
  |zero=>simp[Tm.sizes]
  |succ k=>simp only[List.take_succ_cons,Tm.sizes];have:=ih k;omega
theorem size_pos (t:Tm):1≤t.size:=by cases t;simp[Tm.size]
theorem length_le_sizes (ks:List Tm):ks.length≤Tm.sizes ks:=by
 induction ks with
 |nil=>simp[Tm.sizes]
 |cons t ts ih=>simp only[List.length_cons,Tm.sizes];have:=size_pos t;omega
theorem size_le_sizes {ks:List Tm}{k:Nat}(h:k<ks.length):ks[k].size≤Tm.sizes ks:=by
 have:=sizes_take h;have:=sizes_take_le ks (k+1);omega
theorem depths_take {ks:List Tm}{k:Nat}(h:k<ks.length):Tm.depths (ks.take (k+1))=max (Tm.depths (ks.take k)) ks[k].depth:=by
 induction ks generalizing k with
 |nil=>simp at h
 |cons t ts ih =>
  cases k with
  |zero=>simp[Tm.depths]
  |succ k=>simp only[List.take_succ_cons,Tm.depths,List.getElem_cons_succ];rw[ih (by simpa using h)];omega
theorem depth_le_size (t:Tm):t.depth≤t.size:=by
 refine Tm.rec (motive_1:=fun t=>t.depth≤t.size) (motive_2:=fun l=>Tm.depths l≤Tm.sizes l) ?_ ?_ ?_ t
 ·intro f ks h;simp only[Tm.depth,Tm.size];omega
 ·simp[Tm.depths]
 ·intro t ts h1 h2;simp only[Tm.depths,Tm.sizes];omega
open Go.ChangeShapes Go.WideShapes Go.ChangeAt Go.RowKit
mutual
def AtTm (P:Nat→Prop) (w:World) (x s:Value):Tm→Prop
 |.mk n ks=>x=.int .i64 n∧-9223372036854775808≤n∧n≤9223372036854775807∧∃a c,s=.slice a ks.length c∧ks.length≤c∧AtTms P w a ks
def AtTms (P:Nat→Prop) (w:World) (a:Option Addr):List Tm→Prop
 |[]=>True
 |t::ts=>∃b o x s,a=some ⟨b,o,none⟩∧P b∧w.cell? ⟨b,o,none⟩=some x∧w.cell? ⟨b,o+1,none⟩=some s∧AtTm P w x s t∧AtTms P w (some ⟨b,o+2,none⟩) ts
end
section
variable {w w':World}{P Q:Nat→Prop}
mutual
theorem AtTm.of_cells (hQ:∀b,P b→b<w.heap.size→Q b) (h:∀p v,P p.block→w.cell? p=some v→w'.cell? p=some v):∀ {t:Tm}{x s:Value},AtTm P w x s t→AtTm Q w' x s t
 |.mk n ks,x,s,ht=>by
  simp only[AtTm]at ht ⊢
  obtain⟨h1,h2,h3,a,c,h4,h6,h5⟩:=ht
  exact⟨h1,h2,h3,a,c,h4,h6,AtTms.of_cells hQ h h5⟩
theorem AtTms.of_cells (hQ:∀b,P b→b<w.heap.size→Q b) (h:∀p v,P p.block→w.cell? p=some v→w'.cell? p=some v):∀ {ts:List Tm}{a:Option Addr},AtTms P w a ts→AtTms Q w' a ts
 |[],a,_=>trivial
 |t::ts,a,ht=>by
  simp only[AtTms]at ht ⊢
  obtain⟨b,o,x,s,h1,h0,h2,h3,h4,h5⟩:=ht
  exact⟨b,o,x,s,h1,hQ b h0 (zf h2),h _ _ h0 h2,h _ _ h0 h3,AtTm.of_cells hQ h h4,AtTms.of_cells hQ h h5⟩
end
end
theorem AtTm.ext {P:Nat→Prop}{w w':World}{t:Tm}{x s:Value}(h:AtTm P w x s t) (hx:Ext w w'):AtTm P w' x s t:=h.of_cells (fun _ h _=>h) fun _ _ _ hp=>hx.cell hp
theorem AtTm.chg {P:Nat→Prop}{S:List Nat}{w w':World}{t:Tm}{x s:Value}(h:AtTm P w x s t) (hx:Chg S w w') (hS:∀i∈S,¬P i):AtTm P w' x s t :=
 h.of_cells (fun _ h _=>h) fun _p _ hB hp=>hx.cell hp (fun hm=>hS _ hm hB)
theorem AtTm.mono {P Q:Nat→Prop}{w:World}{t:Tm}{x s:Value}(h:AtTm P w x s t) (hQ:∀b,P b→b<w.heap.size→Q b):AtTm Q w x s t:=h.of_cells hQ fun _ _ _ h=>h
open Go.ChangeShapes Go.WideShapes Go.ChangeAt Go.RowKit
def zg6 (c:UInt8):Bool:=decide (97≤c.toNat∧c.toNat≤122)
def zmr (c:UInt8):Bool:=decide (65≤c.toNat∧c.toNat≤90)
def zcl (c:UInt8):Bool:=decide (48≤c.toNat∧c.toNat≤57)
def zb6 (c:UInt8):Bool:=decide ((32≤c.toNat∧c.toNat≤126)∧c.toNat≠39∧c.toNat≠92)
def zaj (p:UInt8→Bool) (s:ByteArray) (k:Nat):Nat:=k+((s.data.toList.drop k).takeWhile p).length
theorem zfy {p:UInt8→Bool}{s:ByteArray}{k:Nat}(h:k<s.size):zaj p s k=if p s[k]then zaj p s (k+1)else k:=by
 unfold zaj
 rw[List.drop_eq_getElem_cons (by simpa using h),List.takeWhile_cons]
 have e:s.data.toList[k]'(by simpa using h)=s[k]:=rfl
 rw[e]
 split
 ·simp;omega
 ·simp
theorem zke {p:UInt8→Bool}{s:ByteArray}{k:Nat}(h:s.size≤k):zaj p s k=k:=by
 unfold zaj
 rw[List.drop_eq_nil_of_le (by simpa using h)];rfl
theorem zb9 (p:UInt8→Bool) (s:ByteArray) (k:Nat):k≤zaj p s k:=by unfold zaj;omega
theorem zca {p:UInt8→Bool}{s:ByteArray}{k:Nat}(h:k≤s.size):zaj p s k≤s.size:=by
 unfold zaj
 have h1:=(List.takeWhile_sublist p (l:=s.data.toList.drop k)).length_le
 have h2:(s.data.toList.drop k).length=s.size-k:=by simp
 omega
theorem zvj {p:UInt8→Bool}{s:ByteArray}:(zaj p s 0=s.size)↔s.data.toList.all p=true:=by
 unfold zaj
 rw[List.drop_zero]
 have e:s.size=s.data.toList.length:=by simp
 rw[e,Nat.zero_add]
 generalize s.data.toList=l
 induction l with
 |nil=>simp
 |cons c l ih =>
  rw[List.takeWhile_cons]
  cases h:p c with
  |true=>simp only[List.length_cons,List.all_cons,h,Bool.true_and,if_true];exact⟨fun h=>ih.1 (by omega),fun h=>by have:=ih.2 h;omega⟩
  |false=>simp[h]
theorem zaf (c:UInt8) (w:World):Calls Tryz.prog 127 #[.int .u8 c.toNat] w fun e w'=>e=.returned (.bool (zg6 c))∧w=w':=by
 have hc:c.toNat<256:=c.toNat_lt
 go_enter Tryz.func127,Tryz.ntmps127
 go_wp2_with fail
 all_goals
  go_ret
  refine⟨ze ?_,rfl⟩
  unfold zg6
  rw[Bool.eq_iff_iff]
  simp
  omega
theorem za0 (c:UInt8) (w:World):Calls Tryz.prog 161 #[.int .u8 c.toNat] w fun e w'=>e=.returned (.bool (zmr c))∧w=w':=by
 have hc:c.toNat<256:=c.toNat_lt
 go_enter Tryz.func161,Tryz.ntmps161
 go_wp2_with fail
 all_goals
  go_ret
  refine⟨ze ?_,rfl⟩
  unfold zmr
  rw[Bool.eq_iff_iff]
  simp
  omega
theorem zao (c:UInt8) (w:World):Calls Tryz.prog 162 #[.int .u8 c.toNat] w fun e w'=>e=.returned (.bool (zcl c))∧w=w':=by
 have hc:c.toNat<256:=c.toNat_lt
 go_enter Tryz.func162,Tryz.ntmps162
 go_wp2_with fail
 all_goals
  go_ret
  refine⟨ze ?_,rfl⟩
  unfold zcl
  rw[Bool.eq_iff_iff]
  simp
  omega
theorem zi7 (c:UInt8) (w:World):Calls Tryz.prog 198 #[.int .u8 c.toNat] w fun e w'=>e=.returned (.bool (zb6 c))∧w=w':=by
 have hc:c.toNat<256:=c.toNat_lt
 go_enter Tryz.func198,Tryz.ntmps198
 go_wp2_with fail
 all_goals
  go_ret
  refine⟨ze ?_,rfl⟩
  unfold zb6
  rw[Bool.eq_iff_iff]
  simp
  try omega
theorem zkf (c:UInt8) (w:World):Calls Tryz.prog 123 #[.int .u8 c.toNat] w fun e w'=>e=.returned (.bool (zp c))∧w=w':=by
 have hc:c.toNat<256:=c.toNat_lt
 have e:zp c=(zg6 c || zmr c || zcl c || decide (c.toNat=95)):=by
  unfold zp zg6 zmr zcl
  rw[Bool.eq_iff_iff];simp;omega
 rw[e]
 go_enter Tryz.func123,Tryz.ntmps123
 go_wp2_with (first
  |((with_reducible refine(zaf _ _).mono ?_);rintro e w' ⟨rfl,rfl⟩)
  |((with_reducible refine(za0 _ _).mono ?_);rintro e w' ⟨rfl,rfl⟩)
  |((with_reducible refine(zao _ _).mono ?_);rintro e w' ⟨rfl,rfl⟩))
 all_goals
  go_ret
  refine⟨ze ?_,rfl⟩
  rw[Bool.eq_iff_iff]
  simp_all
  try omega
theorem zdo (s:ByteArray) (hs:s.size≤1073741824) (k:Nat) (hk:k≤s.size) (w:World) :
  Calls Tryz.prog 122 #[.string s,.int .i64 k,.func (.func 123) #[] #[]] w fun e w'=>e=.returned (.int .i64 (zaj zp s k:Nat))∧w=w':=by
 go_enter Tryz.func122,Tryz.ntmps122
 go_wp2_with fail
 go_loop [1] (fun i=>∃j:Nat,j≤s.size∧i=.int .i64 j∧zaj zp s k=zaj zp s j) (fun i=>s.size-(intOf i).toNat)
 case atStart=>exact⟨k,hk,rfl,rfl⟩
 case round =>
  obtain⟨j,hj,rfl,heq⟩:=hrel
  have Heq:=Lib.hid heq;clear heq
  by_cases hlt:j<s.size
  ·have hlt':decide ((j:Int)<(s.size:Nat))=true:=decide_eq_true (by omega)
   have Hst:=Lib.hid (zfy (p:=zp) hlt)
   cases hl:zp s[j] with
   |false =>
    go_wp2_with ((with_reducible refine(zkf _ _).mono ?_);rintro e w' ⟨rfl,rfl⟩)
    go_ret
    have h1:=Hst.out
    rw[hl,if_neg (by decide)]at h1
    exact⟨zm (by rw[Heq.out,h1]),rfl⟩
   |true =>
    go_wp2_with ((with_reducible refine(zkf _ _).mono ?_);rintro e w' ⟨rfl,rfl⟩)
    go_round
    case rel =>
     have h1:=Hst.out
     rw[hl,if_pos rfl]at h1
     exact⟨j+1,by omega,by go_num,by rw[Heq.out,h1]⟩
    case measure=>simp[intOf];omega
  ·have hlt':decide ((j:Int)<(s.size:Nat))=false:=decide_eq_false (by omega)
   go_wp2_with fail
   have:j=s.size:=by omega
   subst this
   go_ret
   exact⟨zm (by rw[Heq.out,zke (Nat.le_refl _)]),rfl⟩
theorem zmf (s:ByteArray) (hs:s.size≤1073741824) (k:Nat) (hk:k≤s.size) (w:World) :
  Calls Tryz.prog 122 #[.string s,.int .i64 k,.func (.func 162) #[] #[]] w fun e w'=>e=.returned (.int .i64 (zaj zcl s k:Nat))∧w=w':=by
 go_enter Tryz.func122,Tryz.ntmps122
 go_wp2_with fail
 go_loop [1] (fun i=>∃j:Nat,j≤s.size∧i=.int .i64 j∧zaj zcl s k=zaj zcl s j) (fun i=>s.size-(intOf i).toNat)
 case atStart=>exact⟨k,hk,rfl,rfl⟩
 case round =>
  obtain⟨j,hj,rfl,heq⟩:=hrel
  have Heq:=Lib.hid heq;clear heq
  by_cases hlt:j<s.size
  ·have hlt':decide ((j:Int)<(s.size:Nat))=true:=decide_eq_true (by omega)
   have Hst:=Lib.hid (zfy (p:=zcl) hlt)
   cases hl:zcl s[j] with
   |false =>
    go_wp2_with ((with_reducible refine(zao _ _).mono ?_);rintro e w' ⟨rfl,rfl⟩)
    go_ret
    have h1:=Hst.out
    rw[hl,if_neg (by decide)]at h1
    exact⟨zm (by rw[Heq.out,h1]),rfl⟩
   |true =>
    go_wp2_with ((with_reducible refine(zao _ _).mono ?_);rintro e w' ⟨rfl,rfl⟩)
    go_round
    case rel =>
     have h1:=Hst.out
     rw[hl,if_pos rfl]at h1
     exact⟨j+1,by omega,by go_num,by rw[Heq.out,h1]⟩
    case measure=>simp[intOf];omega
  ·have hlt':decide ((j:Int)<(s.size:Nat))=false:=decide_eq_false (by omega)
   go_wp2_with fail
   have:j=s.size:=by omega
   subst this
   go_ret
   exact⟨zm (by rw[Heq.out,zke (Nat.le_refl _)]),rfl⟩
theorem zmg (s:ByteArray) (hs:s.size≤1073741824) (k:Nat) (hk:k≤s.size) (w:World) :
  Calls Tryz.prog 122 #[.string s,.int .i64 k,.func (.func 198) #[] #[]] w fun e w'=>e=.returned (.int .i64 (zaj zb6 s k:Nat))∧w=w':=by
 go_enter Tryz.func122,Tryz.ntmps122
 go_wp2_with fail
 go_loop [1] (fun i=>∃j:Nat,j≤s.size∧i=.int .i64 j∧zaj zb6 s k=zaj zb6 s j) (fun i=>s.size-(intOf i).toNat)
 case atStart=>exact⟨k,hk,rfl,rfl⟩
 case round =>
  obtain⟨j,hj,rfl,heq⟩:=hrel
  have Heq:=Lib.hid heq;clear heq
  by_cases hlt:j<s.size
  ·have hlt':decide ((j:Int)<(s.size:Nat))=true:=decide_eq_true (by omega)
   have Hst:=Lib.hid (zfy (p:=zb6) hlt)
   cases hl:zb6 s[j] with
   |false =>
    go_wp2_with ((with_reducible refine(zi7 _ _).mono ?_);rintro e w' ⟨rfl,rfl⟩)
    go_ret
    have h1:=Hst.out
    rw[hl,if_neg (by decide)]at h1
    exact⟨zm (by rw[Heq.out,h1]),rfl⟩
   |true =>
    go_wp2_with ((with_reducible refine(zi7 _ _).mono ?_);rintro e w' ⟨rfl,rfl⟩)
    go_round
    case rel =>
     have h1:=Hst.out
     rw[hl,if_pos rfl]at h1
     exact⟨j+1,by omega,by go_num,by rw[Heq.out,h1]⟩
    case measure=>simp[intOf];omega
  ·have hlt':decide ((j:Int)<(s.size:Nat))=false:=decide_eq_false (by omega)
   go_wp2_with fail
   have:j=s.size:=by omega
   subst this
   go_ret
   exact⟨zm (by rw[Heq.out,zke (Nat.le_refl _)]),rfl⟩
theorem zyp (s:ByteArray):named s=(decide (1≤s.size∧s.size≤40)&&decide (zaj zp s 0=s.size)):=by
 unfold named zfx
 congr 1
 rw[Bool.eq_iff_iff,decide_eq_true_iff,zvj]
theorem zdw (s:ByteArray) (hs:s.size≤1073741824) (w:World) :
  Calls Tryz.prog 69 #[.string s] w fun e w'=>e=.returned (.bool (named s))∧w=w':=by
 have hr:zaj zp s 0≤s.size:=zca (Nat.zero_le _)
 rw[zyp]
 have H:=Lib.hid (fun w=>zdo s hs 0 (Nat.zero_le _) w)
 generalize zaj zp s 0=r at H hr
 by_cases h1:0<s.size
 ·have d1:decide ((0:Int)<(s.size:Nat))=true:=decide_eq_true (by omega)
  by_cases h2:s.size≤40
  ·have d2:decide ((s.size:Int)≤40)=true:=decide_eq_true (by omega)
   go_enter Tryz.func69,Tryz.ntmps69
   go_wp2_with (refine(H.out _).mono ?_;rintro e w' ⟨rfl,rfl⟩)
   go_ret
   refine⟨ze ?_,rfl⟩
   rw[Bool.eq_iff_iff];simp;omega
  ·have d2:decide ((s.size:Int)≤40)=false:=decide_eq_false (by omega)
   go_enter Tryz.func69,Tryz.ntmps69
   go_wp2_with fail
   go_ret
   refine⟨ze ?_,rfl⟩
   simp;omega
 ·have d1:decide ((0:Int)<(s.size:Nat))=false:=decide_eq_false (by omega)
  go_enter Tryz.func69,Tryz.ntmps69
  go_wp2_with fail
  all_goals
   go_ret
   refine⟨ze ?_,rfl⟩
   simp;omega
end Go.Proofs.YtnclgkdpafhogaaGreat
