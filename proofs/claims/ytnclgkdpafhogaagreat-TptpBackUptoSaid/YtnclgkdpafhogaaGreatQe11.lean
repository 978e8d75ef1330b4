/- Plain: a formula's free variables. Rows that are handed on and appended to. No condition. -/
import Derived.Test.YtnclgkdpafhogaaGreatQe1
import Derived.Test.YtnclgkdpafhogaaGreatQe3
set_option maxHeartbeats 16000000
set_option maxRecDepth 100000
namespace Go.Proofs.YtnclgkdpafhogaaGreat
open Go.ChangeShapes Go.WideShapes Go.ChangeAt Go.RowKit
def inB (l:List ByteArray) (s:ByteArray):Bool:=l.any fun u=>decide (u=s)
mutual
def Ex.free (bd out:List ByteArray):Ex→List ByteArray
 |.mk v n l=>Ex.frees bd (if v&&!(inB bd n)&&!(inB out n)then out++[n]else out) l
def Ex.frees (bd out:List ByteArray):List Ex→List ByteArray
 |[]=>out
 |e::l=>Ex.frees bd (Ex.free bd out e) l
end
def zg8 (op:Int):Bool:=decide (op=11) || decide (op=12)
mutual
def Fm.free (bd out:List ByteArray):Fm→List ByteArray
 |.mk o v t l=>Fm.frees (if zg8 o then bd++v else bd) (Ex.frees bd out t) l
def Fm.frees (bd out:List ByteArray):List Fm→List ByteArray
 |[]=>out
 |e::l=>Fm.frees bd (Fm.free bd out e) l
end
def Fm.freeS (f:Fm):List ByteArray:=f.free [] []
theorem Ex.frees_append (bd:List ByteArray):∀(a b:List Ex) (out:List ByteArray),Ex.frees bd out (a++b)=Ex.frees bd (Ex.frees bd out a) b
 |[],_,_=>rfl
 |e::a,b,out=>by simp only[List.cons_append,Ex.frees];exact Ex.frees_append bd a b _
theorem Fm.frees_append (bd:List ByteArray):∀(a b:List Fm) (out:List ByteArray),Fm.frees bd out (a++b)=Fm.frees bd (Fm.frees bd out a) b
 |[],_,_=>rfl
 |e::a,b,out=>by simp only[List.cons_append,Fm.frees];exact Fm.frees_append bd a b _
theorem Ex.frees_take {bd out:List ByteArray}{l:List Ex}{k:Nat}(h:k<l.length):Ex.frees bd out (l.take (k+1))=Ex.free bd (Ex.frees bd out (l.take k)) l[k]:=by
 rw[List.take_succ_eq_append_getElem h,Ex.frees_append];rfl
theorem Fm.frees_take {bd out:List ByteArray}{l:List Fm}{k:Nat}(h:k<l.length):Fm.frees bd out (l.take (k+1))=Fm.free bd (Fm.frees bd out (l.take k)) l[k]:=by
 rw[List.take_succ_eq_append_getElem h,Fm.frees_append];rfl
theorem Ex.free_len (x:Ex):∀bd out,(Ex.free bd out x).length≤out.length+x.size:=by
 refine Ex.rec (motive_1:=fun x=>∀bd out,(Ex.free bd out x).length≤out.length+x.size) (motive_2:=fun l=>∀bd out,(Ex.frees bd out l).length≤out.length+Ex.sizes l) ?_ ?_ ?_ x
 ·intro v n l ih bd out
  simp only[Ex.free,Ex.size]
  have:=ih bd (if v&&!(inB bd n)&&!(inB out n)then out++[n]else out)
  have h:(if v&&!(inB bd n)&&!(inB out n)then out++[n]else out).length≤out.length+1:=by split<;>simp
  omega
 ·intro bd out;simp[Ex.frees]
 ·intro e l h1 h2 bd out
  simp only[Ex.frees,Ex.sizes]
  have:=h1 bd out
  have:=h2 bd (Ex.free bd out e)
  omega
theorem Ex.frees_len:∀(l:List Ex) (bd out:List ByteArray),(Ex.frees bd out l).length≤out.length+Ex.sizes l
 |[],_,_=>by simp[Ex.frees]
 |e::l,bd,out=>by
  have:=e.free_len bd out
  have:=Ex.frees_len l bd (Ex.free bd out e)
  simp only[Ex.frees,Ex.sizes];omega
theorem Fm.free_len (x:Fm):∀bd out,(Fm.free bd out x).length≤out.length+x.size:=by
 refine Fm.rec (motive_1:=fun x=>∀bd out,(Fm.free bd out x).length≤out.length+x.size) (motive_2:=fun l=>∀bd out,(Fm.frees bd out l).length≤out.length+Fm.sizes l) ?_ ?_ ?_ x
 ·intro o v t l ih bd out
  simp only[Fm.free,Fm.size]
  have:=ih (if zg8 o then bd++v else bd) (Ex.frees bd out t)
  have:=Ex.frees_len t bd out
  omega
 ·intro bd out;simp[Fm.frees]
 ·intro e l h1 h2 bd out
  simp only[Fm.frees,Fm.sizes]
  have:=h1 bd out
  have:=h2 bd (Fm.free bd out e)
  omega
theorem Fm.frees_len:∀(l:List Fm) (bd out:List ByteArray),(Fm.frees bd out l).length≤out.length+Fm.sizes l
 |[],_,_=>by simp[Fm.frees]
 |e::l,bd,out=>by
  have:=e.free_len bd out
  have:=Fm.frees_len l bd (Fm.free bd out e)
  simp only[Fm.frees,Fm.sizes];omega
structure RFr (w:World) (v:Value) (w':World) (v':Value):Prop where
 chg:Chg v.ownBlock.toList w w'
 own:v'.ownBlock=v.ownBlock∨∀g,v'.ownBlock=some g→w.heap.size≤g
theorem RFr.refl (w:World) (v:Value):RFr w v w v:=⟨Chg.refl _ _,.inl rfl⟩
theorem RFr.trans {w w' w'':World}{v v' v'':Value}(h:RFr w v w' v') (k:RFr w' v' w'' v''):RFr w v w'' v'':=by
 refine⟨⟨k.chg.os.trans h.chg.os,k.chg.tape.trans h.chg.tape,k.chg.output.trans h.chg.output,Nat.le_trans h.chg.size k.chg.size,fun b hb hn=>?_⟩,?_⟩
 ·refine(k.chg.block b (Nat.lt_of_lt_of_le hb h.chg.size) fun hm=>?_).trans (h.chg.block b hb hn)
  have hm':v'.ownBlock=some b:=by simpa using hm
  rcases h.own with e|e
  ·exact hn (by rw[←e,hm'];simp)
  ·have:=e b hm';omega
 ·rcases k.own with e|e
  ·rw[e];exact h.own
  ·exact .inr fun g hg=>Nat.le_trans h.chg.size (e g hg)
theorem RFr.of_ext {w w':World}(h:Ext w w') (v:Value):RFr w v w' v:=⟨Chg.of_ext h,.inl rfl⟩
def StrRow (B:Nat) (w:World) (v:Value) (l:List ByteArray):Prop:=GRow (z6 1) 9 B w v (l.map fun s=>[Dat.str s])
theorem StrRow.strs {B:Nat}{w:World}{v:Value}{l:List ByteArray}(h:StrRow B w v l):∃a c,v=.slice a l.length c∧l.length≤c∧IsStrs (fun b=>B≤b) w a l:=by
 obtain⟨a,c,h1,h2,h3⟩:=GRow.dat (by decide) h
 rw[List.length_map]at h1 h2
 exact⟨a,c,h1,h2,h3⟩
theorem StrRow.ext {B:Nat}{w w':World}{v:Value}{l:List ByteArray}(h:StrRow B w v l) (hx:Ext w w'):StrRow B w' v l:=GRow.ext h hx
theorem RFr.ext {w w':World}{v v':Value}(h:RFr w v w' v'){w0:World}(hx:Ext w0 w) (hv:∀g,v.ownBlock=some g→w0.heap.size≤g):Ext w0 w' :=
 Chg.ext hx h.chg fun i hi=>hv i (by simpa using hi)
theorem RFr.ne {w w':World}{v v':Value}(h:RFr w v w' v'){P:Nat→Prop}(hP:∀b,P b→v.ownBlock≠some b):∀b,(P b∧b<w.heap.size)→v'.ownBlock≠some b:=by
 rintro b ⟨h1,h2⟩ he
 rcases h.own with e|e
 ·exact hP b h1 (by rw[←e];exact he)
 ·have:=e b he;omega
theorem RFr.cell {w w':World}{v v':Value}(h:RFr w v w' v'){p:Addr}{u:Value}(hp:w.cell? p=some u) (hv:v.ownBlock≠some p.block):w'.cell? p=some u:=h.chg.cell hp (fun hm=>hv (by simpa using hm))
theorem RFr.rows {w w':World}{v v':Value}(h:RFr w v w' v'){P:Nat→Prop}(hP:∀b,P b→v.ownBlock≠some b){a:Option Addr}{L:List (List Dat)}(hr:Dat.Rows P w a L):Dat.Rows (fun b=>P b∧b<w.heap.size) w' a L :=
 hr.of_cells (fun _ h1 h2=>⟨h1,h2⟩) fun _ _ hb hp=>h.cell hp (hP _ hb)
theorem zyt {l:List ByteArray}{k:Nat}(h:k<l.length) (s:ByteArray):inB (l.take (k+1)) s=(inB (l.take k) s || decide (l[k]=s)):=by
 unfold inB
 rw[List.take_succ_eq_append_getElem h,List.any_append];simp
end Go.Proofs.YtnclgkdpafhogaaGreat
