/- From a reading of an argument to data in memory: rows of any elements; terms, formulas, tokens. Condition: the argument's bulk is at most 1048576. -/
import Derived.Test.YtnclgkdpafhogaaGreatRows
import Derived.Test.YtnclgkdpafhogaaGreatQc1
import Derived.Test.YtnclgkdpafhogaaGreatQc3
import Derived.Deep.Slices
import Derived.Lib.SmallJoins
import Derived.Carry
set_option maxHeartbeats 16000000
set_option maxRecDepth 100000
namespace Go.Proofs.YtnclgkdpafhogaaGreat
open Go.ChangeShapes Go.WideShapes Go.ChangeAt Go.RowKit
theorem zqe:Tryz.prog.cellsOf 9=1:=by kernel_rfl
theorem zyq {H:Type}(d:DataW H):1≤Rows.uptoBulk d:=by
 cases d with
 |lit l=>cases l<;>simp[Rows.uptoBulk]
 |nil=>simp[Rows.uptoBulk]
 |ptr d=>simp[Rows.uptoBulk]
 |slice elems spare=>simp[Rows.uptoBulk]
 |agg parts=>simp[Rows.uptoBulk]
 |iface t d=>simp[Rows.uptoBulk]
 |map entries=>simp[Rows.uptoBulk]
 |held h=>simp[Rows.uptoBulk]
theorem zyr {H:Type}(l:List (DataW H)):l.length≤Rows.uptoBulkAll l:=by
 induction l with
 |nil=>simp[Rows.uptoBulkAll]
 |cons x r ih=>have:=zyq x;simp only[Rows.uptoBulkAll,List.length_cons];omega
theorem zz1 {H:Type}{l:List (DataW H)}{i:Nat}{d:DataW H}(h:l[i]?=some d):Rows.uptoBulk d≤Rows.uptoBulkAll l:=by
 induction l generalizing i with
 |nil=>simp at h
 |cons x r ih =>
  simp only[Rows.uptoBulkAll]
  cases i with
  |zero=>simp at h;subst h;omega
  |succ i=>have:=ih (i:=i) (by simpa using h);omega
def Ab:Nat→Prop:=fun _=>True
section
variable {H:Type}{enc:TypeId×Value→H}{w:World}{base:Nat}{spare:Nat→Bool}{held:Bool}
theorem zw4 {α:Type}(f:α→List Dat) (μ:α→Nat) (μs:List α→Nat) (h0:μs []=0) (h1:∀x l,μs (x::l)=μ x+μs l){k:Nat}(hk:0<k) (hfk:∀x,(f x).length=k){b:Nat} :
  ∀(elems:List (DataW H×List MemPlace)) (off:Nat),(∀i y,elems[i]?=some y→∃(x:α) (cs:List Value),cs.length=k∧(∀j v,cs[j]?=some v→w.cell? ⟨b,off+i * k+j,none⟩=some v)∧Dat.Fs Ab w cs (f x)∧μ x≤Rows.uptoBulk y.1) →
  ∃l:List α,l.length=elems.length∧Dat.Rows Ab w (some ⟨b,off,none⟩) (l.map f)∧μs l≤Rows.uptoBulkAll (elems.map (·.1))
 |[],off,_=>⟨[],rfl,trivial,by rw[h0];simp⟩
 |y::r,off,h=>by
  obtain⟨x,cs,g0,g1,g2,g3⟩:=h 0 y rfl
  obtain⟨l,l1,l2,l3⟩:=zw4 f μ μs h0 h1 hk hfk r (off+k) fun i y' hy=>by
   obtain⟨x,cs,g0,g1,g2,g3⟩:=h (i+1) y' (by simpa using hy)
   exact⟨x,cs,g0,fun j v hj=>by rw[show off+k+i * k+j=off+(i+1) * k+j by rw[Nat.add_mul];omega];exact g1 j v hj,g2,g3⟩
  refine⟨x::l,by simp[l1],?_,?_⟩
  ·refine⟨b,off,cs,rfl,trivial,fun h=>by rw[h]at g0;simp at g0;omega,fun j v hj=>by simpa using g1 j v hj,g2,?_⟩
   rw[hfk]
   exact l2
  ·rw[h1];simp only[List.map_cons,Rows.uptoBulkAll];omega
theorem zys {α:Type}(f:α→List Dat) (μ:α→Nat) (μs:List α→Nat) (h0:μs []=0) (h1:∀x l,μs (x::l)=μ x+μs l){k:Nat}(hk:0<k) (hfk:∀x,(f x).length=k){tS T:TypeId}(hu:Tryz.prog.underlying tS=some (.slice T)) (hc:Tryz.prog.cellsOf T=k)
  {fuel:Nat}(helem:∀n cs y,n<fuel→DataW.trod enc Tryz.prog w base spare held n T cs=some y→Rows.uptoBulk y.1≤1048576→∃x,Dat.Fs Ab w cs (f x)∧μ x≤Rows.uptoBulk y.1)
  {c:Value}{x:DataW H×List MemPlace}(h:DataW.trod enc Tryz.prog w base spare held fuel tS [c]=some x) (hb:Rows.uptoBulk x.1≤1048576) :
  ∃ad cap l,c=.slice ad l.length cap∧l.length≤cap∧Dat.Rows Ab w ad (l.map f)∧μs l+1≤Rows.uptoBulk x.1∧l.length+1≤Rows.uptoBulk x.1:=by
 rcases DataW.trod_slice hu h with ⟨hcs,rfl⟩|⟨a,len,cap,elems,rest,m,rfl,hcs,rfl,-,hlc,hcm,hel,hrd,-,-⟩
 ·injection hcs with hcs _
  exact⟨none,0,[],hcs,Nat.le_refl _,trivial,by rw[h0];simp[Rows.uptoBulk],by simp[Rows.uptoBulk]⟩
 ·injection hcs with hcs _
  subst hcs
  rw[hc]at hrd
  simp only[Rows.uptoBulk]at hb ⊢
  have hbl:=zyr (elems.map (·.1))
  rw[List.length_map]at hbl
  have each:∀j y,elems[j]?=some y→∃(x:α) (cs:List Value),cs.length=k∧(∀i,i<k→w.cell? ((a.add (j * k)).add i)=cs[i]?)∧Dat.Fs Ab w cs (f x)∧μ x≤Rows.uptoBulk y.1:=by
   intro j y hy
   have hj:j<len:=by rw[←hel];exact(List.getElem?_eq_some_iff.1 hy).1
   have hb':=hrd j hj
   rw[hy,Option.bind_eq_some_iff]at hb'
   obtain⟨cs',hcs',hy'⟩:=hb'
   have hpart:=zz1 (l:=elems.map (·.1)) (i:=j) (d:=y.1) (by rw[List.getElem?_map,hy];rfl)
   obtain⟨x,hx1,hx2⟩:=helem m cs' y (by omega) hy' (by omega)
   obtain⟨-,hl,hcc⟩:=World.cells?_some hcs'
   exact⟨x,cs',hl,hcc,hx1,hx2⟩
  by_cases h0e:elems=[]
  ·subst h0e
   simp at hel
   subst hel
   exact⟨some a,cap,[],rfl,Nat.zero_le _,trivial,by rw[h0];simp,by simp⟩
  ·have hpos:0<elems.length:=List.length_pos_iff.2 h0e
   obtain⟨x0,cs0,q0,q1,-⟩:=each 0 elems[0] (by simp)
   obtain⟨b,o,sp⟩:=a
   have hsp:sp=none:=by
    have h1:=q1 0 hk
    rw[List.getElem?_eq_getElem (by omega)]at h1
    simpa[Addr.add]using World.cell?_spot h1
   subst hsp
   obtain⟨l,l1,l2,l3⟩:=zw4 (w:=w) (b:=b) f μ μs h0 h1 hk hfk elems o fun j y hy=>by
    obtain⟨x,cs,g0,g1,g2,g3⟩:=each j y hy
    refine⟨x,cs,g0,fun i v hi=>?_,g2,g3⟩
    have hi':i<k:=by rw[←g0];exact(List.getElem?_eq_some_iff.1 hi).1
    have:=g1 i hi'
    rw[add_plain,add_plain,hi]at this
    exact this
   exact⟨some ⟨b,o,none⟩,cap,l,by rw[l1,hel],by omega,l2,by omega,by omega⟩
end
end Go.Proofs.YtnclgkdpafhogaaGreat
