/- From a reading of an argument to data in memory: rows of any elements; terms, formulas, tokens. Condition: the argument's bulk is at most 1048576. -/
import Derived.Test.YtnclgkdpafhogaaGreatRows
import Derived.Test.YtnclgkdpafhogaaGreatQe1
import Derived.Test.YtnclgkdpafhogaaGreatQe3
import Derived.Deep.Slices
import Derived.Lib.SmallJoins
import Derived.Carry
set_option maxHeartbeats 16000000
set_option maxRecDepth 100000
namespace Go.Proofs.YtnclgkdpafhogaaGreat
open Go.ChangeShapes Go.WideShapes Go.ChangeAt Go.RowKit
theorem zi2:Tryz.prog.cellsOf 73=3:=by kernel_rfl
theorem zl9:Tryz.prog.cellsOf 26=1:=by kernel_rfl
theorem zi3:Tryz.prog.cellsOf 29=4:=by kernel_rfl
theorem zst:Tryz.prog.cellsOf 27=1:=by kernel_rfl
theorem zif:Tryz.prog.cellsOf 9=1:=by kernel_rfl
theorem zvd:Tryz.prog.cellsOf 25=1:=by kernel_rfl
theorem znt:Tryz.prog.cellsOf 4=1:=by kernel_rfl
theorem z0h:Tryz.prog.cellsOf 24=1:=by kernel_rfl
theorem z0i {H:Type}(d:DataW H):1≤Rows.uptoBulk d:=by
 cases d with
 |lit l=>cases l<;>simp[Rows.uptoBulk]
 |nil=>simp[Rows.uptoBulk]
 |ptr d=>simp[Rows.uptoBulk]
 |slice elems spare=>simp[Rows.uptoBulk]
 |agg parts=>simp[Rows.uptoBulk]
 |iface t d=>simp[Rows.uptoBulk]
 |map entries=>simp[Rows.uptoBulk]
 |held h=>simp[Rows.uptoBulk]
theorem z0j {H:Type}(l:List (DataW H)):l.length≤Rows.uptoBulkAll l:=by
 induction l with
 |nil=>simp[Rows.uptoBulkAll]
 |cons x r ih=>have:=z0i x;simp only[Rows.uptoBulkAll,List.length_cons];omega
theorem z1u {H:Type}{l:List (DataW H)}{i:Nat}{d:DataW H}(h:l[i]?=some d):Rows.uptoBulk d≤Rows.uptoBulkAll l:=by
 induction l generalizing i with
 |nil=>simp at h
 |cons x r ih =>
  simp only[Rows.uptoBulkAll]
  cases i with
  |zero=>simp at h;subst h;omega
  |succ i=>have:=ih (i:=i) (by simpa using h);omega
theorem z1v {i:Int}(h:(Lit.int .i64 i).wf=true):-9223372036854775808≤i∧i≤9223372036854775807:=by
 simp only[Lit.wf,Bool.and_eq_true,decide_eq_true_eq]at h
 have h1:IntKind.i64.min=-9223372036854775808:=by kernel_rfl
 have h2:IntKind.i64.max=9223372036854775807:=by kernel_rfl
 omega
def Ab:Nat→Prop:=fun _=>True
section
variable {H:Type}{enc:TypeId×Value→H}{w:World}{base:Nat}{spare:Nat→Bool}{held:Bool}
theorem zx5 {α:Type}(f:α→List Dat) (μ:α→Nat) (μs:List α→Nat) (h0:μs []=0) (h1:∀x l,μs (x::l)=μ x+μs l){k:Nat}(hk:0<k) (hfk:∀x,(f x).length=k){b:Nat} :
  ∀(elems:List (DataW H×List MemPlace)) (off:Nat),(∀i y,elems[i]?=some y→∃(x:α) (cs:List Value),cs.length=k∧(∀j v,cs[j]?=some v→w.cell? ⟨b,off+i * k+j,none⟩=some v)∧Dat.Fs Ab w cs (f x)∧μ x≤Rows.uptoBulk y.1) →
  ∃l:List α,l.length=elems.length∧Dat.Rows Ab w (some ⟨b,off,none⟩) (l.map f)∧μs l≤Rows.uptoBulkAll (elems.map (·.1))
 |[],off,_=>⟨[],rfl,trivial,by rw[h0];simp⟩
 |y::r,off,h=>by
  obtain⟨x,cs,g0,g1,g2,g3⟩:=h 0 y rfl
  obtain⟨l,l1,l2,l3⟩:=zx5 f μ μs h0 h1 hk hfk r (off+k) fun i y' hy=>by
   obtain⟨x,cs,g0,g1,g2,g3⟩:=h (i+1) y' (by simpa using hy)
   exact⟨x,cs,g0,fun j v hj=>by rw[show off+k+i * k+j=off+(i+1) * k+j by rw[Nat.add_mul];omega];exact g1 j v hj,g2,g3⟩
  refine⟨x::l,by simp[l1],?_,?_⟩
  ·refine⟨b,off,cs,rfl,trivial,fun h=>by rw[h]at g0;simp at g0;omega,fun j v hj=>by simpa using g1 j v hj,g2,?_⟩
   rw[hfk]
   exact l2
  ·rw[h1];simp only[List.map_cons,Rows.uptoBulkAll];omega
theorem zig {α:Type}(f:α→List Dat) (μ:α→Nat) (μs:List α→Nat) (h0:μs []=0) (h1:∀x l,μs (x::l)=μ x+μs l){k:Nat}(hk:0<k) (hfk:∀x,(f x).length=k){tS T:TypeId}(hu:Tryz.prog.underlying tS=some (.slice T)) (hc:Tryz.prog.cellsOf T=k)
  {fuel:Nat}(helem:∀n cs y,n<fuel→DataW.trod enc Tryz.prog w base spare held n T cs=some y→Rows.uptoBulk y.1≤1048576→∃x,Dat.Fs Ab w cs (f x)∧μ x≤Rows.uptoBulk y.1)
  {c:Value}{x:DataW H×List MemPlace}(h:DataW.trod enc Tryz.prog w base spare held fuel tS [c]=some x) (hb:Rows.uptoBulk x.1≤1048576) :
  ∃ad cap l,c=.slice ad l.length cap∧l.length≤cap∧Dat.Rows Ab w ad (l.map f)∧μs l+1≤Rows.uptoBulk x.1∧l.length+1≤Rows.uptoBulk x.1:=by
 rcases DataW.trod_slice hu h with ⟨hcs,rfl⟩|⟨a,len,cap,elems,rest,m,rfl,hcs,rfl,-,hlc,hcm,hel,hrd,-,-⟩
 ·injection hcs with hcs _
  exact⟨none,0,[],hcs,Nat.le_refl _,trivial,by rw[h0];simp[Rows.uptoBulk],by simp[Rows.uptoBulk]⟩
 ·injection hcs with hcs _
  subst hcs
  rw[hc]at hrd
  simp only[Rows.uptoBulk]at hb ⊢
  have hbl:=z0j (elems.map (·.1))
  rw[List.length_map]at hbl
  have each:∀j y,elems[j]?=some y→∃(x:α) (cs:List Value),cs.length=k∧(∀i,i<k→w.cell? ((a.add (j * k)).add i)=cs[i]?)∧Dat.Fs Ab w cs (f x)∧μ x≤Rows.uptoBulk y.1:=by
   intro j y hy
   have hj:j<len:=by rw[←hel];exact(List.getElem?_eq_some_iff.1 hy).1
   have hb':=hrd j hj
   rw[hy,Option.bind_eq_some_iff]at hb'
   obtain⟨cs',hcs',hy'⟩:=hb'
   have hpart:=z1u (l:=elems.map (·.1)) (i:=j) (d:=y.1) (by rw[List.getElem?_map,hy];rfl)
   obtain⟨x,hx1,hx2⟩:=helem m cs' y (by omega) hy' (by omega)
   obtain⟨-,hl,hcc⟩:=World.cells?_some hcs'
   exact⟨x,cs',hl,hcc,hx1,hx2⟩
  by_cases h0e:elems=[]
  ·subst h0e
   simp at hel
   subst hel
   exact⟨some a,cap,[],rfl,Nat.zero_le _,trivial,by rw[h0];simp,by simp⟩
  ·have hpos:0<elems.length:=List.length_pos_iff.2 h0e
   obtain⟨x0,cs0,q0,q1,-⟩:=each 0 elems[0] (by simp)
   obtain⟨b,o,sp⟩:=a
   have hsp:sp=none:=by
    have h1:=q1 0 hk
    rw[List.getElem?_eq_getElem (by omega)]at h1
    simpa[Addr.add]using World.cell?_spot h1
   subst hsp
   obtain⟨l,l1,l2,l3⟩:=zx5 (w:=w) (b:=b) f μ μs h0 h1 hk hfk elems o fun j y hy=>by
    obtain⟨x,cs,g0,g1,g2,g3⟩:=each j y hy
    refine⟨x,cs,g0,fun i v hi=>?_,g2,g3⟩
    have hi':i<k:=by rw[←g0];exact(List.getElem?_eq_some_iff.1 hi).1
    have:=g1 i hi'
    rw[add_plain,add_plain,hi]at this
    exact this
   exact⟨some ⟨b,o,none⟩,cap,l,by rw[l1,hel],by omega,l2,by omega,by omega⟩
theorem zve (fuel:Nat):∀(cs:List Value) (x:DataW H×List MemPlace),DataW.trod enc Tryz.prog w base spare held fuel 73 cs=some x→Rows.uptoBulk x.1≤1048576→∃t:Ex,Dat.Fs Ab w cs t.dat∧t.size≤Rows.uptoBulk x.1:=by
 induction fuel using Nat.strongRecOn with
 |ind fuel ih =>
  intro cs x h hb
  obtain⟨xs,n,rfl,rfl,hl,hlen,hf⟩:=DataW.trod_struct Tryz.underlying73 h
  rw[zi2]at hl
  match cs,hl,xs,hlen with
  |[c0,c1,c2],_,[y0,y1,y2],_ =>
   have h0:DataW.trod enc Tryz.prog w base spare held n 4 [c0]=some y0:=by have:=hf 0 _ rfl;simpa[znt]using this
   have h1:DataW.trod enc Tryz.prog w base spare held n 9 [c1]=some y1:=by have:=hf 1 _ rfl;simpa[zif]using this
   have h2:DataW.trod enc Tryz.prog w base spare held n 26 [c2]=some y2:=by have:=hf 2 _ rfl;simpa[zl9]using this
   obtain⟨b,hc0,rfl⟩:=DataW.trod_bool Tryz.underlying4 h0
   obtain⟨s,hc1,rfl,-⟩:=DataW.trod_string Tryz.underlying9 h1
   injection hc0 with hc0 _
   injection hc1 with hc1 _
   subst hc0;subst hc1
   simp only[Rows.uptoBulk,Rows.uptoBulkAll,List.map_cons,List.map_nil]at hb ⊢
   have hsz:s.data.toList.length=s.size:=by simp
   obtain⟨ad,cap,l,rfl,hlc,hrows,hsum,hll⟩:=zig Ex.dat Ex.size Ex.sizes (by simp[Ex.sizes]) (fun x l=>by simp[Ex.sizes]) (k:=3) (by decide) Ex.dat_length Tryz.underlying26 zi2 (fun m cs y hm hy hby=>ih m (by omega) cs y hy hby) h2 (by omega)
   refine⟨.mk b s l,⟨rfl,⟨rfl,by omega⟩,⟨ad,cap,?_,?_,?_⟩,trivial⟩,?_⟩
   ·rw[Ex.dats_map,List.length_map]
   ·rw[Ex.dats_map,List.length_map];exact hlc
   ·rw[Ex.dats_map];exact hrows
   ·simp only[Ex.size];omega
theorem zsu {n:Nat}{cs:List Value}{y:DataW H×List MemPlace}(h:DataW.trod enc Tryz.prog w base spare held n 9 cs=some y) (hb:Rows.uptoBulk y.1≤1048576):∃s:ByteArray,Dat.Fs Ab w cs [Dat.str s]∧1≤Rows.uptoBulk y.1:=by
 obtain⟨s,rfl,rfl,-⟩:=DataW.trod_string Tryz.underlying9 h
 have hsz:s.data.toList.length=s.size:=by simp
 simp only[Rows.uptoBulk]at hb ⊢
 exact⟨s,⟨⟨rfl,by omega⟩,trivial⟩,by omega⟩
theorem zvf (fuel:Nat):∀(cs:List Value) (x:DataW H×List MemPlace),DataW.trod enc Tryz.prog w base spare held fuel 29 cs=some x→Rows.uptoBulk x.1≤1048576→∃t:Fm,Dat.Fs Ab w cs t.dat∧t.size≤Rows.uptoBulk x.1:=by
 induction fuel using Nat.strongRecOn with
 |ind fuel ih =>
  intro cs x h hb
  obtain⟨xs,n,rfl,rfl,hl,hlen,hf⟩:=DataW.trod_struct Tryz.underlying29 h
  rw[zi3]at hl
  match cs,hl,xs,hlen with
  |[c0,c1,c2,c3],_,[y0,y1,y2,y3],_ =>
   have h0:DataW.trod enc Tryz.prog w base spare held n 24 [c0]=some y0:=by have:=hf 0 _ rfl;simpa[z0h]using this
   have h1:DataW.trod enc Tryz.prog w base spare held n 25 [c1]=some y1:=by have:=hf 1 _ rfl;simpa[zvd]using this
   have h2:DataW.trod enc Tryz.prog w base spare held n 26 [c2]=some y2:=by have:=hf 2 _ rfl;simpa[zl9]using this
   have h3:DataW.trod enc Tryz.prog w base spare held n 27 [c3]=some y3:=by have:=hf 3 _ rfl;simpa[zst]using this
   obtain⟨o,hc0,rfl,hwf⟩:=DataW.trod_int Tryz.underlying24 h0
   obtain⟨w1,w2⟩:=z1v hwf
   injection hc0 with hc0 _
   subst hc0
   simp only[Rows.uptoBulk,Rows.uptoBulkAll,List.map_cons,List.map_nil]at hb ⊢
   obtain⟨ad1,cap1,l1,rfl,hlc1,hrows1,hsum1,hll1⟩:=zig (fun s=>[Dat.str s]) (fun _=>1) List.length rfl (fun x l=>by simp;omega) (k:=1) (by decide) (fun _=>rfl) Tryz.underlying25 zif (fun m cs y hm hy hby=>zsu hy hby) h1 (by omega)
   obtain⟨ad2,cap2,l2,rfl,hlc2,hrows2,hsum2,hll2⟩:=zig Ex.dat Ex.size Ex.sizes (by simp[Ex.sizes]) (fun x l=>by simp[Ex.sizes]) (k:=3) (by decide) Ex.dat_length Tryz.underlying26 zi2 (fun m cs y hm hy hby=>zve m cs y hy hby) h2 (by omega)
   obtain⟨ad3,cap3,l3,rfl,hlc3,hrows3,hsum3,hll3⟩:=zig Fm.dat Fm.size Fm.sizes (by simp[Fm.sizes]) (fun x l=>by simp[Fm.sizes]) (k:=4) (by decide) Fm.dat_length Tryz.underlying27 zi3 (fun m cs y hm hy hby=>ih m (by omega) cs y hy hby) h3 (by omega)
   refine⟨.mk o l1 l2 l3,⟨⟨rfl,w1,w2⟩,⟨ad1,cap1,?_,?_,?_⟩,⟨ad2,cap2,?_,?_,?_⟩,⟨ad3,cap3,?_,?_,?_⟩,trivial⟩,?_⟩
   ·rw[List.length_map]
   ·rw[List.length_map];exact hlc1
   ·exact hrows1
   ·rw[Ex.dats_map,List.length_map]
   ·rw[Ex.dats_map,List.length_map];exact hlc2
   ·rw[Ex.dats_map];exact hrows2
   ·rw[Fm.dats_map,List.length_map]
   ·rw[Fm.dats_map,List.length_map];exact hlc3
   ·rw[Fm.dats_map];exact hrows3
   ·simp only[Fm.size];omega
end
end Go.Proofs.YtnclgkdpafhogaaGreat
