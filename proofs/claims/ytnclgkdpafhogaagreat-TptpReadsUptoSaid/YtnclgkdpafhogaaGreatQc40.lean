/- Arguments that are entries and files, from readings to data. Condition: the argument's bulk is at most 1048576. -/
import Derived.Test.YtnclgkdpafhogaaGreatQc4
import Derived.Test.YtnclgkdpafhogaaGreatQc31
set_option maxHeartbeats 16000000
set_option maxRecDepth 100000
namespace Go.Proofs.YtnclgkdpafhogaaGreat
open Go.ChangeShapes Go.WideShapes Go.ChangeAt Go.RowKit
theorem zl7:Tryz.prog.cellsOf 100=2:=by kernel_rfl
section
variable {H:Type}{enc:TypeId×Value→H}{w:World}{base:Nat}{spare:Nat→Bool}{held:Bool}
theorem zqf {n:Nat}{cs:List Value}{y:DataW H×List MemPlace}(h:DataW.trod enc Tryz.prog w base spare held n 100 cs=some y) (hb:Rows.uptoBulk y.1≤1048576):∃x:ByteArray×ByteArray,Dat.Fs Ab w cs (zr5 x)∧x.1.size+x.2.size≤Rows.uptoBulk y.1:=by
 obtain⟨xs,n,rfl,rfl,hl,hlen,hf⟩:=DataW.trod_struct Tryz.underlying100 h
 rw[zl7]at hl
 match cs,hl,xs,hlen with
 |[c0,c1],_,[y0,y1],_ =>
  have h0:DataW.trod enc Tryz.prog w base spare held n 9 [c0]=some y0:=by have:=hf 0 _ rfl;simpa[zqe]using this
  have h1:DataW.trod enc Tryz.prog w base spare held n 9 [c1]=some y1:=by have:=hf 1 _ rfl;simpa[zqe]using this
  obtain⟨s,hc1,rfl,-⟩:=DataW.trod_string Tryz.underlying9 h0
  obtain⟨s2,hc2,rfl,-⟩:=DataW.trod_string Tryz.underlying9 h1
  injection hc1 with hc1 _;injection hc2 with hc2 _
  subst hc1;subst hc2
  simp only[Rows.uptoBulk,Rows.uptoBulkAll,List.map_cons,List.map_nil]at hb ⊢
  have hsz:s.data.toList.length=s.size:=by simp
  have hsz2:s2.data.toList.length=s2.size:=by simp
  exact⟨(s,s2),⟨⟨rfl,show s.size≤1073741824 by omega⟩,⟨rfl,show s2.size≤1073741824 by omega⟩,trivial⟩,show s.size+s2.size≤_ by omega⟩
def zel:List (ByteArray×ByteArray)→Nat
 |[]=>0
 |x::l=>(x.1.size+x.2.size)+zel l
theorem zu1 {r:Reach}{b0:Nat}{v:Value}{d:DataW H}{p:List MemPlace}(hv:Value.okWide Tryz.prog w r b0 43 v) (h:DataW.Trod enc Tryz.prog w base spare held 43 v d p) (hk:Rows.uptoBulk d≤1048576) :
  ∃(ad:Option Addr) (cap:Nat) (l:List (ByteArray×ByteArray)),v=.slice ad l.length cap∧l.length≤cap∧IsFiles Ab w ad l∧l.length≤Rows.uptoBulk d∧zel l≤Rows.uptoBulk d:=by
 obtain⟨a0,len0,cap0,rfl⟩:=okWide_slice Tryz.underlying43 hv
 obtain⟨fuel,hf⟩:=h
 simp only[Value.cells]at hf
 obtain⟨ad,cap,l,h1,h2,h3,h4,h5⟩:=zys zr5 (fun x=>x.1.size+x.2.size) zel rfl (fun x l=>rfl) (k:=2) (by decide) (fun _=>rfl) Tryz.underlying43 zl7 (fun m cs y hm hy hby=>zqf hy hby) hf hk
 exact⟨ad,cap,l,h1,h2,h3,by have h6:l.length+1≤Rows.uptoBulk d:=h5;omega,by have h6:zel l+1≤Rows.uptoBulk d:=h4;omega⟩
end
end Go.Proofs.YtnclgkdpafhogaaGreat
