/- Arguments that are entries and files, from readings to data. Condition: the argument's bulk is at most 1048576. -/
import Derived.Test.YtnclgkdpafhogaaGreatQe4
import Derived.Test.YtnclgkdpafhogaaGreatQe31
set_option maxHeartbeats 16000000
set_option maxRecDepth 100000
namespace Go.Proofs.YtnclgkdpafhogaaGreat
open Go.ChangeShapes Go.WideShapes Go.ChangeAt Go.RowKit
theorem zl7:Tryz.prog.cellsOf 53=7:=by kernel_rfl
section
variable {H:Type}{enc:TypeId×Value→H}{w:World}{base:Nat}{spare:Nat→Bool}{held:Bool}
theorem zsr {n:Nat}{cs:List Value}{y:DataW H×List MemPlace}(h:DataW.trod enc Tryz.prog w base spare held n 53 cs=some y) (hb:Rows.uptoBulk y.1≤1048576):∃x:Ent,Dat.Fs Ab w cs x.dat∧x.form.size+x.name.size+x.role.size≤Rows.uptoBulk y.1:=by
 obtain⟨xs,n,rfl,rfl,hl,hlen,hf⟩:=DataW.trod_struct Tryz.underlying53 h
 rw[zl7]at hl
 match cs,hl,xs,hlen with
 |[c0,c1,c2,c3,c4,c5,c6],_,[y0,y1,y2,y3],_ =>
  have h0:DataW.trod enc Tryz.prog w base spare held n 4 [c0]=some y0:=by have:=hf 0 _ rfl;simpa[znt]using this
  have h1:DataW.trod enc Tryz.prog w base spare held n 9 [c1]=some y1:=by have:=hf 1 _ rfl;simpa[zif]using this
  have h2:DataW.trod enc Tryz.prog w base spare held n 9 [c2]=some y2:=by have:=hf 2 _ rfl;simpa[zif]using this
  have h3:DataW.trod enc Tryz.prog w base spare held n 29 [c3,c4,c5,c6]=some y3:=by have:=hf 3 _ rfl;simpa[zi3]using this
  obtain⟨b,hc0,rfl⟩:=DataW.trod_bool Tryz.underlying4 h0
  obtain⟨s,hc1,rfl,-⟩:=DataW.trod_string Tryz.underlying9 h1
  obtain⟨s2,hc2,rfl,-⟩:=DataW.trod_string Tryz.underlying9 h2
  injection hc0 with hc0 _;injection hc1 with hc1 _;injection hc2 with hc2 _
  subst hc0;subst hc1;subst hc2
  simp only[Rows.uptoBulk,Rows.uptoBulkAll,List.map_cons,List.map_nil]at hb ⊢
  have hsz:s.data.toList.length=s.size:=by simp
  have hsz2:s2.data.toList.length=s2.size:=by simp
  obtain⟨f,hf1,hf2⟩:=zvf n _ _ h3 (by omega)
  exact⟨⟨b,s,s2,f⟩,⟨rfl,⟨rfl,show s.size≤1073741824 by omega⟩,⟨rfl,show s2.size≤1073741824 by omega⟩,hf1⟩,show f.size+s.size+s2.size≤_ by omega⟩
def zf5:List Ent→Nat
 |[]=>0
 |x::l=>(x.form.size+x.name.size+x.role.size)+zf5 l
theorem zju {r:Reach}{b0:Nat}{v:Value}{d:DataW H}{p:List MemPlace}(hv:Value.okWide Tryz.prog w r b0 45 v) (h:DataW.Trod enc Tryz.prog w base spare held 45 v d p) (hk:Rows.uptoBulk d≤1048576) :
  ∃(ad:Option Addr) (cap:Nat) (l:List Ent),v=.slice ad l.length cap∧l.length≤cap∧IsEnts Ab w ad l∧l.length≤Rows.uptoBulk d∧zf5 l≤Rows.uptoBulk d:=by
 obtain⟨a0,len0,cap0,rfl⟩:=okWide_slice Tryz.underlying45 hv
 obtain⟨fuel,hf⟩:=h
 simp only[Value.cells]at hf
 obtain⟨ad,cap,l,h1,h2,h3,h4,h5⟩:=zig Ent.dat (fun x=>x.form.size+x.name.size+x.role.size) zf5 rfl (fun x l=>rfl) (k:=7) (by decide) Ent.dat_length Tryz.underlying45 zl7 (fun m cs y hm hy hby=>zsr hy hby) hf hk
 exact⟨ad,cap,l,h1,h2,h3,by have h6:l.length+1≤Rows.uptoBulk d:=h5;omega,by have h6:zf5 l+1≤Rows.uptoBulk d:=h4;omega⟩
end
end Go.Proofs.YtnclgkdpafhogaaGreat
