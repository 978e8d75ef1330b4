/- The reference's Reader: Peek, Wrong, Take, Must, upper; Named. Condition: a row of at most 2^30 tokens, not empty. -/
import Derived.Test.YtnclgkdpafhogaaGreatQe6
import Derived.Test.YtnclgkdpafhogaaGreatQe13
import Derived.Deep.CutRange
import Derived.Deep.CutBlock
set_option maxHeartbeats 16000000
set_option maxRecDepth 100000
namespace Go.Proofs.YtnclgkdpafhogaaGreat
open Go.ChangeShapes Go.WideShapes Go.ChangeAt Go.RowKit
def Rd.st {α:Type}:Rd α→Rd Unit
 |.ok _ ks=>.ok () ks
 |.bad ks=>.bad ks
def RSt (rb:Nat) (l:List Tok) (w:World) (st:Rd Unit):Prop :=
 ∃(a:Option Addr) (c p:Nat) (z:Int),Own w rb [.slice a l.length c,.int .i64 p,.int .i64 z]∧l.length≤c∧IsToks rb w a l∧p≤l.length∧match st with
  |.ok _ ks=>ks <:+ l∧p+ks.length=l.length∧z=-1
  |.bad ks=>z=zck l ks
theorem RSt.ext {rb:Nat}{l:List Tok}{w w':World}{st:Rd Unit}(h:RSt rb l w st) (hx:Ext w w'):RSt rb l w' st:=by
 obtain⟨a,c,p,z,h1,h2,h3,h4,h5⟩:=h
 exact⟨a,c,p,z,h1.ext hx,h2,Dat.Rows.ext h3 hx,h4,h5⟩
theorem RSt.chg {rb:Nat}{l:List Tok}{S:List Nat}{w w':World}{st:Rd Unit}(h:RSt rb l w st) (hx:Chg S w w') (hS:∀b∈S,rb<b):RSt rb l w' st:=by
 obtain⟨a,c,p,z,h1,h2,h3,h4,h5⟩:=h
 exact⟨a,c,p,z,h1.chg hx (fun hm=>by have:=hS rb hm;omega),h2,h3.chgs hx (fun b hb=>by have:=hS b hb;omega),h4,h5⟩
theorem RSt.lt {rb:Nat}{l:List Tok}{w:World}{st:Rd Unit}(h:RSt rb l w st):rb<w.heap.size:=by
 obtain⟨a,c,p,z,h1,-⟩:=h;exact h1.lt
theorem RSt.toks {rb:Nat}{l:List Tok}{w:World}{st:Rd Unit}(h:RSt rb l w st):∀t∈l,t.ok:=fun t ht=>by
 obtain⟨a,c,p,z,h1,h2,h3,-⟩:=h
 obtain⟨i,hi,rfl⟩:=List.getElem_of_mem ht
 obtain⟨_,_,_,_,_,_,_,hok⟩:=h3.look hi
 exact hok
def zgb (l:List Tok) (p:Nat):Tok:=(l[p]?).getD endT
theorem zn3 {l:List Tok}{p:Nat}(h:p<l.length):zgb l p=l[p]:=by unfold zgb;rw[List.getElem?_eq_getElem h];rfl
theorem z1a {l ks:List Tok}{p:Nat}(h:ks <:+ l) (hp:p+ks.length=l.length):zgb l p=zt ks:=by
 have he:=List.suffix_iff_eq_drop.1 h
 have:l.length-ks.length=p:=by omega
 rw[this]at he
 unfold zgb zt
 rw[he,List.head?_drop]
section
variable {rb:Nat}{l:List Tok}{w:World}{st:Rd Unit}
end
end Go.Proofs.YtnclgkdpafhogaaGreat
