/- Plain: how many entries a text has; which files are not open. No condition.
Plain: what is read is small. No condition.
The law's Same on two rows that hold the same entries; long. Condition: at most 1048576 entries, each with a formula of at most 4194304 parts.
The reader in an item's block (printed by gen_ri1.py out of Rr1: its cells lie two further). Condition: a row of at most 2^30 tokens.
The reference's loader and item: the state; fault, fine, must. Condition: a row of at most 2^30 tokens.
The reference's item: fine, must, name. Condition: a row of at most 2^30 tokens that is not empty.
The reference's item: name. Condition: a row of at most 2^30 tokens that is not empty.
The reference's item: the names of an include. Condition: a row of at most 8000 tokens that is not empty.
The reference's loader: find, opened. Condition: at most 2^30 files. -/
import Derived.Test.YtnclgkdpafhogaaGreatQc32
import Derived.Test.YtnclgkdpafhogaaGreatQc31
import Derived.Test.YtnclgkdpafhogaaGreatQc16
import Derived.Test.YtnclgkdpafhogaaGreatQc17
import Derived.Test.YtnclgkdpafhogaaGreatQc20
import Derived.Test.YtnclgkdpafhogaaGreatQc19
import Derived.OwnWalk
set_option maxHeartbeats 16000000
set_option maxRecDepth 100000
namespace Go.Proofs.YtnclgkdpafhogaaGreat
theorem zne {rd:Nat→Nat→Nat→Out (List Ent×Nat)}{files:List (ByteArray×ByteArray)}{opn:Nat→Bool}{l:List Tok}{file:Int}{ahead cnt:Nat}(hrd:∀(i n c:Nat) (x:List Ent×Nat),n≤200→rd i n c=.ok x→n+x.1.length≤200){out l':List Ent}{c':Nat}{r r':List Tok}(ho:ahead+out.length≤200) (hy:incR rd files opn l file (ahead+out.length) cnt r=.ok ((l',c'),r')):ahead+(out++l').length≤200:=by
 unfold incR at hy
 cases hh:zba r with
 |bad k=>rw[hh]at hy;cases hy
 |ok z k =>
  rw[hh,Rd.out_ok]at hy
  split at hy
  ·cases hy
  ·split at hy
   ·cases hy
   ·split at hy
    ·cases hy
    ·obtain⟨q,hq,hy⟩:=Out.bind_eq_ok hy
     obtain⟨m,hm,hy⟩:=Out.bind_eq_ok hy
     injection hy with hy
     injection hy with hy _
     injection hy with hy _
     subst hy
     have h5:=hrd _ _ _ _ ho hq
     have h6:m.length≤q.1.length:=by
      unfold zev at hm
      split at hm
      ·injection hm with hm;subst hm;exact Nat.le_refl _
      ·split at hm
       ·cases hm
       ·injection hm with hm;subst hm;exact List.length_filter_le _ _
     simp;omega
theorem zia {rd:Nat→Nat→Nat→Out (List Ent×Nat)}{files:List (ByteArray×ByteArray)}{opn:Nat→Bool}{l:List Tok}{file:Int}{ahead:Nat}(hE:Ends l) (hrd:∀(i n c:Nat) (x:List Ent×Nat),n≤200→rd i n c=.ok x→n+x.1.length≤200) :
  ∀(f:Nat) (ks:List Tok) (out:List Ent) (cnt:Nat) (x:List Ent×Nat),ks <:+ l→Ends ks→ahead+out.length≤200→zb1 rd files opn l file ahead f ks out cnt=.ok x→ahead+x.1.length≤200
 |0,_,_,_,_,_,_,_,h=>by cases h
 |f+1,ks,out,cnt,x,hks,hke,ho,h=>by
  unfold zb1 at h
  split at h
  ·injection h with h;subst h;exact ho
  ·rename_i h7
   have hks2:∃t r,ks=t::r∧Ends r:=by
    cases ks with
    |nil=>exact absurd rfl h7
    |cons t r=>exact⟨t,r,rfl,hke.tail h7⟩
   obtain⟨t,r,rfl,her⟩:=hks2
   have hr:r <:+ l:=(List.suffix_cons t r).trans hks
   split at h
   ·obtain⟨y,hy,h⟩:=Out.bind_eq_ok h
    obtain⟨e,r'⟩:=y
    obtain⟨h1,h2,h3,h4⟩:=zh3 hE hr her hy
    exact zia hE hrd f r' (out++[e]) cnt x (h1.trans hr) h3 (by simp;omega) h
   ·split at h
    ·obtain⟨y,hy,h⟩:=Out.bind_eq_ok h
     obtain⟨⟨l',c'⟩,r'⟩:=y
     obtain⟨h1,h2,h3⟩:=zmr her hy
     refine zia hE hrd f r' (out++l') c' x (h1.trans hr) h3 ?_ h
     simp only[List.tail_cons]at hy
     exact zne hrd ho hy
    ·cases h
theorem zhm {files:List (ByteArray×ByteArray)}:∀(d:Nat) (opn:Nat→Bool) (file:Int) (s:ByteArray) (ahead cnt:Nat) (x:List Ent×Nat),ahead≤200→zdj files d opn file s ahead cnt=.ok x→ahead+x.1.length≤200
 |0,_,_,_,_,_,_,_,h=>by cases h
 |d+1,opn,file,s,ahead,cnt,x,ha,h=>by
  unfold zdj at h
  split at h
  ·cases h
  ·rename_i h0
   have hE:=zgu (s:=s) (Decidable.not_not.1 h0)
   exact zia hE (fun i n c x hn hx=>zhm d _ _ _ n c x hn hx) _ _ [] cnt x (List.suffix_refl _) hE (by simpa using ha) h
def shut (n:Nat) (opn:Nat→Bool):Nat:=(List.range n).countP fun i=>!opn i
theorem zp6 {α:Type}{p q:α→Bool}:∀ {l:List α},(∀x∈l,p x=true→q x=true)→(∃x∈l,q x=true∧p x=false)→l.countP p<l.countP q
 |[],_,h=>by obtain⟨x,hx,-⟩:=h;cases hx
 |a::l,hpq,h=>by
  have hmono:l.countP p≤l.countP q:=List.countP_mono_left fun x hx=>hpq x (by simp[hx])
  obtain⟨x,hx,hq,hp⟩:=h
  rw[List.countP_cons,List.countP_cons]
  rcases List.mem_cons.1 hx with rfl|hx
  ·rw[hp,hq];simp;omega
  ·have:=zp6 (l:=l) (fun x hx=>hpq x (by simp[hx])) ⟨x,hx,hq,hp⟩
   cases hpa:p a with
   |false=>simp;split<;>omega
   |true=>rw[hpq a (by simp) hpa];simp;omega
theorem zwj {n i:Nat}{opn:Nat→Bool}(hi:i<n) (ho:opn i=false):shut n (fun k=>if k=i then true else opn k)<shut n opn:=by
 unfold shut
 refine zp6 (fun x _ h=>?_) ⟨i,by simpa using hi,by simp[ho],by simp⟩
 by_cases hx:x=i
 ·subst hx;simp at h
 ·simpa[hx]using h
theorem zwk (n:Nat) (opn:Nat→Bool):shut n opn≤n:=by
 unfold shut
 have:=List.countP_le_length (p:=fun i=>!opn i) (l:=List.range n)
 simpa using this
theorem zzh (opn:Nat→Bool) (i:Nat):(fun k=>decide (k=i) || opn k)=fun k=>if k=i then true else opn k:=by
 funext k
 by_cases hk:k=i<;>simp[hk]
theorem zwl {l:List Tok}{file:Int}{cnf:Bool}{fr:Int}{n:Nat}{ks r:List Tok}{x:Ent}(hk:ks <:+ l) (h:entR l file cnf fr n ks=.ok (x,r)):x.form.size≤2 * l.length:=by
 unfold entR at h
 cases hh:zbd ks with
 |bad q=>rw[hh]at h;cases h
 |ok y q =>
  rw[hh,Rd.out_ok]at h
  have hq:q <:+ l:=(zf5 (zjr ks) hh).trans hk
  split at h
  ·cases h
  ·split at h
   ·cases h
   ·rename_i h0
    cases hen:zdp (l.drop (zb0 l (l.length-q.length:Nat)).2.1.toNat) with
    |bad z=>rw[hen]at h;cases h
    |ok u z =>
     rw[hen,Rd.out_ok]at h
     split at h
     ·cases h
     ·split at h
      ·cases h
      ·injection h with h
       injection h with h _
       subst h
       refine zh9 hq (nx:=(zb0 l (l.length-q.length:Nat)).2.1) ?_
       have h1:(zb0 l (l.length-q.length:Nat)).2.2=0:=Decidable.not_not.1 h0
       rw[←h1]
def Small (l:List Ent):Prop:=∀x∈l,x.form.size≤16002
theorem zur {file:Int}{ns:Option (List (ByteArray×Int))}{l l':List Ent}(h:zev file ns l=.ok l'):∀x∈l',x∈l:=by
 unfold zev at h
 split at h
 ·injection h with h;subst h;exact fun x hx=>hx
 ·split at h
  ·cases h
  ·injection h with h;subst h
   exact fun x hx=>(List.mem_filter.1 hx).1
theorem zus {rd:Nat→Nat→Nat→Out (List Ent×Nat)}{files:List (ByteArray×ByteArray)}{opn:Nat→Bool}{l:List Tok}{file:Int}{n cnt:Nat}(hrd:∀(i n c:Nat) (x:List Ent×Nat),rd i n c=.ok x→Small x.1){l':List Ent}{c':Nat}{r r':List Tok}(hy:incR rd files opn l file n cnt r=.ok ((l',c'),r')):Small l':=by
 unfold incR at hy
 cases hh:zba r with
 |bad k=>rw[hh]at hy;cases hy
 |ok z k =>
  rw[hh,Rd.out_ok]at hy
  split at hy
  ·cases hy
  ·split at hy
   ·cases hy
   ·split at hy
    ·cases hy
    ·obtain⟨q,hq,hy⟩:=Out.bind_eq_ok hy
     obtain⟨m,hm,hy⟩:=Out.bind_eq_ok hy
     injection hy with hy
     injection hy with hy _
     injection hy with hy _
     subst hy
     exact fun x hx=>hrd _ _ _ _ hq x (zur hm x hx)
theorem Small.append {a b:List Ent}(h:Small a) (k:Small b):Small (a++b):=fun x hx=>(List.mem_append.1 hx).elim (h x) (k x)
theorem zfj {rd:Nat→Nat→Nat→Out (List Ent×Nat)}{files:List (ByteArray×ByteArray)}{opn:Nat→Bool}{l:List Tok}{file:Int}{ahead:Nat}(hE:Ends l) (hl:l.length≤8001) (hrd:∀(i n c:Nat) (x:List Ent×Nat),rd i n c=.ok x→Small x.1) :
  ∀(f:Nat) (ks:List Tok) (out:List Ent) (cnt:Nat) (x:List Ent×Nat),ks <:+ l→Ends ks→Small out→zb1 rd files opn l file ahead f ks out cnt=.ok x→Small x.1
 |0,_,_,_,_,_,_,_,h=>by cases h
 |f+1,ks,out,cnt,x,hks,hke,ho,h=>by
  unfold zb1 at h
  split at h
  ·injection h with h;subst h;exact ho
  ·rename_i h7
   obtain⟨t,r,rfl,her⟩:∃t r,ks=t::r∧Ends r:=by
    cases ks with
    |nil=>exact absurd rfl h7
    |cons t r=>exact⟨t,r,rfl,hke.tail h7⟩
   have hr:r <:+ l:=(List.suffix_cons t r).trans hks
   split at h
   ·obtain⟨y,hy,h⟩:=Out.bind_eq_ok h
    obtain⟨e,r'⟩:=y
    obtain⟨h1,h2,h3,h4⟩:=zh3 hE hr her hy
    refine zfj hE hl hrd f r' (out++[e]) cnt x (h1.trans hr) h3 (ho.append fun z hz=>?_) h
    rw[List.mem_singleton]at hz
    subst hz
    have:=zwl hr hy
    omega
   ·split at h
    ·obtain⟨y,hy,h⟩:=Out.bind_eq_ok h
     obtain⟨⟨l',c'⟩,r'⟩:=y
     obtain⟨h1,h2,h3⟩:=zmr her hy
     exact zfj hE hl hrd f r' (out++l') c' x (h1.trans hr) h3 (ho.append (zus hrd hy)) h
    ·cases h
theorem zkm {files:List (ByteArray×ByteArray)}:∀(d:Nat) (opn:Nat→Bool) (file:Int) (s:ByteArray) (ahead cnt:Nat) (x:List Ent×Nat),zdj files d opn file s ahead cnt=.ok x→Small x.1
 |0,_,_,_,_,_,_,h=>by cases h
 |d+1,opn,file,s,ahead,cnt,x,h=>by
  have hlen:=zmo s
  unfold zdj at h
  split at h
  ·cases h
  ·rename_i h0
   have hE:=zgu (s:=s) (Decidable.not_not.1 h0)
   exact zfj hE (by omega) (fun i n c x hx=>zkm d _ _ _ n c x hx) _ _ [] cnt x (List.suffix_refl _) hE (fun _ h=>by cases h) h
theorem zsa {files:List (ByteArray×ByteArray)}{s:ByteArray}{l:List Ent}(h:zf2 files s=.ok l):(∀x∈l,x.form.size≤16002)∧l.length≤200:=by
 obtain⟨x,hx,h⟩:=Out.bind_eq_ok (show(zdj files (files.length+1) (fun _=>false) (-1) s 0 0).bind (fun x=>Out.ok x.1)=.ok l from h)
 injection h with h
 subst h
 have:=zhm (files.length+1) _ _ _ 0 0 x (by omega) hx
 exact⟨zkm _ _ _ _ _ _ _ hx,by omega⟩
open Go.ChangeShapes Go.WideShapes Go.ChangeAt Go.RowKit
theorem zut {l:List Ent}(hl:l.length≤1048576) (hs:∀x∈l,x.form.size≤4194304){P Q:Nat→Prop}{w:World}{a b:Option Addr}{c d:Nat}(ha:IsEnts P w a l) (hb:IsEnts Q w b l) :
  Calls Tryz.prog 30 #[.slice a l.length c,.slice b l.length d] w fun e w'=>e=.returned (.bool true)∧Ext w w':=by
 have HA:=Lib.hid ha
 have HB:=Lib.hid hb
 clear ha hb
 go_enter Tryz.func30,Tryz.ntmps30
 go_wp2_with fail
 go_loopw [5] (fun i wr=>∃k:Nat,k≤l.length∧i=.int .i64 k∧Ext w wr) (fun i _=>l.length-(intOf i).toNat)
 case atStart=>exact⟨0,Nat.zero_le _,rfl,Below.refl _ _⟩
 case round =>
  obtain⟨k,hkk,rfl,hxr⟩:=hrel
  by_cases hlt:k<l.length
  ·obtain⟨b1,o1,x0,x1,x2,x3,rfl,-,⟨m0,m1,m2⟩,⟨m3,m4,m5,m6⟩,hi⟩:=(HA.out.ext hxr).look hlt
   obtain⟨b2,o2,y0,y1,y2,y3,rfl,-,⟨n0,n1,n2⟩,⟨n3,n4,n5,n6⟩,hi'⟩:=(HB.out.ext hxr).look hlt
   have hlt':(k:Int)<l.length:=by omega
   have HS:=Lib.hid (fun w' (hx:Ext wr w')=>zrb l[k].form l[k].form _ _ w' _ _ _ _ _ _ _ _ (hi.2.2.ext hx) (hi'.2.2.ext hx) (hs _ (List.getElem_mem hlt)))
   rw[Fm.same_refl]at HS
   obtain⟨p1,c1,p2,c2,p3,c3,rfl,rfl,rfl,rfl,-⟩:=hi.2.2.form
   obtain⟨p1',c1',p2',c2',p3',c3',rfl,rfl,rfl,rfl,-⟩:=hi'.2.2.form
   clear hi hi'
   generalize l[k]=x at *
   go_wp2_with fail
   go_still_tail 48,(by kernel_rfl)
   change wpList _ _ _ _ _ wr.drew
   go_wp2_with (go_at_call 14;refine(HS.out _ (Ext.drew (Below.refl _ _))).mono ?_;rintro e w4 ⟨rfl,hx4⟩)
   go_roundw
   case rel=>exact⟨k+1,by omega,by go_num,hxr.trans ((Ext.drew (Below.refl _ wr)).trans hx4)⟩
   case measure=>simp[intOf];omega
  ·have hlt':¬(k:Int)<l.length:=by omega
   go_wp2_with fail
   go_ret
   exact⟨rfl,hxr⟩
def IsTokz (zb cb:Nat) (w:World) (a:Option Addr) (l:List Tok):Prop:=zb≤cb∧Dat.Rows (fun b=>zb≤b∧b<cb) w a (l.map Tok.dat)
theorem IsTokz.toks {zb cb:Nat}{w:World}{a:Option Addr}{l:List Tok}(h:IsTokz zb cb w a l):IsToks cb w a l:=Dat.Rows.mono h.2 fun _b hb _=>hb.2
theorem IsTokz.chgs {zb cb:Nat}{S:List Nat}{w w':World}{a:Option Addr}{l:List Tok}(h:IsTokz zb cb w a l) (hx:Chg S w w') (hS:∀b∈S,cb≤b∨b<zb):IsTokz zb cb w' a l:=⟨h.1,Dat.Rows.chg h.2 hx (fun b hb hm=>by have:=hS b hm;omega)⟩
theorem IsTokz.ext {zb cb:Nat}{w w':World}{a:Option Addr}{l:List Tok}(h:IsTokz zb cb w a l) (hx:Ext w w'):IsTokz zb cb w' a l:=⟨h.1,Dat.Rows.ext h.2 hx⟩
def ISt (lb zb:Nat) (file:Int) (rb:Nat) (l:List Tok) (w:World) (st:Rd Unit):Prop :=
 ∃(a:Option Addr) (c p:Nat) (z:Int),Own w rb [.pointer (some ⟨lb,0,none⟩),.int .i64 file,.slice a l.length c,.int .i64 p,.int .i64 z]∧l.length≤c∧IsTokz zb rb w a l∧p≤l.length∧match st with
  |.ok _ ks=>ks <:+ l∧p+ks.length=l.length∧z=-1
  |.bad ks=>z=zbi l ks
theorem ISt.ext {lb zb:Nat}{file:Int}{rb:Nat}{l:List Tok}{w w':World}{st:Rd Unit}(h:ISt lb zb file rb l w st) (hx:Ext w w'):ISt lb zb file rb l w' st:=by
 obtain⟨a,c,p,z,h1,h2,h3,h4,h5⟩:=h
 exact⟨a,c,p,z,h1.ext hx,h2,h3.ext hx,h4,h5⟩
theorem ISt.chg {lb zb:Nat}{file:Int}{rb:Nat}{l:List Tok}{S:List Nat}{w w':World}{st:Rd Unit}(h:ISt lb zb file rb l w st) (hx:Chg S w w') (hS:∀b∈S,rb<b∨b<zb):ISt lb zb file rb l w' st:=by
 obtain⟨a,c,p,z,h1,h2,h3,h4,h5⟩:=h
 exact⟨a,c,p,z,h1.chg hx (fun hm=>by have:=hS rb hm;have:=h3.1;omega),h2,h3.chgs hx (fun b hb=>by have:=hS b hb;omega),h4,h5⟩
theorem ISt.lt {lb zb:Nat}{file:Int}{rb:Nat}{l:List Tok}{w:World}{st:Rd Unit}(h:ISt lb zb file rb l w st):rb<w.heap.size:=by
 obtain⟨a,c,p,z,h1,-⟩:=h;exact h1.lt
theorem ISt.toks {lb zb:Nat}{file:Int}{rb:Nat}{l:List Tok}{w:World}{st:Rd Unit}(h:ISt lb zb file rb l w st):∀t∈l,t.ok:=fun t ht=>by
 obtain⟨a,c,p,z,h1,h2,h3,-⟩:=h
 obtain⟨i,hi,rfl⟩:=List.getElem_of_mem ht
 obtain⟨_,_,_,_,_,_,_,hok⟩:=h3.toks.look hi
 exact hok
theorem ISt.good {lb zb:Nat}{file:Int}{rb:Nat}{l ks:List Tok}{w:World}{u:Unit}(h:ISt lb zb file rb l w (.ok u ks)):∃(a:Option Addr) (c p:Nat),Own w rb [.pointer (some ⟨lb,0,none⟩),.int .i64 file,.slice a l.length c,.int .i64 p,.int .i64 (-1)]∧p≤l.length∧p=l.length-ks.length∧ks <:+ l ∧
  (∀w',Chg [] w w'→∀r z,r <:+ l→z=((l.length-r.length:Nat):Int)→ISt lb zb file rb l (w'.setCell ⟨rb,3,none⟩ (.int .i64 z)) (.ok () r)) ∧
  (∀w',Chg [] w w'→∀z,z=(zbi l ks:Int)→ISt lb zb file rb l (w'.setCell ⟨rb,4,none⟩ (.int .i64 z)) (.bad ks)):=by
 obtain⟨a,c,p,z,h1,h2,h3,h4,h5,h6,rfl⟩:=h
 refine⟨a,c,p,h1,h4,by omega,h5,fun w' hx r z hr hz=>?_,fun w' hx z hz=>?_⟩
 ·subst hz
  have:=hr.length_le
  exact⟨a,c,l.length-r.length,-1,(h1.chg hx (by simp)).set (i:=3) (by simp) _,h2,h3.chgs (((hx.mono (T:=[rb]) (by simp))).setCell _ (.inl (by simp))) (by simp),by omega,hr,by omega,rfl⟩
 ·subst hz
  exact⟨a,c,p,_,(h1.chg hx (by simp)).set (i:=4) (by simp) _,h2,h3.chgs (((hx.mono (T:=[rb]) (by simp))).setCell _ (.inl (by simp))) (by simp),h4,rfl⟩
section
variable {lb zb:Nat}{file:Int}{rb:Nat}{l:List Tok}{w:World}{st:Rd Unit}
theorem zei (_hl:l.length≤1073741824) (h:ISt lb zb file rb l w st):Calls Tryz.prog 84 #[.pointer (some ⟨rb,2,none⟩)] w fun e w'=>(∃t:Tok,e=.returned (.agg t.vals)∧t.text.size≤1073741824∧∀u ks,st=.ok u ks→t=zq ks)∧Ext w w':=by
 obtain⟨a,c,p,z,hown,hc,ht,hp,hst⟩:=h
 have HT:=Lib.hid (show ∀u ks,st=.ok u ks→zeb l p=zq ks from fun u ks e=>by subst e;exact zrc hst.1 hst.2.1)
 have hlt:=hown.lt
 obtain⟨c0,f0⟩:=hown 2 _ rfl
 obtain⟨c1,f1⟩:=hown 3 _ rfl
 clear hst
 rcases Nat.lt_or_ge p l.length with hpl|hpl
 ·obtain⟨b,o,rfl,hb,t0,t1,t2,hok⟩:=ht.toks.look hpl
  rw[zes hpl]at HT
  have hd:decide ((p:Int)<(l.length:Nat))=true:=decide_eq_true (by omega)
  have hp':(p:Int)<(l.length:Nat):=by omega
  generalize l[p]=t at *
  have HOK:=Lib.hid hok
  clear ht hown hok
  go_enter Tryz.func84,Tryz.ntmps84
  go_wp2
  go_quiet (fail)
  go_wp2
  obtain⟨V,hV⟩:∃V,V=(w.alloc (.cells #[.int .i64 0,.string ⟨#[]⟩,.int .i64 0] 77)).drewN nq:=⟨_,rfl⟩
  have hx:Ext w V:=by rw[hV];exact(zd _ _).drewN _
  have hnew:Own V w.heap.size [.int .i64 0,.string ⟨#[]⟩,.int .i64 0]:=by rw[hV];exact(own3 w _ _ _ _).ext (Ext.drewN (Below.refl _ _) _)
  have hle:=hx.size
  replace c0:=hx.cell c0
  replace c1:=hx.cell c1
  replace t0:=hx.cell t0
  replace t1:=hx.cell t1
  replace t2:=hx.cell t2
  obtain⟨n0,g0⟩:=hnew 0 _ rfl
  obtain⟨n1,g1⟩:=hnew 1 _ rfl
  obtain⟨n2,g2⟩:=hnew 2 _ rfl
  rw[←hV]
  clear hV f0 f1
  go_still_tail 10,(by kernel_rfl)
  change wpList _ _ _ _ _ V.drew
  go_wp2
  exact bodyPost_ret (v:=.agg #[.int .i64 t.kind,.string t.text,.int .i64 t.at']) (by simp[results,Tryz.results84,go_sem,n0,n1,n2]) rfl ⟨⟨t,rfl,HOK.out.2.1,HT.out⟩,(zau (zau (zau hx (Nat.le_refl _) _ _) (Nat.le_refl _) _ _) (Nat.le_refl _) _ _).drew⟩
 ·have hpe:p=l.length:=by omega
  rw[zof hpl]at HT
  clear hpl hp
  subst hpe
  have hd:decide ((l.length:Int)<(l.length:Nat))=false:=by simp
  go_enter Tryz.func84,Tryz.ntmps84
  go_wp2
  go_quiet (fail)
  go_wp2
  exact bodyPost_ret (v:=.agg #[.int .i64 7,.string ⟨#[]⟩,.int .i64 0]) (by simp[results,Tryz.results84,go_sem]) rfl ⟨⟨endT,rfl,Nat.zero_le _,HT.out⟩,zau (zau (zau ((zd _ _).drewN _) (Nat.le_refl _) _ _) (Nat.le_refl _) _ _) (Nat.le_refl _) _ _⟩
theorem zdn (hl:l.length≤1073741824) (h:ISt lb zb file rb l w st):Calls Tryz.prog 117 #[.pointer (some ⟨rb,2,none⟩)] w fun e w'=>e=.returned (.tuple #[])∧ISt lb zb file rb l w' (.bad st.rest)∧Chg [rb] w w':=by
 have HS:=Lib.hid h
 cases st with
 |bad ks =>
  obtain⟨a,c,p,z,hown,hc,ht,hp,rfl⟩:=h
  obtain⟨c2,f2⟩:=hown 4 _ rfl
  go_enter Tryz.func117,Tryz.ntmps117
  go_wp2
  go_returns
  exact⟨rfl,HS.out,Chg.refl _ _⟩
 |ok u ks =>
  obtain⟨a,c,p,hown,hp,hpk,hsuf,-,hbad⟩:=h.good
  obtain⟨c0,f0⟩:=hown 2 _ rfl
  obtain⟨c1,f1⟩:=hown 3 _ rfl
  obtain⟨c2,f2⟩:=hown 4 _ rfl
  have hlt:=hown.lt
  have hm1:IntKind.i64.wrap ((l.length:Int)-1)=(l.length:Int)-1:=IntWalk.i64_in _ (by omega)
  have HV:=Lib.hid (show(zbi l ks:Int)=max 0 (min (p:Int) ((l.length:Int)-1)) by unfold zbi;omega)
  have HB:=Lib.hid hbad
  clear h hpk hbad hsuf
  go_enter Tryz.func117,Tryz.ntmps117
  go_wp2
  go_still_tail 15,(by kernel_rfl)
  go_wp2
  all_goals
   go_returns
   refine⟨rfl,HB.out _ (Chg.of_ext ((Below.refl _ _).drew)) _ ?_,((Chg.refl [rb] w).drew).setCell _ (.inl (by simp))⟩
   rw[HV.out]<;>omega
theorem zkn (hl:l.length≤1073741824) (h:ISt lb zb file rb l w st) (s:ByteArray):Calls Tryz.prog 132 #[.pointer (some ⟨rb,2,none⟩),.string s] w fun e w'=>e=.returned (.bool (zdi s st))∧ISt lb zb file rb l w' (zcq s st)∧Chg [rb] w w':=by
 have HS:=Lib.hid h
 have HP:=Lib.hid (zei hl h)
 cases st with
 |bad ks =>
  obtain⟨a,c,p,z,hown,hc,ht,hp,rfl⟩:=h
  obtain⟨c2,f2⟩:=hown 4 _ rfl
  have hd:decide ((0:Int)≤(zbi l ks:Nat))=true:=decide_eq_true (by omega)
  clear hown ht
  go_enter Tryz.func132,Tryz.ntmps132
  go_wp2_with (go_at_call 84;refine(HP.out).mono ?_;rintro e w1 ⟨⟨t,rfl,-,-⟩,hx1⟩;replace c2:=hx1.cell c2;have hlt1:rb<w1.heap.size:=zf c2;simp only[Tok.vals])
  go_ret
  exact⟨rfl,HS.out.ext (hx1.alloc _),Chg.of_ext (hx1.alloc _)⟩
 |ok u ks =>
  obtain⟨a,c,p,hown,hp,hpk,hsuf,hmove,-⟩:=h.good
  obtain⟨c1,f1⟩:=hown 3 _ rfl
  obtain⟨c2,f2⟩:=hown 4 _ rfl
  have hlt:=hown.lt
  have hd:decide ((0:Int)≤-1)=false:=by decide
  have HM:=Lib.hid hmove
  clear hown h hmove
  cases ht:zp s ks with
  |none =>
   have HN:=Lib.hid (zkt ht)
   obtain⟨e1,e2⟩:=zn (u:=u) ht
   have HE:=Lib.hid (And.intro e1 e2)
   clear e1 e2 ht hpk hsuf
   go_enter Tryz.func132,Tryz.ntmps132
   go_upto_region 2 with (go_at_call 84;refine(HP.out).mono ?_;rintro e w1 ⟨⟨t,rfl,-,ht⟩,hx1⟩;replace c2:=hx1.cell c2;have hlt1:rb<w1.heap.size:=zf c2;simp only[Tok.vals])
   have hn:=HN.out
   rw[←ht u ks rfl]at hn
   obtain⟨kd,tx,ta⟩:=t
   simp only at hn ⊢
   clear ht
   rcases hn with hk|⟨rfl,hk⟩
   ·have q1:(kd != 6)=true:=by rw[bne_iff_ne];exact hk
    clear hk
    go_wp2
    go_ret
    exact⟨by rw[HE.out.2];rfl,by rw[HE.out.1];exact HS.out.ext (hx1.alloc _),Chg.of_ext (hx1.alloc _)⟩
   ·have q2:(tx.toList==s.toList)=false:=zh hk
    clear hk
    go_wp2
    go_ret
    exact⟨by rw[HE.out.2];rfl,by rw[HE.out.1];exact HS.out.ext (hx1.alloc _),Chg.of_ext (hx1.alloc _)⟩
  |some r =>
   obtain⟨t,rfl,hk,rfl⟩:=zhs ht
   obtain⟨e1,e2⟩:=z7 (u:=u) ht
   have HE:=Lib.hid (And.intro e1 e2)
   have HK:=Lib.hid (show((p:Int)+1)=((l.length-r.length:Nat):Int) by have:=hsuf.length_le;simp at this;simp at hpk;omega)
   have HR:=Lib.hid ((List.suffix_cons t r).trans hsuf)
   have hp1:(p:Int)+1≤1073741824:=by have:=hsuf.length_le;simp at this;simp at hpk;omega
   clear e1 e2 ht hpk hsuf
   go_enter Tryz.func132,Tryz.ntmps132
   go_upto_region 2 with (go_at_call 84;refine(HP.out).mono ?_;rintro e w1 ⟨⟨t2,rfl,-,ht2⟩,hx1⟩;replace c2:=hx1.cell c2;have hlt1:rb<w1.heap.size:=zf c2;replace f1:=hx1.frozen c1 f1;replace c1:=hx1.cell c1;simp only[Tok.vals])
   have hn:t2=t:=ht2 u _ rfl
   subst hn
   obtain⟨kd,tx,ta⟩:=t2
   simp only at hk ⊢
   subst hk
   clear ht2
   go_wp2
   go_ret
   refine⟨by rw[HE.out.2];rfl,?_,(((Chg.of_ext (S:=[rb]) hx1).setCell (p:=⟨rb,3,none⟩) _ (.inl (by simp))).alloc _)⟩
   rw[HE.out.1]
   exact(HM.out _ (Chg.of_ext hx1) _ _ HR.out HK.out).ext (zd _ _)
theorem zwm (hl:l.length≤1073741824) (h:ISt lb zb file rb l w st) (s:ByteArray):Calls Tryz.prog 134 #[.pointer (some ⟨rb,2,none⟩),.string s] w fun e w'=>e=.returned (.tuple #[])∧ISt lb zb file rb l w' (st.bind fun _ ks=>zl s ks)∧Chg [rb] w w':=by
 have HT:=Lib.hid (zkn hl h s)
 cases hb:zdi s st with
 |true =>
  have HE:=Lib.hid (show zcq s st=st.bind fun _ ks=>zl s ks by
   cases st with
   |bad ks=>cases hb
   |ok u ks =>
    cases ht:zp s ks with
    |none=>simp[zdi,ht]at hb
    |some r=>simp[zcq,zl,ht])
  rw[hb]at HT
  clear hb
  go_enter Tryz.func134,Tryz.ntmps134
  go_wp2_with (go_at_call 132;refine(HT.out).mono ?_;rintro e w1 ⟨rfl,h1,hx1⟩)
  go_returns
  exact⟨rfl,by rw[←HE.out];exact h1,hx1⟩
 |false =>
  have HE:=Lib.hid (show Rd.bad (zcq s st).rest=st.bind fun _ ks=>zl s ks by
   cases st with
   |bad ks=>rfl
   |ok u ks =>
    cases ht:zp s ks with
    |none=>simp[zcq,zl,ht,Rd.rest]
    |some r=>simp[zdi,ht]at hb)
  rw[hb]at HT
  clear hb
  go_enter Tryz.func134,Tryz.ntmps134
  go_wp2_with (first|(go_at_call 132;refine(HT.out).mono ?_;rintro e w1 ⟨rfl,h1,hx1⟩)|(go_at_call 117;refine(zdn hl h1).mono ?_;rintro e w2 ⟨rfl,h2,hx2⟩))
  go_returns
  exact⟨rfl,by rw[←HE.out];exact h2,hx1.trans hx2⟩
end
def zko (l:List Nat):List (List Dat):=l.map fun k:Nat=>[Dat.int (k:Int)]
theorem zej (l:List Nat):(zko l).length=l.length:=List.length_map _
def LSt (lb:Nat) (P:Nat→Prop) (w:World) (files:List (ByteArray×ByteArray)) (opn:List Nat) (all:List Ent) (cnt:Nat) (vo va:Value):Prop :=
 ∃fa fc,Own w lb [.slice fa files.length fc,vo,va,.int .i64 cnt,.int .i64 0,.int .i64 0,.int .i64 0]∧files.length≤fc∧IsFiles (fun b=>b<lb) w fa files∧PRow 1 3 (lb+1) (fun _=>False) w vo (zko opn) ∧
  PRow 7 53 (lb+1) (fun b=>P b∧lb<b∧vo.ownBlock≠some b) w va (all.map Ent.dat)∧∀g,vo.ownBlock=some g→va.ownBlock≠some g
def LFl (lb:Nat) (w:World) (t:Flt) (k:Nat):Prop :=
 ∃fv a c va cv,Own w lb [fv,.slice a k c,va,cv,.int .i64 t.file,.int .i64 t.at',.int .i64 t.e]∧k≤c∧t.e≠0
def Away (zb ib:Nat) (v:Value):Prop:=∀g,v.ownBlock=some g→g<zb∨ib<g
def Moved (w:World) (v v':Value):Prop:=v'.ownBlock=v.ownBlock∨∀g,v'.ownBlock=some g→w.heap.size≤g
theorem Moved.refl (w:World) (v:Value):Moved w v v:=.inl rfl
theorem Moved.trans {w w1:World}{v v1 v2:Value}(h:Moved w v v1) (h2:Moved w1 v1 v2) (hs:w.heap.size≤w1.heap.size):Moved w v v2:=by
 rcases h2 with h2|h2
 ·rcases h with h|h
  ·exact .inl (h2.trans h)
  ·exact .inr fun g hg=>h g (by rw[←h2];exact hg)
 ·exact .inr fun g hg=>Nat.le_trans hs (h2 g hg)
theorem Away.moved {zb ib:Nat}{w:World}{v v':Value}(h:Away zb ib v) (hm:Moved w v v') (hi:ib<w.heap.size):Away zb ib v':=fun g hg=>by
 rcases hm with hm|hm
 ·exact h g (by rw[←hm];exact hg)
 ·have:=hm g hg;exact .inr (by omega)
section
variable {lb zb ib k:Nat}{file:Int}{l ks:List Tok}{P Q:Nat→Prop}{w w':World}{files:List (ByteArray×ByteArray)}{opn:List Nat}{all:List Ent}{cnt:Nat}{vo va:Value}{t:Flt}
theorem LSt.lt (h:LSt lb P w files opn all cnt vo va):lb<w.heap.size:=by obtain⟨fa,fc,h1,-⟩:=h;exact h1.lt
theorem LSt.form (h:LSt lb P w files opn all cnt vo va):(∃a c,vo=.slice a opn.length c∧opn.length≤c)∧∃a c,va=.slice a all.length c∧all.length≤c:=by
 obtain⟨fa,fc,h1,h2,h3,h4,h5,h6⟩:=h
 obtain⟨a,c,e1,e2⟩:=h4.form
 obtain⟨a',c',e3,e4⟩:=h5.form
 rw[zej]at e1 e2
 rw[List.length_map]at e3 e4
 exact⟨⟨a,c,e1,e2⟩,a',c',e3,e4⟩
theorem LSt.mono (h:LSt lb P w files opn all cnt vo va) (hQ:∀b,P b→b<w.heap.size→Q b):LSt lb Q w files opn all cnt vo va:=by
 obtain⟨fa,fc,h1,h2,h3,h4,h5,h6⟩:=h
 exact⟨fa,fc,h1,h2,h3,h4,h5.mono fun b hb hl=>⟨hQ b hb.1 hl,hb.2⟩,h6⟩
theorem LSt.chg {S:List Nat}(h:LSt lb P w files opn all cnt vo va) (hx:Chg S w w') (hS:∀b∈S,lb<b∧¬P b∧vo.ownBlock≠some b∧va.ownBlock≠some b):LSt lb P w' files opn all cnt vo va:=by
 obtain⟨fa,fc,h1,h2,h3,h4,h5,h6⟩:=h
 refine⟨fa,fc,h1.chg hx (fun hm=>by have:=(hS lb hm).1;omega),h2,Dat.Rows.chg h3 hx fun b hb hm=>by(have:=(hS b hm).1;omega),h4.chg hx fun b hm=>⟨(hS b hm).2.2.1,fun hb=>hb.elim⟩,h5.chg hx fun b hm=>⟨(hS b hm).2.2.2,fun hb=>absurd hb.1 (hS b hm).2.1⟩,h6⟩
theorem LSt.ext (h:LSt lb P w files opn all cnt vo va) (hx:Ext w w'):LSt lb P w' files opn all cnt vo va:=h.chg (Chg.of_ext (S:=[]) hx) (by simp)
theorem LFl.ext (h:LFl lb w t k) (hx:Ext w w'):LFl lb w' t k:=by
 obtain⟨fv,a,c,va,cv,h1,h2⟩:=h
 exact⟨fv,a,c,va,cv,h1.ext hx,h2⟩
theorem zcp (h:LSt lb P w files opn all cnt vo va){at' e0:Int}(he:e0≠0) :
  Calls Tryz.prog 114 #[.pointer (some ⟨lb,0,none⟩),.int .i64 file,.int .i64 at',.int .i64 e0] w fun e w'=>e=.returned (.tuple #[])∧LFl lb w' ⟨file,at',e0⟩ opn.length∧Chg [lb] w w':=by
 obtain⟨⟨a,c,rfl,hc⟩,-⟩:=h.form
 obtain⟨fa,fc,h1,-⟩:=h
 have HO:=Lib.hid h1
 obtain⟨c4,f4⟩:=h1 4 _ rfl
 obtain⟨c5,f5⟩:=h1 5 _ rfl
 obtain⟨c6,f6⟩:=h1 6 _ rfl
 have hlt:=h1.lt
 clear h1
 go_enter Tryz.func114,Tryz.ntmps114
 go_wp2
 go_returns
 exact⟨rfl,⟨_,_,_,_,_,((HO.out.set (i:=6) (by simp) _).set (i:=4) (by simp) _).set (i:=5) (by simp) _,hc,he⟩,((((Chg.refl [lb] w)).setCell _ (.inl (by simp))).setCell _ (.inl (by simp))).setCell _ (.inl (by simp))⟩
end
structure Ap (lb zb ib:Nat) (P:Nat→Prop) (w:World) (vo va:Value):Prop where
 h1:lb<zb
 h2:Away zb ib vo
 h3:Away zb ib va
 h4:¬P ib
 h5:ib<w.heap.size
 h6:zb≤ib
theorem Ap.grow {lb zb ib:Nat}{P:Nat→Prop}{w w':World}{vo va:Value}(h:Ap lb zb ib P w vo va) (hx:w.heap.size≤w'.heap.size):Ap lb zb ib P w' vo va:=⟨h.h1,h.h2,h.h3,h.h4,by have:=h.h5;omega,h.h6⟩
theorem Ap.item {lb zb ib:Nat}{P:Nat→Prop}{w:World}{vo va:Value}(h:Ap lb zb ib P w vo va):∀b∈[ib],lb<b∧¬P b∧vo.ownBlock≠some b∧va.ownBlock≠some b:=by
 intro b hb
 rw[List.mem_singleton]at hb
 subst hb
 have:=h.h1;have:=h.h6
 exact⟨by omega,h.h4,fun hg=>by have:=h.h2 _ hg;omega,fun hg=>by have:=h.h3 _ hg;omega⟩
def Rd.isOk {α:Type}:Rd α→Bool
 |.ok _ _=>true
 |.bad _=>false
def Fine (lb zb ib:Nat) (file:Int) (l:List Tok) (k:Nat) (w:World) (rd:Rd Unit) (e:Ending) (w':World):Prop :=
 e=.returned (.bool rd.isOk)∧match rd with
 |.ok _ r=>ISt lb zb file ib l w' (.ok () r)∧Chg [ib] w w'
 |.bad r=>LFl lb w' (zcr l file r) k∧Chg [ib,lb] w w'
section
variable {lb zb ib:Nat}{file:Int}{l:List Tok}{P:Nat→Prop}{w:World}{st:Rd Unit}{files:List (ByteArray×ByteArray)}{opn:List Nat}{all:List Ent}{cnt:Nat}{vo va:Value}
theorem LSt.e0 (h:LSt lb P w files opn all cnt vo va):w.cell? ⟨lb,6,none⟩=some (.int .i64 0):=by
 obtain⟨fa,fc,h1,-⟩:=h;exact(h1 6 _ rfl).1
theorem zfu (hl:l.length≤1073741824) (h0:0<l.length) (hn:lb<ib) (h:ISt lb zb file ib l w st) (hL:LSt lb P w files opn all cnt vo va) :
  Calls Tryz.prog 118 #[.pointer (some ⟨ib,0,none⟩)] w (Fine lb zb ib file l opn.length w st):=by
 have HS:=Lib.hid h
 cases st with
 |ok u ks =>
  obtain⟨a,c,p,hown,hp,hpk,hsuf,-,-⟩:=h.good
  obtain⟨c0,f0⟩:=hown 0 _ rfl
  obtain⟨c4,f4⟩:=hown 4 _ rfl
  have k6:=hL.e0
  have hlt:=hown.lt
  have hlt2:=hL.lt
  clear hown h hpk hsuf hL
  go_enter Tryz.func118,Tryz.ntmps118
  go_wp2
  go_ret
  exact⟨rfl,HS.out,Chg.refl _ _⟩
 |bad ks =>
  have HF:=Lib.hid (fun (S:World) at' (hx:Ext w S)=>zcp (file:=file) (hL.ext hx) (at':=at') (e0:=240) (by decide))
  obtain⟨a,c,p,z,hown,hc,ht,hp,rfl⟩:=h
  have hb:zbi l ks<l.length:=by unfold zbi;omega
  have HA:=Lib.hid (zes hb)
  obtain⟨b,o,rfl,hb0,t0,t1,t2,hok⟩:=ht.toks.look hb
  obtain⟨c0,f0⟩:=hown 0 _ rfl
  obtain⟨c1,f1⟩:=hown 1 _ rfl
  obtain⟨c2,f2⟩:=hown 2 _ rfl
  obtain⟨c4,f4⟩:=hown 4 _ rfl
  have hd:decide ((0:Int)≤(zbi l ks:Nat))=true:=decide_eq_true (by omega)
  have hlt:=hown.lt
  have hlt2:=hL.lt
  have hdb:((zbi l ks:Nat):Int)<l.length:=by omega
  generalize hq:zbi l ks=q at *
  have HI:=Lib.hid (show zcr l file ks=⟨file,(l[q]).at',240⟩ by unfold zcr;rw[hq,HA.out])
  clear hown ht hok hL HS hq
  go_enter Tryz.func118,Tryz.ntmps118
  go_upto_region 2 with fail
  go_still_tail 21,(by kernel_rfl)
  change wpList _ _ _ _ _ w.drew
  go_wp2_with (go_at_call 114;refine(HF.out _ _ (Ext.drew (Below.refl _ _))).mono ?_;rintro e w1 ⟨rfl,hfl,hx1⟩;have HFL:=Lib.hid hfl;obtain⟨fv,aa,cc,va',cv',hO,-,-⟩:=hfl;(have g6:w1.cell? ⟨lb,6,none⟩=some (.int .i64 240):=(hO 6 _ rfl).1);have hlt3:=hO.lt;replace c0:=hx1.cell (show w.drew.cell? ⟨ib,0,none⟩=_ from c0) (fun hm=>by simp at hm;omega);have hlt4:=zf c0;clear hO)
  go_ret
  exact⟨rfl,by rw[HI.out];exact HFL.out,((Chg.refl [ib,lb] w).drew).trans (hx1.mono (by simp))⟩
theorem znf (hl:l.length≤1073741824) (h0:0<l.length){ks:List Tok}{u:Unit}(ha:Ap lb zb ib P w vo va) (h:ISt lb zb file ib l w (.ok u ks)) (hL:LSt lb P w files opn all cnt vo va) (s:ByteArray) :
  Calls Tryz.prog 155 #[.pointer (some ⟨ib,0,none⟩),.string s] w (Fine lb zb ib file l opn.length w (zl s ks)):=by
 have HM:=Lib.hid (zwm hl h s)
 have HF:=Lib.hid (fun (S:World) (hm:ISt lb zb file ib l S (zl s ks)) (hx:Chg [ib] w S)=>zfu hl h0 (by have:=ha.h1;have:=ha.h6;omega) hm (hL.chg hx ha.item))
 have hlt:=ha.h5
 obtain⟨a,c,p,hown,-⟩:=h.good
 obtain⟨c0,f0⟩:=hown 0 _ rfl
 clear hown h hL ha
 go_enter Tryz.func155,Tryz.ntmps155
 go_wp2_with (first|(go_at_call 134;refine(HM.out).mono ?_;rintro e w1 ⟨rfl,h1,hx1⟩;have hlt1:=hx1.size)|(go_at_call 118;refine(HF.out _ h1 hx1).mono ?_;rintro e w2 ⟨rfl,hp⟩))
 go_ret
 refine⟨rfl,?_⟩
 cases hq:zl s ks with
 |ok v r=>rw[hq]at hp;exact⟨hp.1,hx1.trans hp.2⟩
 |bad r=>rw[hq]at hp;exact⟨hp.1,(hx1.mono (by simp)).trans hp.2⟩
end
def zzu (lb zb ib:Nat) (file:Int) (l:List Tok) (k:Nat) (w:World) (rd:Rd ByteArray) (e:Ending) (w':World):Prop :=
 (∃s,e=.returned (.tuple #[.string s,.bool rd.isOk])∧s.size≤1073741824∧∀x r,rd=.ok x r→s=x)∧match rd with
 |.ok _ r=>ISt lb zb file ib l w' (.ok () r)∧Chg [ib] w w'
 |.bad r=>LFl lb w' (zcr l file r) k∧Chg [ib,lb] w w'
section
variable {lb zb ib:Nat}{file:Int}{l:List Tok}{P:Nat→Prop}{w:World}{st:Rd Unit}{files:List (ByteArray×ByteArray)}{opn:List Nat}{all:List Ent}{cnt:Nat}{vo va:Value}
theorem ztc (hl:l.length≤1073741823) (h0:0<l.length){ks:List Tok}{u:Unit}(ha:Ap lb zb ib P w vo va) (h:ISt lb zb file ib l w (.ok u ks)) (hL:LSt lb P w files opn all cnt vo va) :
  Calls Tryz.prog 156 #[.pointer (some ⟨ib,0,none⟩)] w (zzu lb zb ib file l opn.length w (zed ks)):=by
 have hl2:l.length≤1073741824:=by omega
 have hne:lb<ib:=by have:=ha.h1;have:=ha.h6;omega
 have HP:=Lib.hid (zei hl2 h)
 have HWR:=Lib.hid (fun (S:World) (hx:Ext w S)=>zdn hl2 (h.ext hx))
 have HF:=Lib.hid (fun (S T:World) (hx:Ext w S) (hm:ISt lb zb file ib l T (.bad ks)) (hc:Chg [ib] S T)=>zfu hl2 h0 hne hm ((hL.ext hx).chg hc ha.item))
 obtain⟨a,c,p,hown,hp,hpk,hsuf,hmove,-⟩:=h.good
 have hlt:=hown.lt
 obtain⟨c3,f3⟩:=hown 3 _ rfl
 have HM:=Lib.hid hmove
 have HTk:=Lib.hid h.toks
 clear h hL ha hmove hown
 rcases zlp ks with ⟨t,r,rfl,hk,hw⟩|⟨hn,h5,hk⟩
 ·have HK:=Lib.hid hk
  have HKK:=Lib.hid (show((p:Int)+1)=((l.length-r.length:Nat):Int) by have:=hsuf.length_le;simp at this;simp at hpk;omega)
  have HR:=Lib.hid ((List.suffix_cons t r).trans hsuf)
  have hp1:(p:Int)+1≤1073741824:=by have:=hsuf.length_le;simp at this;simp at hpk;omega
  clear hk hpk hsuf
  obtain⟨kd,tx,ta⟩:=t
  have HNM:=Lib.hid (fun (hs:tx.size≤1073741824) w=>zfn (w:=w) ⟨kd,tx,ta⟩ hs)
  have HPT:=Lib.hid (show ∀t:Tok,t=zq ((⟨kd,tx,ta⟩:Tok)::r)→t=⟨kd,tx,ta⟩from fun t h=>h)
  rcases hw with hw|⟨hw,h5⟩
  all_goals
   rw[hw]at HNM
   try simp only at h5
   simp only[Tok.vals]at HNM
   clear hw
   go_enter Tryz.func156,Tryz.ntmps156
   go_upto_region 2 with (go_at_call 84;refine(HP.out).mono ?_;rintro e w1 ⟨⟨t,rfl,hsz,ht⟩,hx1⟩;(obtain rfl:t=⟨kd,tx,ta⟩:=HPT.out _ (ht _ _ rfl));have hlt1:ib<w1.heap.size:=(by have:=hx1.size;omega);simp only[Tok.vals])
   clear ht
   have HNN:=Lib.hid (HNM.out hsz)
   have HSZ:=Lib.hid hsz
   clear HNM hsz
   replace f3:=hx1.frozen c3 f3
   replace c3:=hx1.cell c3
   go_wp2_with (go_at_call 183;refine(HNN.out _).mono ?_;rintro e w2 ⟨rfl,hx2'⟩;(have hx2:=(zd w1 (.cells #[.int .i64 kd,.string tx,.int .i64 ta] 77)).trans hx2');(have hT3:=(own3 w1 (.int .i64 kd) (.string tx) (.int .i64 ta) 77).ext hx2');(obtain⟨n0,-⟩:=hT3 0 _ rfl);(obtain⟨n1,-⟩:=hT3 1 _ rfl);(have hlt3:=zf n0);replace f3:=hx2.frozen c3 f3;replace c3:=hx2.cell c3;have hlt4:=zf c3;have hne3:w1.heap.size≠ib:=(by omega);have hne4:ib≠w1.heap.size:=(by omega))
   go_ret2
   refine⟨⟨tx,by rw[HK.out];rfl,HSZ.out,fun x r h=>by rw[HK.out]at h;injection h⟩,?_⟩
   rw[HK.out]
   exact⟨HM.out _ (Chg.of_ext (hx1.trans hx2)) _ _ HR.out HKK.out,(Chg.of_ext (hx1.trans hx2)).setCell _ (.inl (by simp))⟩
 ·have HK:=Lib.hid hk
  obtain⟨T,hT⟩:∃T,T=zq ks:=⟨_,rfl⟩
  rw[←hT]at hn h5
  have HT:=Lib.hid hT
  clear hk hpk hsuf hT
  obtain⟨kd,tx,ta⟩:=T
  have HNM:=Lib.hid (fun (hs:tx.size≤1073741824) w=>zfn (w:=w) ⟨kd,tx,ta⟩ hs)
  rw[hn]at HNM
  simp only[Tok.vals]at HNM h5
  clear hn
  go_enter Tryz.func156,Tryz.ntmps156
  go_upto_region 2 with (go_at_call 84;refine(HP.out).mono ?_;rintro e w1 ⟨⟨t,rfl,hsz,ht⟩,hx1⟩;(obtain rfl:t=⟨kd,tx,ta⟩:=(ht _ _ rfl).trans HT.out.symm);have hlt1:ib<w1.heap.size:=(by have:=hx1.size;omega);simp only[Tok.vals])
  clear ht
  have HNN:=Lib.hid (HNM.out hsz)
  clear HNM
  go_wp2_with (first
   |(go_at_call 183;refine(HNN.out _).mono ?_;rintro e w2 ⟨rfl,hx2'⟩;(have hx2:=(zd w1 (.cells #[.int .i64 kd,.string tx,.int .i64 ta] 77)).trans hx2');(obtain⟨n0,-⟩:=((own3 w1 (.int .i64 kd) (.string tx) (.int .i64 ta) 77).ext hx2') 0 _ rfl);(have hlt3:=zf n0))
   |(go_at_call 117;refine(HWR.out _ (hx1.trans hx2)).mono ?_;rintro e w3 ⟨rfl,h3,hx3⟩)
   |(go_at_call 118;refine(HF.out _ _ (hx1.trans hx2) h3 hx3).mono ?_;rintro e w4 ⟨rfl,h4⟩))
  go_ret2
  rw[HK.out]
  exact⟨⟨⟨#[]⟩,rfl,by decide,fun x r h=>by cases h⟩,h4.1,((Chg.of_ext (hx1.trans hx2)).trans (hx3.mono (by simp))).trans h4.2⟩
end
def intsZ (l:List Int):List (List Dat):=l.map fun k=>[Dat.int k]
theorem zwn {Q:Nat→Prop}{w:World}{cs:List Value}{x:List Dat}{ty:TypeId}(h:Dat.Fs Q w cs x) (hx:cs≠[]) (hQ:Q w.heap.size):Dat.Rows Q (w.alloc (.cells cs.toArray ty)) (some ⟨w.heap.size,0,none⟩) [x]:=by
 refine⟨w.heap.size,0,cs,rfl,hQ,hx,fun i v hi=>?_,Dat.Fs.ext h (zd _ _),trivial⟩
 have:=(zaq w cs.toArray ty i v (by simpa using hi)).1
 rw[Nat.zero_add];exact this
theorem PRow.intsZ {e B:Nat}{P Q:Nat→Prop}{w:World}{v:Value}{l:List Int}(h:PRow 1 e B P w v (intsZ l)):PRow 1 e B Q w v (intsZ l):=by
 obtain⟨cs,h1,h2,h3⟩:=h
 refine⟨cs,h1,h2,fun j hj hj'=>⟨(h3 j hj hj').1,?_⟩⟩
 have h4:=(h3 j hj hj').2
 have hd:(Go.Proofs.YtnclgkdpafhogaaGreat.intsZ l)[j]=[Dat.int (l[j]'(by unfold Go.Proofs.YtnclgkdpafhogaaGreat.intsZ at hj;rw[List.length_map]at hj;exact hj))]:=by simp[Go.Proofs.YtnclgkdpafhogaaGreat.intsZ]
 rw[hd]at h4 ⊢
 match cs[j],h4 with
 |[c],h4=>exact h4
theorem PRow.but {m e B:Nat}{S:List Nat}{w w':World}{v:Value}{l:List (List Dat)}(h:PRow m e B (fun _=>False) w v l) (hx:Chg S w w') (hS:∀g,v.ownBlock=some g→g∉S):PRow m e B (fun _=>False) w' v l :=
 h.chg hx fun b hb=>⟨fun hv=>hS b hv hb,fun h=>h.elim⟩
theorem zya (kd ta:Int) (tx:ByteArray) (w:World):(Instr.field 77 (.agg #[.int .i64 kd,.string tx,.int .i64 ta]) 2).run Tryz.prog w=.ok (.int .i64 ta) w:=by
 first|rfl|simp[Instr.field,go_sem]|kernel_rfl
def NamesP (lb zb ib:Nat) (file:Int) (l:List Tok) (k:Nat) (w:World) (rd:Rd (Option (List (ByteArray×Int)))) (e:Ending) (w':World):Prop :=
 match rd with
 |.ok none r=>e=.returned (.tuple #[.slice none 0 0,.slice none 0 0,.bool false,.bool true])∧ISt lb zb file ib l w' (.ok () r)∧Chg [ib] w w'
 |.ok (some NS) r=>(∃vl vt,e=.returned (.tuple #[vl,vt,.bool true,.bool true])∧StrRow w.heap.size w' vl (NS.map Prod.fst)∧PRow 1 3 w.heap.size (fun _=>False) w' vt (intsZ (NS.map Prod.snd))∧∀g,vl.ownBlock=some g→vt.ownBlock≠some g)∧ISt lb zb file ib l w' (.ok () r)∧Chg [ib] w w'
 |.bad r=>(∃vl vt,e=.returned (.tuple #[vl,vt,.bool true,.bool false]))∧LFl lb w' (zcr l file r) k∧Chg [ib,lb] w w'
theorem zc5 {fn:Func}{t u v x:Tmp}(h:fn.results=#[.tmp t,.tmp u,.tmp v,.tmp x]) (tmps:Array Value) (P:Program) (w:World) :
  (results fn tmps).run P w=.ok (.tuple #[tmps.getD t undef,tmps.getD u undef,tmps.getD v undef,tmps.getD x undef]) w:=by
 simp[results,h]
section
variable {lb zb ib:Nat}{file:Int}{l:List Tok}{P:Nat→Prop}{w:World}{st:Rd Unit}{files:List (ByteArray×ByteArray)}{opn:List Nat}{all:List Ent}{cnt:Nat}{vo va:Value}
theorem zwo (hl:l.length≤8388600) (h0:0<l.length){ks:List Tok}{u:Unit}(ha:Ap lb zb ib P w vo va) (h:ISt lb zb file ib l w (.ok u ks)) (hL:LSt lb P w files opn all cnt vo va) :
  Calls Tryz.prog 157 #[.pointer (some ⟨ib,0,none⟩)] w (NamesP lb zb ib file l opn.length w (zae ks)):=by
 have hl2:l.length≤1073741824:=by omega
 have hl3:l.length≤1073741823:=by omega
 have HTK:=Lib.hid (zkn hl2 h zj)
 have HMU:=Lib.hid (fun (S:World) (r:List Tok) (hm:ISt lb zb file ib l S (.ok () r)) (hx:Chg [ib] w S) (s:ByteArray)=>znf hl2 h0 (ha.grow hx.size) hm (hL.chg hx ha.item) s)
 have HTT:=Lib.hid (fun (S:World) (r:List Tok) (hm:ISt lb zb file ib l S (.ok () r))=>zkn hl2 hm zj)
 have HNA:=Lib.hid (fun (S:World) (r:List Tok) (hm:ISt lb zb file ib l S (.ok () r)) (hx:Chg [ib] w S)=>ztc hl3 h0 (ha.grow hx.size) hm (hL.chg hx ha.item))
 have hlt:=ha.h5
 unfold Fine at HMU
 unfold zzu at HNA
 clear ha hL
 cases ht:zp zj ks with
 |none =>
  have HE:=Lib.hid (zhl ht)
  rw[(zn ht).1,(zn ht).2]at HTK
  simp only[zj]at HTK
  clear ht h
  go_enter Tryz.func157,Tryz.ntmps157
  go_wp2_with (go_at_call 132;refine(HTK.out).mono ?_;rintro e w1 ⟨rfl,h1,hx1⟩)
  (try simp only[Exit.inBlock,Exit.then])
  refine bodyPost_ret (zc5 rfl _ _ _) rfl ?_
  rw[HE.out]
  exact⟨rfl,h1,hx1⟩
 |some r1 =>
  have HT:=Lib.hid ht
  rw[(z7 ht).1,(z7 ht).2]at HTK
  simp only[zj]at HTK
  clear ht h
  rcases zav (zl zc3 r1)with ⟨r2,hq⟩|⟨u2,r2,hq⟩
  ·have HE:=Lib.hid (zlz HT.out hq)
   have HM2:=Lib.hid (fun (S:World) (hm:ISt lb zb file ib l S (.ok () r1)) (hx:Chg [ib] w S)=>HMU.out S r1 hm hx zc3)
   simp only[hq]at HM2
   simp only[zc3]at HM2
   clear hq
   go_enter Tryz.func157,Tryz.ntmps157
   go_wp2_with (first|(go_at_call 132;refine(HTK.out).mono ?_;rintro e w1 ⟨rfl,h1,hx1⟩)|(go_at_call 155;refine(HM2.out _ h1 hx1).mono ?_;rintro e w2 ⟨rfl,h2,hx2⟩))
   (try simp only[Exit.inBlock,Exit.then])
   refine bodyPost_ret (zc5 rfl _ _ _) rfl ?_
   rw[HE.out]
   exact⟨⟨_,_,rfl⟩,h2,(hx1.mono (by simp)).trans hx2⟩
  ·have HM2:=Lib.hid (fun (S:World) (hm:ISt lb zb file ib l S (.ok () r1)) (hx:Chg [ib] w S)=>HMU.out S r1 hm hx zc3)
   have HQ:=Lib.hid hq
   simp only[hq]at HM2
   simp only[zc3]at HM2
   clear hq
   go_enter Tryz.func157,Tryz.ntmps157
   go_upto_region 5 with (first|(go_at_call 132;refine(HTK.out).mono ?_;rintro e w1 ⟨rfl,h1,hx1⟩)|(go_at_call 155;refine(HM2.out _ h1 hx1).mono ?_;rintro e w2 ⟨rfl,h2,hx2⟩))
   have hx12:=hx1.trans hx2
   have HX12:=Lib.hid hx12
   have H2:=Lib.hid h2
   have hr2:r2.length≤l.length:=by obtain⟨_,_,_,-,-,-,hs,-⟩:=h2.good;exact hs.length_le
   have hs12:=hx12.size
   clear h1 h2 hx1 hx2 hx12
   obtain⟨i0,hi0,hz0,hz1',hz2'⟩:=info_parts zr2
   go_loopg [2,3,6,7] r2.length (fun g x y s o wr=>∃(r:List Tok) (pre:List (ByteArray×Int)),g=r.length∧StrRow w.heap.size wr x (pre.map Prod.fst)∧PRow 1 3 w.heap.size (fun _=>False) wr y (intsZ (pre.map Prod.snd))∧(∀g,x.ownBlock=some g→y.ownBlock≠some g)∧ISt lb zb file ib l wr (.ok () r)∧Chg [ib] w wr∧pre.length+r.length≤r2.length∧rowR zay zj r2=(rowR zay zj r).map (pre++·))
   case atStart=>exact⟨r2,[],rfl,StrRow.nil,PRow.nil,(fun g h=>by cases h),H2.out,HX12.out,by simp,by cases rowR zay zj r2<;>simp⟩
   case round =>
    obtain⟨r,pre,hg,hq1,hq2,hap,hst,hch,hlen,heq⟩:=hrel
    have HEQ:=Lib.hid heq
    have HG:=Lib.hid hg
    have HP:=Lib.hid (zei hl2 hst)
    clear heq hg
    have hfd:=zya
    have hbt:-9223372036854775808≤(zq r).at'∧(zq r).at'≤9223372036854775807:=by
     cases r with
     |nil=>exact⟨by decide,by decide⟩
     |cons t r=>obtain⟨_,_,_,-,-,-,hs,-⟩:=hst.good;exact(hst.toks t (hs.subset (by simp))).2.2
    obtain⟨ya,yc,hy,hyc⟩:=hq2.form
    have HML:=Lib.hid (show(intsZ (pre.map Prod.snd)).length=pre.length by simp[intsZ])
    rw[HML.out]at hy hyc
    subst hy
    have HQ2:=Lib.hid hq2
    have HBT:=Lib.hid hbt
    have hsr:=hch.size
    clear hq2 hbt
    go_upto_region 6 with (first
     |(at_builtin;refine zb7 (m:=1) (B:=w.heap.size) (P:=fun _=>True) (Q:=fun b=>b=w3.heap.size) (v:=.slice ya pre.length yc) (M:=[[Dat.int ta]]) (l:=intsZ (pre.map Prod.snd)) Tryz.underlying109 hi0 hz0 hz1' hz2' rfl (by decide) (by decide) rfl _ _ rfl rfl (PRow.intsZ (PRow.ext HQ2.out (hx3.trans (zd _ _)))) rfl (zwn (cs:=[.int .i64 ta]) ⟨⟨rfl,by have:=HBT.out;rw[←ht]at this;exact this⟩,trivial⟩ (by simp) rfl) (by simp) (fun b hb _=>⟨trivial,fun e=>by have:=(PRow.own_ge HQ2.out e).2;have:=hx3.size;omega⟩) (by rw[HML.out];simp only[List.length_cons,List.length_nil];omega) (by rw[World.size_alloc];have:=hx3.size;omega) ?_;intro v4 w4 hrow4 hfr4)
     |(go_at_call 84;refine(HP.out).mono ?_;rintro e w3 ⟨⟨t,rfl,hsz,ht⟩,hx3⟩;replace ht:=ht _ _ rfl;obtain⟨kd,tx,ta⟩:=t;simp only[Tok.vals]))
    have hax:Ext wr (w3.alloc (.cells #[.int .i64 ta] 3)):=hx3.trans (zd _ _)
    have hown:∀g,(Value.slice ya pre.length yc).ownBlock=some g→w.heap.size≤g∧g<wr.heap.size:=fun g hg=>PRow.own_ge HQ2.out hg
    have C4:Chg [ib] w w4:=Chg.drop (Below.refl _ _) (((hch.trans (Chg.of_ext hax)).mono (T:=ib::(Value.slice ya pre.length yc).ownBlock.toList) (by simp)).trans (hfr4.chg.mono (fun i hi=>List.mem_cons_of_mem _ hi))) (fun i hi=>by
     rcases List.mem_cons.1 hi with rfl|hi
     ·exact .inl (by simp)
     ·exact .inr (hown i (by simpa using hi)).1)
    have I4:ISt lb zb file ib l w4 (.ok () r):=(hst.ext hax).chg hfr4.chg (fun b hb=>.inl (by have:=(hown b (by simpa using hb)).1;omega))
    have S4:StrRow w.heap.size w4 u2 (pre.map Prod.fst):=StrRow.but (StrRow.ext hq1 hax) hfr4.chg (fun g hg hm=>hap g hg (by simpa using hm))
    have A4:∀g,u2.ownBlock=some g→v4.ownBlock≠some g:=fun g hg h4=>by
     rcases hfr4.own with h|h
     ·exact hap g hg (h ▸ h4)
     ·have h5:=h g h4
      have h6:=(StrRow.own_ge hq1 hg).2
      have:=hax.size
      omega
    have R4:PRow 1 3 w.heap.size (fun _=>False) w4 v4 (intsZ ((pre.map Prod.snd)++[(zq r).at'])):=by
     rw[←ht]
     refine PRow.intsZ (P:=fun _=>True) ?_
     unfold Go.Proofs.YtnclgkdpafhogaaGreat.intsZ at hrow4 ⊢
     rw[List.map_append]
     exact hrow4
    have s4:=C4.size
    clear hrow4 hfr4 hax hst hq1 hap hch hown HQ2 hx3 ht
    rcases zav (zed r)with ⟨rr,hn⟩|⟨x,rr,hn⟩
    ·have HBAD:=Lib.hid (show zae ks=.bad rr from zl0 HT.out HQ.out (by rw[HEQ.out,zs9 (show zay r=.bad rr by unfold zay;rw[hn];rfl)];rfl))
     have HN:=Lib.hid (HNA.out w4 r I4 C4)
     rw[hn]at HN
     clear hn
     go_wp2_with (go_at_call 156;refine(HN.out).mono ?_;rintro e w5 ⟨⟨s5,rfl,-,-⟩,h5,hx5⟩)
     (try simp only[Exit.inBlock,Exit.then])
     refine bodyPost_ret (zc5 rfl _ _ _) rfl ?_
     rw[HBAD.out]
     exact⟨⟨_,_,rfl⟩,h5,(C4.mono (by simp)).trans hx5⟩
    ·have HN:=Lib.hid (HNA.out w4 r I4 C4)
     have hna:=Lib.hid (show zay r=.ok (x,(zq r).at') rr by unfold zay;rw[hn];rfl)
     have hrr:=zi0 hn
     rw[hn]at HN
     clear hn HP
     have hlp:=hlen
     obtain⟨xa,xc,hxv,hxc,-⟩:=S4.strs
     rw[List.length_map]at hxv hxc
     subst hxv
     have S4':=Lib.hid S4
     have hpl:pre.length≤8388000∨8388000<pre.length:=by omega
     clear S4
     have HML1:=Lib.hid (show(pre.map Prod.fst).length=pre.length by rw[List.length_map])
     go_upto_region 10 with (first
      |(at_builtin;refine zd0 (B:=w.heap.size) (v:=.slice xa pre.length xc) (l:=pre.map Prod.fst) (xs:=[s5]) rfl _ _ rfl rfl ((StrRow.but S4'.out hx5 (fun g hg hm=>by have:=(StrRow.own_ge S4'.out hg).1;simp at hm;omega)).ext (zd _ _)) rfl (zrl w5 s5 hxs) (by rw[List.length_map,List.length_singleton];omega) (by rw[World.size_alloc];have:=hx5.size;omega) ?_;intro v6 w6 hrow6 hfr6)
      |(go_at_call 156;refine(HN.out).mono ?_;rintro e w5 ⟨⟨s5,rfl,hxs,hse⟩,h5,hx5⟩;obtain rfl:=hse _ _ rfl))
     have hown6:∀g,(Value.slice xa pre.length xc).ownBlock=some g→w.heap.size≤g∧g<w4.heap.size:=fun g hg=>StrRow.own_ge S4'.out hg
     have hown4:∀g,v4.ownBlock=some g→w.heap.size≤g∧g<w4.heap.size:=fun g hg=>PRow.own_ge R4 hg
     have hxa6:=zd w5 (.cells #[.string s5] 9)
     have C6:Chg [ib] w w6:=Chg.drop (Below.refl _ _) ((((C4.trans hx5).trans (Chg.of_ext hxa6)).mono (T:=ib::(Value.slice xa pre.length xc).ownBlock.toList) (by simp)).trans (hfr6.chg.mono (fun i hi=>List.mem_cons_of_mem _ hi))) (fun i hi=>by
      rcases List.mem_cons.1 hi with rfl|hi
      ·exact .inl (by simp)
      ·exact .inr (hown6 i (by simpa using hi)).1)
     have I6:ISt lb zb file ib l w6 (.ok () rr):=(h5.ext hxa6).chg hfr6.chg (fun b hb=>.inl (by have:=(hown6 b (by simpa using hb)).1;omega))
     have R6:PRow 1 3 w.heap.size (fun _=>False) w6 v4 (intsZ ((pre.map Prod.snd)++[(zq r).at'])):=PRow.but ((PRow.but R4 hx5 (fun g hg hm=>by have:=(hown4 g hg).1;simp at hm;omega)).ext hxa6) hfr6.chg (fun g hg hm=>A4 g (by simpa using hm) hg)
     have A6:∀g,v6.ownBlock=some g→v4.ownBlock≠some g:=fun g hg h4=>by
      rcases hfr6.own with h|h
      ·exact A4 g (h ▸ hg) h4
      ·have h7:=h g hg
       have h8:=(hown4 g h4).2
       have:=hx5.size
       have:=hxa6.size
       omega
     have S6:StrRow w.heap.size w6 v6 ((pre++[(s5,(zq r).at')]).map Prod.fst):=by rw[List.map_append];exact hrow6
     replace R6:PRow 1 3 w.heap.size (fun _=>False) w6 v4 (intsZ ((pre++[(s5,(zq r).at')]).map Prod.snd)):=by rw[List.map_append];exact R6
     have hs6:=C6.size
     have HTT6:=Lib.hid (HTT.out w6 rr I6)
     have ho4:∀g,v4.ownBlock=some g→ib<g:=fun g hg=>by have:=(hown4 g hg).1;omega
     have ho6:∀g,v6.ownBlock=some g→ib<g:=fun g hg=>by have:=(StrRow.own_ge hrow6 hg).1;omega
     clear hown6 hown4 hxa6 hfr6 hrow6 hx5 h5 I4 C4 R4 A4 S4' I6 hse HN
     cases ht2:zp zj rr with
     |none =>
      have HOK:=Lib.hid (show rowR zay zj r2=.ok (pre++[(s5,(zq r).at')]) rr by rw[HEQ.out,zpz hna.out ht2];rfl)
      rw[(zn ht2).1,(zn ht2).2]at HTT6
      simp only[zj]at HTT6
      clear ht2
      have HM3:=Lib.hid (fun (S:World) (hm:ISt lb zb file ib l S (.ok () rr)) (hx:Chg [ib] w S)=>HMU.out S rr hm hx zc4)
      rcases zav (zl zc4 rr)with ⟨r7,hq7⟩|⟨u7,r7,hq7⟩
      ·have HE:=Lib.hid (zl1 HT.out HQ.out HOK.out hq7)
       simp only[hq7]at HM3
       simp only[zc4]at HM3
       clear hq7
       go_wp2_with (first|(go_at_call 132;refine(HTT6.out).mono ?_;rintro e w7 ⟨rfl,h7,hx7⟩)|(go_at_call 155;refine(HM3.out _ h7 (C6.trans hx7)).mono ?_;rintro e w8 ⟨rfl,h8,hx8⟩))
       (try simp only[Exit.inBlock,Exit.then])
       refine bodyPost_ret (zc5 rfl _ _ _) rfl ?_
       rw[HE.out]
       exact⟨⟨_,_,rfl⟩,h8,((C6.trans hx7).mono (by simp)).trans hx8⟩
      ·have HE:=Lib.hid (zki HT.out HQ.out HOK.out hq7)
       simp only[hq7]at HM3
       simp only[zc4]at HM3
       clear hq7
       go_wp2_with (first|(go_at_call 132;refine(HTT6.out).mono ?_;rintro e w7 ⟨rfl,h7,hx7⟩)|(go_at_call 155;refine(HM3.out _ h7 (C6.trans hx7)).mono ?_;rintro e w8 ⟨rfl,h8,hx8⟩))
       (try simp only[Exit.inBlock,Exit.then])
       refine bodyPost_ret (zc5 rfl _ _ _) rfl ?_
       rw[HE.out]
       exact⟨⟨_,_,rfl,S6.but (hx7.trans hx8) (fun g hg hm=>by have:=ho6 g hg;simp at hm;omega),R6.but (hx7.trans hx8) (fun g hg hm=>by have:=ho4 g hg;simp at hm;omega),A6⟩,h8,(C6.trans hx7).trans hx8⟩
     |some r6 =>
      have hr6:=zu ht2
      have HEQ2:=Lib.hid (show rowR zay zj r2=(rowR zay zj r6).map ((pre++[(s5,(zq r).at')])++·) by rw[HEQ.out,zp0 hna.out ht2];cases rowR zay zj r6<;>simp)
      rw[(z7 ht2).1,(z7 ht2).2]at HTT6
      simp only[zj]at HTT6
      clear ht2
      go_wp2_with (go_at_call 132;refine(HTT6.out).mono ?_;rintro e w7 ⟨rfl,h7,hx7⟩)
      go_roundg r6.length
      case measure=>have:=HG.out;go_light;omega
      case rel=>exact⟨r6,pre++[(s5,(zq r).at')],rfl,S6.but hx7 (fun g hg hm=>by have:=ho6 g hg;simp at hm;omega),R6.but hx7 (fun g hg hm=>by have:=ho4 g hg;simp at hm;omega),A6,h7,C6.trans hx7,by simp;omega,HEQ2.out⟩
end
theorem zuu {files:List (ByteArray×ByteArray)}{nm:ByteArray}(h:∀k (hk:k<files.length),files[k].1≠nm):zh2 files nm=none:=by
 unfold zh2
 rw[List.findIdx?_eq_none_iff]
 intro x hx
 obtain⟨k,hk,rfl⟩:=List.getElem_of_mem hx
 exact decide_eq_false (h k hk)
theorem zuv {files:List (ByteArray×ByteArray)}{nm:ByteArray}{i:Nat}(hi:i<files.length) (he:files[i].1=nm) (h:∀k (hk:k<i),(files[k]'(by omega)).1≠nm):zh2 files nm=some i:=by
 unfold zh2
 rw[List.findIdx?_eq_some_iff_getElem]
 exact⟨hi,decide_eq_true he,fun j hj=>by simpa using h j hj⟩
def zng (files:List (ByteArray×ByteArray)) (nm:ByteArray):Int:=match zh2 files nm with
 |some i=>i
 |none=>-1
section
variable {lb:Nat}{P:Nat→Prop}{w:World}{files:List (ByteArray×ByteArray)}{opn:List Nat}{all:List Ent}{cnt:Nat}{vo va:Value}
theorem zyb (hn:files.length≤1073741824) (h:LSt lb P w files opn all cnt vo va) (nm:ByteArray) :
  Calls Tryz.prog 158 #[.pointer (some ⟨lb,0,none⟩),.string nm] w fun e w'=>e=.returned (.int .i64 (zng files nm))∧Ext w w':=by
 obtain⟨fa,fc,h1,h2,h3,-⟩:=h
 obtain⟨c0,-⟩:=h1 0 _ rfl
 have hlt:=h1.lt
 clear h1
 have HF:=Lib.hid h3
 clear h3
 go_enter Tryz.func158,Tryz.ntmps158
 go_wp2_with fail
 go_loopw [5] (fun i wr=>∃k:Nat,k≤files.length∧i=.int .i64 k∧Ext w wr∧∀j (hj:j<k) (hj':j<files.length),files[j].1≠nm) (fun i _=>files.length-(intOf i).toNat)
 case atStart=>exact⟨0,Nat.zero_le _,rfl,Below.refl _ _,fun j hj=>by omega⟩
 case round =>
  obtain⟨k,hkk,rfl,hxr,hne⟩:=hrel
  have HNE:=Lib.hid hne
  clear hne
  replace c0:=hxr.cell c0
  have hlt':=zf c0
  by_cases hkl:k<files.length
  ·have hkl':(k:Int)<files.length:=by omega
   obtain⟨b,o,rfl,-,t1,-⟩:=IsFiles.look (Dat.Rows.ext HF.out hxr) hkl
   by_cases he:files[k].1=nm
   ·have q1:(files[k].1.toList==nm.toList)=true:=ze4 he
    have HI:=Lib.hid (show zng files nm=k by unfold zng;rw[zuv hkl he (fun j hj=>HNE.out j hj (by omega))])
    clear he
    go_wp2_with fail
    go_ret
    exact⟨zm HI.out.symm,hxr⟩
   ·have q1:(files[k].1.toList==nm.toList)=false:=ze3 he
    have HE:=Lib.hid he
    clear he
    go_wp2_with fail
    go_roundw
    case rel=>exact⟨k+1,by omega,by go_num,hxr,fun j hj hj'=>by
     by_cases hjk:j=k
     ·subst hjk;exact HE.out
     ·exact HNE.out j (by omega) hj'⟩
    case measure=>simp[intOf];omega
  ·have hkl':¬(k:Int)<files.length:=by omega
   have HI:=Lib.hid (show zng files nm=-1 by unfold zng;rw[zuu (fun j hj=>HNE.out j (by omega) hj)])
   go_wp2_with fail
   go_ret
   exact⟨zm HI.out.symm,hxr⟩
theorem zwp {e B:Nat}{Q:Nat→Prop}{v:Value}{l:List Nat}(h:PRow 1 e B Q w v (zko l)){j:Nat}(hj:j<l.length):∃g cap,v=.slice (some ⟨g,0,none⟩) l.length cap∧w.cell? ⟨g,j,none⟩=some (.int .i64 (l[j]:Nat))∧-9223372036854775808≤(l[j]:Int):=by
 obtain⟨g,cap,cs,rfl,-,-,-,h1,h2,h3⟩:=h.at (j:=j) (by rw[zej];exact hj)
 refine⟨g,cap,by rw[zej],?_,by omega⟩
 have hd:(zko l)[j]'(by rw[zej];exact hj)=[Dat.int ((l[j]:Nat):Int)]:=by simp[zko]
 rw[hd]at h1
 match cs,h1.2,h2 with
 |[c],h4,_ =>
  have h5:=h3 0 c rfl
  rw[Nat.mul_one,Nat.add_zero]at h5
  rw[h5,h4.1.1]
theorem zuw (hn:opn.length≤1073741824) (h:LSt lb P w files opn all cnt vo va) (n:Nat) :
  Calls Tryz.prog 159 #[.pointer (some ⟨lb,0,none⟩),.int .i64 n] w fun e w'=>e=.returned (.bool (decide (n∈opn)))∧Ext w w':=by
 obtain⟨⟨a,c,rfl,hc⟩,-⟩:=h.form
 obtain⟨fa,fc,h1,-,-,h4,-⟩:=h
 obtain⟨c1,-⟩:=h1 1 _ rfl
 have hlt:=h1.lt
 clear h1
 have HF:=Lib.hid h4
 clear h4
 go_enter Tryz.func159,Tryz.ntmps159
 go_wp2_with fail
 go_loopw [5] (fun i wr=>∃k:Nat,k≤opn.length∧i=.int .i64 k∧Ext w wr∧∀j (hj:j<k) (hj':j<opn.length),opn[j]≠n) (fun i _=>opn.length-(intOf i).toNat)
 case atStart=>exact⟨0,Nat.zero_le _,rfl,Below.refl _ _,fun j hj=>by omega⟩
 case round =>
  obtain⟨k,hkk,rfl,hxr,hne⟩:=hrel
  have HNE:=Lib.hid hne
  clear hne
  replace c1:=hxr.cell c1
  have hlt':=zf c1
  by_cases hkl:k<opn.length
  ·have hkl':(k:Int)<opn.length:=by omega
   obtain⟨b,cap,hv,t1,-⟩:=zwp (PRow.ext HF.out hxr) hkl
   injection hv with hv1 _ hv2
   subst hv1
   by_cases he:opn[k]=n
   ·have q1:((opn[k]:Int)==(n:Nat))=true:=by rw[beq_iff_eq];omega
    have HI:=Lib.hid (show decide (n∈opn)=true from decide_eq_true (by rw[←he];exact List.getElem_mem _))
    clear he
    go_wp2_with fail
    go_ret
    exact⟨ze HI.out.symm,hxr⟩
   ·have q1:((opn[k]:Int)==(n:Nat))=false:=by rw[beq_eq_false_iff_ne];omega
    have HE:=Lib.hid he
    clear he
    go_wp2_with fail
    go_roundw
    case rel=>exact⟨k+1,by omega,by go_num,hxr,fun j hj hj'=>by
     by_cases hjk:j=k
     ·subst hjk;exact HE.out
     ·exact HNE.out j (by omega) hj'⟩
    case measure=>simp[intOf];omega
  ·have hkl':¬(k:Int)<opn.length:=by omega
   have HI:=Lib.hid (show decide (n∈opn)=false from decide_eq_false (fun hm=>by
    obtain⟨j,hj,he⟩:=List.getElem_of_mem hm
    exact HNE.out j (by omega) hj he))
   go_wp2_with fail
   go_ret
   exact⟨ze HI.out.symm,hxr⟩
end
end Go.Proofs.YtnclgkdpafhogaaGreat
