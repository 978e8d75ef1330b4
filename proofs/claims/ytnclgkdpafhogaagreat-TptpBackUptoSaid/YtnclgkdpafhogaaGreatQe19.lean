/- What a reading of tokens from one of them on says. No condition.
What a text read as a formula gives. No condition.
Plain: which entries may be, and how problems are read. No condition.
The reference's Reader: Term with arguments. Condition: a row of at most 2^30 tokens, not empty.
Rows whose cells are copied; the reference's of. Condition: a row of at most 2^30.
Rows of the call's own whose elements' further cells lie in blocks of a kind; a whole row appended. Condition: at most 8388608 elements.
The reference's literal and Literals. Condition: a row of at most 2^23 arguments.
slices.Clone over texts, formula.Copy. Condition: at most 4194304 parts.
Which texts are roles, of the program and of the reference. No condition. -/
import Derived.Test.YtnclgkdpafhogaaGreatQe14
import Derived.Test.YtnclgkdpafhogaaGreatQe8
import Derived.Test.YtnclgkdpafhogaaGreatQe3
import Derived.Test.YtnclgkdpafhogaaGreatQe11
import Derived.Test.YtnclgkdpafhogaaGreatQe17
import Derived.Deep.RegionLaw
import Derived.Deep.LoopGhost
import Derived.Deep.Light
import Derived.Test.YtnclgkdpafhogaaGreatQe18
import Derived.Laws.OwnMore
import Derived.Deep.AppendLies
import Derived.Test.YtnclgkdpafhogaaGreatQe12
set_option maxHeartbeats 16000000
set_option maxRecDepth 100000
namespace Go.Proofs.YtnclgkdpafhogaaGreat
open Go.ChangeShapes Go.WideShapes Go.ChangeAt Go.RowKit
def Fm.zero:Fm:=.mk 0 [] [] []
def zbo (l:List Tok) (from':Int):Fm×Int×Int :=
 if from'<0∨(l.length:Int)≤from' then (Fm.zero,0,230)
 else match zex (l.drop from'.toNat) with
  |.bad r=>(Fm.zero,(zck l r:Nat),230)
  |.ok f r=>if f.check≠0 then (Fm.zero,from',f.check)else (f,(l.length-r.length:Nat),0)
def ReadSays (r:Fm×Int×Int) (w:World) (e:Ending) (w':World):Prop :=
 (∃v,e=.returned (.tuple #[v,.int .i64 r.2.1,.int .i64 r.2.2])∧zc7 (fun g=>w.heap.size≤g) w' v r.1)∧Ext w w'
theorem zru {P:Nat→Prop}{w:World}:IsFm P w (.int .i64 0) (.slice none 0 0) (.slice none 0 0) (.slice none 0 0) Fm.zero :=
 IsFm.mk' (v:=[]) (t:=[]) (l:=[]) (by decide) (by decide) (Nat.le_refl _) (Nat.le_refl _) (Nat.le_refl _) zo3 zo2 zg3
theorem ReadSays.mk {r:Fm×Int×Int}{w w':World}{v:Value}{e:Ending}(h1:e=.returned (.tuple #[v,.int .i64 r.2.1,.int .i64 r.2.2])) (h2:zc7 (fun g=>w.heap.size≤g) w' v r.1) (h3:Ext w w'):ReadSays r w e w':=⟨⟨v,h1,h2⟩,h3⟩
theorem zyy {l:List Tok}{n:Nat}:l.drop n <:+ l:=List.drop_suffix n l
def zt9 (l:List Tok) (i:Int):Tok:=(l[i.toNat]?).getD ⟨7,⟨#[]⟩,0⟩
theorem zyz {l:List Tok}{i:Int}(h0:0≤i) (h:i<l.length):zt9 l i=l[i.toNat]'(by omega):=by
 unfold zt9;rw[List.getElem?_eq_getElem (by omega)];rfl
theorem zfe {s:ByteArray}(h:(cutS s).2.2=0):Ends (cutS s).1:=by
 unfold cutS at h ⊢
 split at h
 ·cases h
 ·rename_i hl
  rw[if_neg hl]
  unfold zfa at h ⊢
  split at h
  ·rename_i h0;rw[if_pos h0];exact zjd (Nat.zero_le _) h0
  ·rename_i h0;exact absurd h h0
theorem zs3 (s:ByteArray):(cutS s).1.length≤8001:=by
 unfold cutS
 split
 ·simp
 ·rename_i hl
  unfold zfa
  split
  ·have:=zkn (s:=s) (Nat.zero_le _);simp only;omega
  ·simp
theorem Ends.pos {l:List Tok}(h:Ends l):0<l.length:=by obtain⟨p,t,rfl,-⟩:=h;simp
structure Ent where
 cnf:Bool
 name:ByteArray
 role:ByteArray
 form:Fm
def Ent.dat (x:Ent):List Dat:=Dat.bool x.cnf::Dat.str x.name::Dat.str x.role::x.form.dat
def zjh:ByteArray:=⟨#[97,120,105,111,109]⟩
def zpr:ByteArray:=⟨#[104,121,112,111,116,104,101,115,105,115]⟩
def zps:ByteArray:=⟨#[100,101,102,105,110,105,116,105,111,110]⟩
def zpt:ByteArray:=⟨#[97,115,115,117,109,112,116,105,111,110]⟩
def zji:ByteArray:=⟨#[108,101,109,109,97]⟩
def zpu:ByteArray:=⟨#[116,104,101,111,114,101,109]⟩
def zpv:ByteArray:=⟨#[99,111,114,111,108,108,97,114,121]⟩
def zjj:ByteArray:=⟨#[112,108,97,105,110]⟩
def zer:ByteArray:=⟨#[99,111,110,106,101,99,116,117,114,101]⟩
def zpw:ByteArray:=⟨#[110,101,103,97,116,101,100,95,99,111,110,106,101,99,116,117,114,101]⟩
def zj4:List ByteArray:=[zjh,zpr,zps,zpt,zji,zpu,zpv,zjj,zer,zpw]
def zbl (s:ByteArray):Bool:=zj4.any fun r=>decide (s=r)
def zbx (cnf:Bool) (s:ByteArray):Bool:=zbl s&&!(cnf&&decide (s=zer))
def Fm.lits (f:Fm):Option (List Fm):=if f.lit then some [f]else if f.op=7∧f.args.all Fm.lit=true then some f.args else none
def zax (cnf:Bool) (f:Fm):Int:=if cnf then (if f.lits.isSome then 0 else 243)else if f.freeS=[]then 0 else 242
def Ent.check (x:Ent):Int:=if named x.name=false then 2 else if zbx x.cnf x.role=false then 241 else if x.form.check≠0 then x.form.check else zax x.cnf x.form
structure Flt where
 file:Int
 at':Int
 e:Int
inductive Out (α:Type) where
 |ok (x:α)
 |flt (t:Flt)
def Out.bind {α β:Type}(x:Out α) (g:α→Out β):Out β:=match x with
 |.ok x=>g x
 |.flt t=>.flt t
@[simp] theorem Out.bind_ok {α β : Type} (x : α) (g : α → Out β) : Out.bind (.ok x) g = g x := rfl
@[simp] theorem Out.bind_flt {α β : Type} (t : Flt) (g : α → Out β) : Out.bind (.flt t) g = .flt t := rfl
def ze0 (l:List Tok) (file:Int) (ks:List Tok):Flt:=⟨file,(zgb l (zck l ks)).at',240⟩
def Rd.out {α β:Type}(x:Rd α) (l:List Tok) (file:Int) (g:α→List Tok→Out β):Out β:=match x with
 |.ok x r=>g x r
 |.bad r=>.flt (ze0 l file r)
@[simp] theorem Rd.out_ok {α β : Type} (x : α) (r l : List Tok) (file : Int) (g : α → List Tok → Out β) : Rd.out (.ok x r) l file g = g x r := rfl
@[simp] theorem Rd.out_bad {α β : Type} (r l : List Tok) (file : Int) (g : α → List Tok → Out β) : Rd.out (.bad r) l file g = .flt (ze0 l file r) := rfl
def zes:List Tok→Rd ByteArray
 |[]=>.bad []
 |t::ks=>if t.named || decide (t.kind=5)then .ok t.text ks else .bad (t::ks)
theorem zc2 (t:Tok) (ks:List Tok):zes (t::ks)=if t.named || decide (t.kind=5)then .ok t.text ks else .bad (t::ks):=rfl
def zbc (ks:List Tok):Rd (ByteArray×Int):=(zes ks).map fun s=>(s,(zt ks).at')
def sDot:ByteArray:=⟨#[46]⟩
def sFof:ByteArray:=⟨#[102,111,102]⟩
def sCnf:ByteArray:=⟨#[99,110,102]⟩
def zn4:ByteArray:=⟨#[105,110,99,108,117,100,101]⟩
def zat (ks:List Tok):Rd (ByteArray×ByteArray×Int) :=
 (zw zbp ks).bind fun _ r1=>(zes r1).bind fun nm r2=>(zw zj r2).bind fun _ r3=>(za5 1 r3).bind fun role r4=>(zw zj r4).map fun _=>(nm,role,(zt r3).at')
def zcz (ks:List Tok):Rd Unit:=(zw zcx ks).bind fun _ r=>zw sDot r
def entR (l:List Tok) (file:Int) (cnf:Bool) (fr:Int) (n:Nat) (ks:List Tok):Out (Ent×List Tok) :=
 (zat ks).out l file fun h r =>
  if zbx cnf h.2.1=false then .flt ⟨file,h.2.2,241⟩
  else if (zbo l (l.length-r.length:Nat)).2.2≠0 then .flt ⟨file,(zt9 l (zbo l (l.length-r.length:Nat)).2.1).at',(zbo l (l.length-r.length:Nat)).2.2⟩
  else (zcz (l.drop (zbo l (l.length-r.length:Nat)).2.1.toNat)).out l file fun _ r' =>
   if zax cnf (zbo l (l.length-r.length:Nat)).1≠0 then .flt ⟨file,fr,zax cnf (zbo l (l.length-r.length:Nat)).1⟩
   else if 200≤n then .flt ⟨file,fr,3⟩
   else .ok (⟨cnf,h.1,h.2.1,(zbo l (l.length-r.length:Nat)).1⟩,r')
def zai (ks:List Tok):Rd (Option (List (ByteArray×Int))):=match zx zj ks with
 |none=>.ok none ks
 |some r1=>(zw ziu r1).bind fun _ r2=>(rowR zbc zj r2).bind fun ns r3=>(zw zln r3).map fun _=>some ns
def zau (ks:List Tok):Rd (ByteArray×Int×Option (List (ByteArray×Int))) :=
 (zw zbp ks).bind fun _ r1=>(za5 4 r1).bind fun fn r2=>(zai r2).bind fun ns r3=>(zw zcx r3).bind fun _ r4=>(zw sDot r4).map fun _=>(fn,(zt r1).at',ns)
def zn5 (files:List (ByteArray×ByteArray)) (nm:ByteArray):Option Nat:=files.findIdx? fun f=>decide (f.1=nm)
def zhi (file:Int) (ns:Option (List (ByteArray×Int))) (l:List Ent):Out (List Ent):=match ns with
 |none=>.ok l
 |some ns=>match ns.find? fun p=>!(l.any fun x=>decide (x.name=p.1)) with
  |some p=>.flt ⟨file,p.2,244⟩
  |none=>.ok (l.filter fun x=>ns.any fun p=>decide (p.1=x.name))
def incR (rd:Nat→Nat→Nat→Out (List Ent×Nat)) (files:List (ByteArray×ByteArray)) (opn:Nat→Bool) (l:List Tok) (file:Int) (n cnt:Nat) (ks:List Tok):Out ((List Ent×Nat)×List Tok) :=
 (zau ks).out l file fun h r =>
  if 200<cnt+1 then .flt ⟨file,h.2.1,3⟩
  else match zn5 files h.1 with
   |none=>.flt ⟨file,h.2.1,244⟩
   |some i=>if opn i then .flt ⟨file,h.2.1,245⟩
    else (rd i n (cnt+1)).bind fun x=>(zhi file h.2.2 x.1).bind fun l'=>.ok ((l',x.2),r)
def zap (rd:Nat→Nat→Nat→Out (List Ent×Nat)) (files:List (ByteArray×ByteArray)) (opn:Nat→Bool) (l:List Tok) (file:Int) (ahead:Nat):Nat→List Tok→List Ent→Nat→Out (List Ent×Nat)
 |0,_,_,_=>.flt ⟨0,0,0⟩
 |f+1,ks,out,cnt =>
  if (zt ks).kind=7 then .ok (out,cnt)
  else if (zt ks).kind=1∧((zt ks).text=sFof∨(zt ks).text=sCnf) then
   (entR l file (decide ((zt ks).text=sCnf)) (zt ks).at' (ahead+out.length) ks.tail).bind fun x=>zap rd files opn l file ahead f x.2 (out++[x.1]) cnt
  else if (zt ks).kind=1∧(zt ks).text=zn4 then
   (incR rd files opn l file (ahead+out.length) cnt ks.tail).bind fun x=>zap rd files opn l file ahead f x.2 (out++x.1.1) x.1.2
  else .flt (ze0 l file ks)
def ze1 (files:List (ByteArray×ByteArray)) (i:Nat):ByteArray:=(files[i]?.map Prod.snd).getD ⟨#[]⟩
def zb8 (files:List (ByteArray×ByteArray)):Nat→(Nat→Bool)→Int→ByteArray→Nat→Nat→Out (List Ent×Nat)
 |0,_,_,_,_,_=>.flt ⟨0,0,0⟩
 |d+1,opn,file,s,ahead,cnt =>
  if (cutS s).2.2≠0 then .flt ⟨file,((cutS s).2.1:Nat),(cutS s).2.2⟩
  else zap (fun i n c=>zb8 files d (fun k=>decide (k=i) || opn k) i (ze1 files i) n c) files opn (cutS s).1 file ahead ((cutS s).1.length+1) (cutS s).1 [] cnt
def zcw (files:List (ByteArray×ByteArray)) (s:ByteArray):Out (List Ent):=(zb8 files (files.length+1) (fun _=>false) (-1) s 0 0).bind fun x=>.ok x.1
theorem zhj (ks:List Tok):(zes ks).rest <:+ ks:=by
 cases ks with
 |nil=>exact List.suffix_refl _
 |cons t ks =>
  rw[zc2]
  split
  ·exact List.suffix_cons _ _
  ·exact List.suffix_refl _
theorem zn6 {ks r:List Tok}{x:ByteArray}(h:zes ks=.ok x r):r.length+1=ks.length:=by
 cases ks with
 |nil=>cases h
 |cons t ks =>
  rw[zc2]at h
  split at h
  ·injection h with _ h;subst h;rfl
  ·cases h
theorem zm3:Pres zes:=fun ks x r he h=>by
 cases ks with
 |nil=>cases h
 |cons t ks =>
  rw[zc2]at h
  split at h
  ·rename_i ht
   injection h with _ h;subst h
   refine he.tail fun h7=>?_
   rw[Bool.or_eq_true,decide_eq_true_eq]at ht
   rcases ht with ht|ht
   ·exact zmx ht h7
   ·rw[ht]at h7;cases h7
  ·cases h
theorem zua (ks:List Tok):(zbc ks).rest <:+ ks:=zby (zhj ks)
theorem zed (n:Nat):zbh zbc n:=fun ks x r _ h=>by
 obtain⟨z,h1,-⟩:=map_ok h
 have:=zn6 h1
 omega
theorem zrv:Pres zbc:=fun ks x r he h=>by
 obtain⟨z,h1,-⟩:=map_ok h
 exact zm3 _ _ _ he h1
theorem zgu (ks:List Tok):(zat ks).rest <:+ ks :=
 zz (z7 _ _) fun _ _ _=>zz (zhj _) fun _ _ _=>zz (z7 _ _) fun _ _ _=>zz (zfp _ _) fun _ _ _=>zby (z7 _ _)
theorem zub (ks:List Tok):(zcz ks).rest <:+ ks:=zz (z7 _ _) fun _ _ _=>z7 _ _
theorem zhk {α β:Type}{one:List Tok→Rd α}{g:α→List Tok→Rd β}(h1:Pres one) (h2:∀x,Pres (g x)):Pres fun ks=>(one ks).bind g:=fun ks x r he h=>by
 obtain⟨z,r',h3,h4⟩:=bind_ok h
 exact h2 z r' x r (h1 _ _ _ he h3) h4
theorem zjk:Pres zat :=
 zhk (zas _) fun _=>zhk zm3 fun _=>zhk (zas _) fun _ ks x r he h=>by
  obtain⟨z,r',h3,h4⟩:=bind_ok h
  obtain⟨y,h5,-⟩:=map_ok h4
  exact zas _ _ _ _ (zik (by decide) _ _ _ he h3) h5
theorem zrw:Pres zcz:=zhk (zas _) fun _=>zas _
theorem zjl (ks:List Tok):(zai ks).rest <:+ ks:=by
 unfold zai
 cases h:zx zj ks with
 |none=>exact List.suffix_refl _
 |some r=>exact List.IsSuffix.trans (zz (z7 _ _) fun _ _ _=>zz (zoo zua _) fun _ _ _=>zby (z7 _ _)) (zbm h)
theorem zn7:Pres zai:=fun ks x r he h=>by
 unfold zai at h
 cases ht:zx zj ks with
 |none=>rw[ht]at h;injection h with _ h;subst h;exact he
 |some r1 =>
  rw[ht]at h
  simp only at h
  obtain⟨_,r2,h1,h⟩:=bind_ok h
  obtain⟨_,r3,h2,h⟩:=bind_ok h
  obtain⟨_,h3,-⟩:=map_ok h
  exact zas _ _ _ _ (zkj zrv _ _ _ (zas _ _ _ _ (zbn he ht) h1) h2) h3
theorem zrx (ks:List Tok):(zau ks).rest <:+ ks :=
 zz (z7 _ _) fun _ _ _=>zz (zfp _ _) fun _ _ _=>zz (zjl _) fun _ _ _=>zz (z7 _ _) fun _ _ _=>zby (z7 _ _)
theorem zpx:Pres zau:=fun ks x r he h=>by
 obtain⟨_,r1,h1,h⟩:=bind_ok h
 obtain⟨_,r2,h2,h⟩:=bind_ok h
 obtain⟨_,r3,h3,h⟩:=bind_ok h
 obtain⟨_,r4,h4,h⟩:=bind_ok h
 obtain⟨_,h5,-⟩:=map_ok h
 exact zas _ _ _ _ (zas _ _ _ _ (zn7 _ _ _ (zik (by decide) _ _ _ (zas _ _ _ _ he h1) h2) h3) h4) h5
theorem zeh {α:Type}{x:Rd α}{y:α}{r ks:List Tok}(h:x.rest <:+ ks) (e:x=.ok y r):r <:+ ks:=by rw[e]at h;exact h
theorem zff {s:ByteArray}{ks r:List Tok}{u:Unit}(h:zw s ks=.ok u r):r.length<ks.length:=by have:=za7 h;omega
theorem zuc {ks r:List Tok}{x}(h:zat ks=.ok x r):r.length<ks.length:=by
 obtain⟨_,r1,h1,h2⟩:=bind_ok h
 have:=zff h1
 have:=(zeh (zz (zhj r1) fun _ _ _=>zz (z7 _ _) fun _ _ _=>zz (zfp _ _) fun _ _ _=>zby (z7 _ _)) h2).length_le
 omega
theorem zv7 {ks r:List Tok}{x}(h:zcz ks=.ok x r):r.length<ks.length:=by
 obtain⟨_,r1,h1,h2⟩:=bind_ok h
 have:=zff h1
 have:=zff h2
 omega
theorem zud {ks r:List Tok}{x}(h:zau ks=.ok x r):r.length<ks.length:=by
 obtain⟨_,r1,h1,h2⟩:=bind_ok h
 have:=zff h1
 have:=(zeh (zz (zfp _ r1) fun _ _ _=>zz (zjl _) fun _ _ _=>zz (z7 _ _) fun _ _ _=>zby (z7 _ _)) h2).length_le
 omega
theorem zs4 {l r:List Tok}(he:Ends l) (hr:r <:+ l) (her:Ends r):0≤(zbo l (l.length-r.length:Nat)).2.1∧(zbo l (l.length-r.length:Nat)).2.1<l.length ∧
  ((zbo l (l.length-r.length:Nat)).2.2=0→l.drop (zbo l (l.length-r.length:Nat)).2.1.toNat <:+ r∧(l.drop (zbo l (l.length-r.length:Nat)).2.1.toNat).length<r.length∧Ends (l.drop (zbo l (l.length-r.length:Nat)).2.1.toNat)):=by
 have hp:=he.pos
 have hrp:=her.pos
 have hle:=hr.length_le
 have hd:l.drop (l.length-r.length)=r:=(List.suffix_iff_eq_drop.1 hr).symm
 unfold zbo
 rw[if_neg (by omega),Int.toNat_natCast,hd]
 cases hf:zex r with
 |bad k=>simp only;exact⟨by omega,by have:zck l k≤l.length-1:=Nat.min_le_right _ _;omega,fun h=>by cases h⟩
 |ok f k =>
  have hk:=zt5 _ _ _ her hf
  have hkp:=hk.pos
  have hlt:=zzr hf
  have hks:=zeh (zqj r) hf
  simp only
  split
  ·rename_i hc;simp only;exact⟨by omega,by omega,fun h=>absurd h hc⟩
  ·simp only[Int.toNat_natCast]
   have hd2:l.drop (l.length-k.length)=k:=(List.suffix_iff_eq_drop.1 (hks.trans hr)).symm
   rw[hd2]
   exact⟨by omega,by omega,fun _=>⟨hks,hlt,hk⟩⟩
theorem zgv {l:List Tok}{file:Int}{cnf:Bool}{fr:Int}{n:Nat}{ks r:List Tok}{x:Ent}(he:Ends l) (hk:ks <:+ l) (hke:Ends ks) (h:entR l file cnf fr n ks=.ok (x,r)):r <:+ ks∧r.length<ks.length∧Ends r∧n<200:=by
 unfold entR at h
 cases hh:zat ks with
 |bad r1=>rw[hh]at h;cases h
 |ok y r1 =>
  rw[hh,Rd.out_ok]at h
  have hs1:=zeh (zgu ks) hh
  have hl1:=zuc hh
  have he1:=zjk _ _ _ hke hh
  obtain⟨-,-,ha⟩:=zs4 he (hs1.trans hk) he1
  split at h
  ·cases h
  ·split at h
   ·cases h
   ·rename_i h0
    obtain⟨a1,a2,a3⟩:=ha (Decidable.not_not.1 h0)
    cases hE:zcz (l.drop (zbo l (l.length-r1.length:Nat)).2.1.toNat) with
    |bad r2=>rw[hE]at h;cases h
    |ok y2 r2 =>
     rw[hE,Rd.out_ok]at h
     split at h
     ·cases h
     ·split at h
      ·cases h
      ·injection h with h
       injection h with _ h
       subst h
       have hs2:=zeh (zub _) hE
       have:=zv7 hE
       exact⟨(hs2.trans a1).trans hs1,by omega,zrw _ _ _ a3 hE,by omega⟩
theorem Out.bind_eq_ok {α β:Type}{x:Out α}{g:α→Out β}{y:β}(h:x.bind g=.ok y):∃z,x=.ok z∧g z=.ok y:=by
 cases x with
 |ok z=>exact⟨z,rfl,h⟩
 |flt t=>cases h
theorem zn8 {rd:Nat→Nat→Nat→Out (List Ent×Nat)}{files:List (ByteArray×ByteArray)}{opn:Nat→Bool}{l:List Tok}{file:Int}{n cnt:Nat}{ks r:List Tok}{x:List Ent×Nat}(hke:Ends ks) (h:incR rd files opn l file n cnt ks=.ok (x,r)):r <:+ ks∧r.length<ks.length∧Ends r:=by
 unfold incR at h
 cases hh:zau ks with
 |bad r1=>rw[hh]at h;cases h
 |ok y r1 =>
  rw[hh,Rd.out_ok]at h
  split at h
  ·cases h
  ·split at h
   ·cases h
   ·split at h
    ·cases h
    ·obtain⟨z,-,h⟩:=Out.bind_eq_ok h
     obtain⟨z2,-,h⟩:=Out.bind_eq_ok h
     injection h with h
     injection h with _ h
     subst h
     exact⟨zeh (zrx ks) hh,zud hh,zpx _ _ _ hke hh⟩
theorem RSt.append {α:Type}{E:Elt α}{e B rb:Nat}{l:List Tok}{w w1 w2:World}{st:Rd Unit}{v:Value}{m:List α}(h:RSt rb l w1 st) (hr:GRow E e B w v m) (hB:rb<B) (hg:w1.grownBy w2 v.ownBlock):RSt rb l w2 st:=by
 cases ho:v.ownBlock with
 |none =>
  rw[ho]at hg
  exact h.chg (S:=[]) (Chg.of_grown hg (by simp)) (by simp)
 |some g =>
  rw[ho]at hg
  have:=(hr.own_ge ho).1
  exact h.chg (S:=[g]) (Chg.of_grown hg (by simp)) (by simp;omega)
theorem zs5 (b o j:Nat):(⟨b,o,none⟩:Addr).add j=⟨b,o+j,none⟩:=by unfold Addr.add;split<;>simp_all
theorem Dat.Rows.cells {P:Nat→Prop}{w:World}{m:Nat}:∀ {L:List (List Dat)}{b o:Nat},Dat.Rows P w (some ⟨b,o,none⟩) L→(∀e∈L,e.length=m) →
  ∃css:List (List Value),css.length=L.length∧(∀j (h:j<css.length) (h':j<L.length),Dat.Fs P w css[j] L[j])∧(∀c∈css,c.length=m)∧∀j u,css.flatten[j]?=some u→w.cell? ⟨b,o+j,none⟩=some u
 |[],_,_,_,_=>⟨[],rfl,fun j h=>by simp at h,by simp,fun j u h=>by simp at h⟩
 |e::L,b,o,h,hm=>by
  obtain⟨b',o',vs,h1,-,-,h2,h3,h4⟩:=h
  injection h1 with h1
  injection h1 with e1 e2 _
  subst e1;subst e2
  have he:=hm e (by simp)
  obtain⟨css,g1,g2,g3,g4⟩:=Dat.Rows.cells h4 (fun x hx=>hm x (by simp[hx]))
  have hv:vs.length=m:=by rw[h3.length,he]
  refine⟨vs::css,by simp[g1],fun j hj hj'=>?_,fun c hc=>?_,fun j u hu=>?_⟩
  ·cases j with
   |zero=>exact h3
   |succ j=>exact g2 j (by simpa using hj) (by simpa using hj')
  ·rcases List.mem_cons.1 hc with rfl|hc
   ·exact hv
   ·exact g3 c hc
  ·rw[List.flatten_cons]at hu
   rcases Nat.lt_or_ge j vs.length with hj|hj
   ·rw[List.getElem?_append_left hj]at hu;exact h2 j u hu
   ·rw[List.getElem?_append_right hj]at hu
    have:=g4 _ _ hu
    rw[he,show o+m+(j-vs.length)=o+j by omega]at this
    exact this
theorem Dat.Fs.flat_one {P:Nat→Prop}{w:World}{L:List (List Dat)}{css:List (List Value)}(hc:css.length=L.length) (hf:∀j (h:j<css.length) (h':j<L.length),Dat.Fs P w css[j] L[j]):∀u∈css.flatten,u.oneCell'=true:=by
 intro u hu
 obtain⟨c,hc1,hu⟩:=List.mem_flatten.1 hu
 obtain⟨j,hj,rfl⟩:=List.getElem_of_mem hc1
 exact(hf j hj (by omega)).one u hu
theorem zy0 {css:List (List Value)}{m:Nat}(hl:∀c∈css,c.length=m):css.flatten.length=css.length * m:=by
 induction css with
 |nil=>simp
 |cons c css ih =>
  rw[List.flatten_cons,List.length_append,hl c (by simp),ih (fun x hx=>hl x (by simp[hx])),List.length_cons,Nat.add_mul];omega
def PRow (m:Nat) (e:TypeId) (B:Nat) (P:Nat→Prop) (w:World) (v:Value) (l:List (List Dat)):Prop :=
 ∃cs:List (List Value),cs.length=l.length∧w.ownsRow B e m v l.length cs.flatten∧∀j (h:j<l.length) (h':j<cs.length),(z6 m).is (fun b=>P b∧v.ownBlock≠some b) w cs[j] l[j]
section
variable {m e B:Nat}{P Q:Nat→Prop}{w w':World}{v:Value}{l M:List (List Dat)}
theorem PRow.of_grow (h:GRow (z6 m) e B w v l):PRow m e B (fun b=>B≤b) w v l:=h
theorem PRow.grow (h:PRow m e B P w v l) (hP:∀b,P b→B≤b):GRow (z6 m) e B w v l:=by
 obtain⟨cs,h1,h2,h3⟩:=h
 exact⟨cs,h1,h2,fun j h h'=>⟨(h3 j h h').1,(h3 j h h').2.mono fun b hb _=>⟨hP b hb.1,hb.2⟩⟩⟩
theorem PRow.nil:PRow m e B P w (.slice none 0 0) []:=⟨[],rfl,World.ownsRow_nil _ _ _ _,fun j h=>by simp at h⟩
theorem PRow.own_ge (h:PRow m e B P w v l){g:Nat}(hg:v.ownBlock=some g):B≤g∧g<w.heap.size:=by
 obtain⟨cs,-,h2,-⟩:=h
 exact zqf h2 hg
theorem PRow.mono (h:PRow m e B P w v l) (hQ:∀b,P b→b<w.heap.size→Q b):PRow m e B Q w v l:=by
 obtain⟨cs,h1,h2,h3⟩:=h
 exact⟨cs,h1,h2,fun j h h'=>⟨(h3 j h h').1,(h3 j h h').2.mono fun b hb hl=>⟨hQ b hb.1 hl,hb.2⟩⟩⟩
theorem PRow.chg {S:List Nat}(h:PRow m e B P w v l) (hx:Chg S w w') (hS:∀i∈S,v.ownBlock≠some i∧(P i→v.ownBlock=some i)):PRow m e B P w' v l:=by
 obtain⟨cs,h1,h2,h3⟩:=h
 exact⟨cs,h1,zdr h2 (fun g hg hl=>hx.block g hl (fun hm=>(hS g hm).1 hg)),fun j h h'=>⟨(h3 j h h').1,(h3 j h h').2.chg hx fun b hb hm=>hb.2 ((hS b hm).2 hb.1)⟩⟩
theorem PRow.ext (h:PRow m e B P w v l) (hx:Ext w w'):PRow m e B P w' v l:=h.chg (Chg.of_ext (S:=[]) hx) (by simp)
theorem PRow.form (h:PRow m e B P w v l):∃a c,v=.slice a l.length c∧l.length≤c:=by
 obtain⟨cs,-,⟨-,h2⟩,-⟩:=h
 rcases h2 with ⟨h2,h3⟩|⟨g,cap,cur,h2,-,-,h4,-⟩
 ·exact⟨none,0,by rw[h3];exact h2,by omega⟩
 ·exact⟨_,_,h2,h4⟩
theorem PRow.at (h:PRow m e B P w v l){j:Nat}(hj:j<l.length):∃g cap cs,v=.slice (some ⟨g,0,none⟩) l.length cap∧B≤g∧g<w.heap.size∧l.length≤cap∧(z6 m).is (fun b=>P b∧v.ownBlock≠some b) w cs l[j]∧cs.length=m∧∀i u,cs[i]?=some u→w.cell? ⟨g,j * m+i,none⟩=some u:=by
 obtain⟨a0,c0,hv0,hc0⟩:=h.form
 obtain⟨cs,h1,h2,h3⟩:=h
 obtain⟨g,cap,rfl,hb,hlt⟩:=h2.form (by omega)
 injection hv0 with _ _ hcc
 subst hcc
 refine⟨g,cap,cs[j],rfl,hb,hlt,hc0,h3 j hj (by omega),(h3 j hj (by omega)).1,fun i u hu=>?_⟩
 have hlen:∀c∈cs,c.length=m:=by
  intro c hc
  obtain⟨k,hk,rfl⟩:=List.getElem_of_mem hc
  exact(h3 k (by omega) hk).1
 have hi:i<m:=by
  have:=hlen cs[j] (List.getElem_mem _)
  rcases Nat.lt_or_ge i cs[j].length with h1|h1
  ·omega
  ·rw[List.getElem?_eq_none h1]at hu;cases hu
 have:=h2.cells (g:=g) rfl (j * m+i) u (by rw[zis cs hlen j (by omega) i hi];exact hu)
 rw[zs5]at this
 simpa using this
theorem PRow.dat (hm:0<m) (h:PRow m e B P w v l):∃a c,v=.slice a l.length c∧l.length≤c∧Dat.Rows (fun b=>P b∨v.ownBlock=some b) w a l:=by
 obtain⟨a,c,rfl,hc⟩:=h.form
 refine⟨a,c,rfl,hc,?_⟩
 rcases Nat.eq_zero_or_pos l.length with h0|h0
 ·have:l=[]:=List.eq_nil_of_length_eq_zero h0
  subst this;trivial
 ·obtain⟨g,cap,cs,hv,hg,-⟩:=h.at h0
  injection hv with e1 _ _
  subst e1
  have hel:∀e∈l,e.length=m:=by
   intro x hx
   obtain⟨i,hi,rfl⟩:=List.getElem_of_mem hx
   obtain⟨_,_,cs,-,-,-,-,h1,h2,-⟩:=h.at hi
   rw[←Dat.Fs.length h1.2];exact h2
  refine Dat.Rows.of_at (.inr rfl) hm hel fun i hi=>?_
  obtain⟨g',cap',cs,hv',-,-,-,h1,h2,h3⟩:=h.at hi
  injection hv' with e1 _ _
  injection e1 with e1;injection e1 with e1 _ _
  subst e1
  exact⟨cs,fun j u hu=>by have:=h3 j u hu;simpa using this,h1.2.mono fun b hb _=>.inl hb.1⟩
theorem PRow.appended {cs css:List (List Value)}{w2:World}{v':Value}(hcl:cs.length=l.length) (hel:∀j (h:j<l.length) (h':j<cs.length),(z6 m).is (fun b=>P b∧v.ownBlock≠some b) w cs[j] l[j])
  (hc:css.length=M.length) (hf:∀j (h:j<css.length) (h':j<M.length),Dat.Fs Q w css[j] M[j]) (hl:∀c∈css,c.length=m) (hQ:∀b,Q b→b<w.heap.size→P b∧v.ownBlock≠some b)
  (hg:w.grownBy w2 v.ownBlock) (ho:w2.ownsRow B e m v' (l.length+M.length) (cs.flatten++css.flatten)) (hat:v'.ownBlock=v.ownBlock∨v'.ownBlock=some w.heap.size):PRow m e B P w2 v' (l++M):=by
 have hQ':∀b,(P b∧v.ownBlock≠some b)→b<w.heap.size→P b∧v'.ownBlock≠some b:=by
  intro b hb hlt
  refine⟨hb.1,fun h=>?_⟩
  rcases hat with h1|h1
  ·rw[h1]at h;exact hb.2 h
  ·rw[h1]at h;injection h with h;omega
 have hK:∀p u,(P p.block∧v.ownBlock≠some p.block)→w.cell? p=some u→w2.cell? p=some u:=by
  intro p u hp hu
  rw[hg.cell_far p (zf hu) (Ne.symm hp.2)];exact hu
 refine⟨cs++css,by simp[hcl,hc],?_,fun j h h'=>?_⟩
 ·rw[List.flatten_append,List.length_append];exact ho
 ·by_cases hj:j<l.length
  ·rw[List.getElem_append_left hj,List.getElem_append_left (by omega)]
   exact(z6 m).keep hQ' hK (hel j hj (by omega))
  ·have h1:j<l.length+M.length:=by simpa using h
   rw[List.getElem_append_right (by omega),List.getElem_append_right (by omega)]
   have h2:=hf (j-cs.length) (by omega) (by omega)
   simp only[hcl]at h2 ⊢
   exact(z6 m).keep hQ' hK ⟨hl _ (List.getElem_mem _),h2.mono hQ⟩
end
theorem zk2 {m e t B bytes:Nat}{i:TypeInfo}{z:Value}{P Q:Nat→Prop}{w:World}{v:Value}{l M:List (List Dat)}(ht:Tryz.prog.underlying t=some (.slice e)) (hi:Tryz.prog.info? e=some i) (hz:i.zero=some z) (hsize:i.size=m) (hby:i.bytes=bytes) (hzs:z.cells.size=m) (hsz:0<m)
  (hrow:PRow m e B P w v l){b:Option Addr}{c:Nat}(h:Dat.Rows Q w b M) (hM:∀x∈M,x.length=m) (hQ:∀b,Q b→b<w.heap.size→P b∧v.ownBlock≠some b) (hlen:l.length+M.length≤8388608) (hbytes:bytes≤1048576) (hbase:B≤w.heap.size) (ty:TypeId) :
  ∃v' w',(Builtin.append_ #[t,t] ty #[v,.slice b M.length c]).run Tryz.prog w=.ok v' w'∧PRow m e B P w' v' (l++M)∧RFr w v w' v':=by
 have hrow':=hrow
 obtain⟨cs,h1,ho,h3⟩:=hrow
 cases b with
 |none =>
  have hx:M=[]:=by
   cases M with
   |nil=>rfl
   |cons s xs=>obtain⟨_,_,_,he,-⟩:=h;cases he
  subst hx
  refine⟨v,w,?_,by rw[List.append_nil];exact hrow',RFr.refl _ _⟩
  rcases ho.2 with ⟨rfl,h0⟩|⟨g,cap,cur,rfl,_,_,hnc,_⟩
  ·simp[Builtin.append_,run_underlying ht,sizeOf,typeInfo,hi,Builtin.lenOf,Builtin.firstCells]
  ·simp[Builtin.append_,run_underlying ht,sizeOf,typeInfo,hi,Builtin.lenOf,Builtin.firstCells,hnc,storeCells]
 |some a =>
  cases M with
  |nil =>
   obtain⟨v',w',hr,g1,g2,g3,g4⟩:=run_append_own_at w B t ty e i z m bytes ht hi hz hsize hby hzs hsz v l.length cs.flatten ho a 0 c [] (by simp) (by simp) (by simp) (by simp only[maxLen];omega) (by have:=Nat.mul_le_mul (show l.length+0≤8388608 by simp at hlen;omega) hbytes;omega) hbase
   have hgr:w.grownBy w' v.ownBlock:=g2
   refine⟨v',w',hr,?_,⟨Chg.of_grown hgr (fun g hg=>.inl (by simp[hg])),?_⟩⟩
   ·exact PRow.appended (M:=[]) (css:=[]) (Q:=fun _=>False) h1 h3 rfl (fun j hj=>by simp at hj) (by simp) (fun b hb=>hb.elim) hgr (by simpa using g1) g4
   ·rcases g4 with h4|h4
    ·exact .inl h4
    ·exact .inr fun g hg=>by rw[h4]at hg;injection hg with hg;omega
  |cons x xs =>
   obtain⟨b',o',he,-⟩:=Dat.Rows.addr h (by simp)
   injection he with he
   subst he
   obtain⟨css,k1,k2,k3,k4⟩:=Dat.Rows.cells h hM
   obtain⟨v',w',hr,g1,g2,-,g4⟩:=run_append_own_at w B t ty e i z m bytes ht hi hz hsize hby hzs hsz v l.length cs.flatten ho ⟨b',o',none⟩ (x::xs).length c css.flatten (by rw[zy0 k3,k1]) (fun j u hu=>by rw[zs5];exact k4 j u hu) (Dat.Fs.flat_one k1 k2) (by simp only[maxLen];omega) (by have:=Nat.mul_le_mul hlen hbytes;omega) hbase
   refine⟨v',w',hr,PRow.appended h1 h3 k1 k2 k3 hQ g2 g1 g4,⟨Chg.of_grown g2 (fun g hg=>.inl (by simp[hg])),?_⟩⟩
   rcases g4 with h4|h4
   ·exact .inl h4
   ·exact .inr fun g hg=>by rw[h4]at hg;injection hg with hg;omega
theorem zmj {m e t B bytes:Nat}{i:TypeInfo}{z:Value}{P Q:Nat→Prop}{w:World}{v:Value}{l M:List (List Dat)}(ht:Tryz.prog.underlying t=some (.slice e)) (hi:Tryz.prog.info? e=some i) (hz:i.zero=some z) (hsize:i.size=m) (hby:i.bytes=bytes) (hzs:z.cells.size=m) (hsz:0<m) (hbytes:bytes≤1048576)
  {o:Oper}{a:Act}{K:Act→World→Prop}{R:Exit→Act→World→Prop}(s x:Operand)
  (ho:o.op=.call { callee:=.builtin .append,args:=#[s,x],argTypes:=#[t,t] }) (hs:a.eval s=v) (hrow:PRow m e B P w v l){b:Option Addr}{c:Nat}(hx:a.eval x=.slice b M.length c) (h:Dat.Rows Q w b M) (hM:∀x∈M,x.length=m) (hQ:∀b,Q b→b<w.heap.size→P b∧v.ownBlock≠some b)
  (hlen:l.length+M.length≤8388608) (hbase:B≤w.heap.size) (hK:∀v' w',PRow m e B P w' v' (l++M)→RFr w v w' v'→K (a.put o.dst v') w'):o.wp Tryz.prog a w K R:=by
 obtain⟨v',w',hr,h2,h3⟩:=zk2 ht hi hz hsize hby hzs hsz hrow h hM hQ hlen hbytes hbase o.type (c:=c)
 unfold Oper.wp execOp
 simp only[ho,resolve,invoke,builtin,Sem.run_bind,Sem.run_pure,Result.andThen_ok,List.map_toArray,List.map_cons,List.map_nil,hs,hx,hr]
 exact hK v' w' h2 h3
theorem zco {m e t B bytes:Nat}{i:TypeInfo}{z:Value}{P Q:Nat→Prop}{w:World}{v:Value}{l M:List (List Dat)}(ht:Tryz.prog.underlying t=some (.slice e)) (hi:Tryz.prog.info? e=some i) (hz:i.zero=some z) (hsize:i.size=m) (hby:i.bytes=bytes) (hzs:z.cells.size=m) (hsz:0<m) (hbytes:bytes≤1048576)
  {ops:Array Oper}{rest:List Oper}{o:Oper}{a:Act}{R:Exit→Act→World→Prop}(hgd:o.guard=none) (s x:Operand)
  (ho:o.op=.call { callee:=.builtin .append,args:=#[s,x],argTypes:=#[t,t] }) (hs:a.eval s=v) (hrow:PRow m e B P w v l){b:Option Addr}{c:Nat}(hx:a.eval x=.slice b M.length c) (h:Dat.Rows Q w b M) (hM:∀x∈M,x.length=m) (hQ:∀b,Q b→b<w.heap.size→P b∧v.ownBlock≠some b)
  (hlen:l.length+M.length≤8388608) (hbase:B≤w.heap.size) (hK:∀v' w',PRow m e B P w' v' (l++M)→RFr w v w' v'→wpList Tryz.prog ops R rest (a.put o.dst v') w'):wpList Tryz.prog ops R (o::rest) a w :=
 wpList_plain hgd fun _ hK'=>zmj ht hi hz hsize hby hzs hsz hbytes s x ho hs hrow hx h hM hQ hlen hbase fun v' w' h1 h2=>hK' _ _ (hK v' w' h1 h2)
theorem zpy (o:Int):(zg5 o=true∧(o==3)=true)∨(zg5 o=true∧(o==3)=false∧(o==4)=true)∨(zg5 o=true∧(o==3)=false∧(o==4)=false∧(o==1)=true)∨(zg5 o=true∧(o==3)=false∧(o==4)=false∧(o==1)=false∧(o==2)=true)∨(zg5 o=false∧(o==3)=false∧(o==4)=false∧(o==1)=false∧(o==2)=false):=by
 rw[zyk]
 cases (o==3)<;>cases (o==4)<;>cases (o==1)<;>cases (o==2)<;>simp
theorem zgf (f:Fm) (P:Nat→Prop) (w:World) (x y z u:Value) (ht:IsFm P w x y z u f) :
  Calls Tryz.prog 68 #[.agg #[x,y,z,u]] w fun e w'=>e=.returned (.bool f.lit)∧Ext w w':=by
 obtain⟨b1,c1,b2,c2,b3,c3,rfl,rfl,rfl,rfl,-,-,-,-,-,-,-,hls⟩:=ht.form
 obtain⟨o,v,t,l⟩:=f
 simp only[Fm.op,Fm.vars,Fm.terms,Fm.args]at hls ⊢
 obtain⟨W,hW⟩:∃W,W=w.alloc (.cells #[.int .i64 o,.slice b1 v.length c1,.slice b2 t.length c2,.slice b3 l.length c3] 29):=⟨_,rfl⟩
 have hx:Ext w W:=by rw[hW];exact zb _ _
 have hb:Own W w.heap.size [.int .i64 o,.slice b1 v.length c1,.slice b2 t.length c2,.slice b3 l.length c3]:=by rw[hW];exact own4 w _ _ _ _ _
 obtain⟨⟨k0,f0⟩,⟨k1,f1⟩,⟨k2,f2⟩,⟨k3,f3⟩⟩:=hb.cells4
 clear ht
 by_cases h5:o=5∧l.length=1
 ·obtain⟨g,rfl⟩:∃g,l=[g]:=by match l,h5.2 with|[g],_=>exact⟨g,rfl⟩
  obtain⟨rfl,-⟩:=h5
  obtain⟨gb,go',a1,d1,a2,d2,a3,d3,rfl,-,g0,g1,g2,g3,-⟩:=(hls.ext hx).look (i:=0) (by simp)
  simp only[List.getElem_cons_zero,Nat.zero_mul,Nat.add_zero,List.length_cons,List.length_nil,Nat.zero_add]at g0 g1 g2 g3 hW k3 hb ⊢
  have HR:=Lib.hid (show(Fm.mk 5 v t [g]).lit=zg5 g.op by unfold Fm.lit;rw[if_pos ⟨rfl,rfl⟩];rfl)
  have hset:=zbq hb (.int .i64 g.op) (.slice a1 g.vars.length d1) (.slice a2 g.terms.length d2) (.slice a3 g.args.length d3)
  obtain⟨⟨q0,-⟩,⟨q1,-⟩,⟨q2,-⟩,⟨q3,-⟩⟩:=hset.cells4
  clear hset
  have HA:=Lib.hid (zpy g.op)
  rcases HA.out with ⟨e0,e1⟩|⟨e0,e1,e2⟩|⟨e0,e1,e2,e3⟩|⟨e0,e1,e2,e3,e4⟩|⟨e0,e1,e2,e3,e4⟩
  all_goals
   replace HR:=Lib.hid (HR.out.trans e0)
   clear e0
   go_enter Tryz.func68,Tryz.ntmps68
   go_upto_region 1 with fail
   rw[←hW]
   clear hW
   go_wp2_with fail
   go_ret
   exact⟨ze HR.out.symm,Below.setCell (Below.setCell (Below.setCell (Below.setCell hx (Nat.le_refl _) _) (Nat.le_refl _) _) (Nat.le_refl _) _) (Nat.le_refl _) _⟩
 ·have hcase:(o==5)=false∨((o==5)=true∧((l.length:Int)==1)=false):=by
   by_cases h:o=5
   ·exact .inr ⟨by rw[beq_iff_eq];exact h,by rw[beq_eq_false_iff_ne];exact fun h1=>h5 ⟨h,by omega⟩⟩
   ·exact .inl (by rw[beq_eq_false_iff_ne];exact h)
  have HR:=Lib.hid (show(Fm.mk o v t l).lit=zg5 o from if_neg h5)
  have HA:=Lib.hid (zpy o)
  clear h5
  rcases hcase with d1|⟨d1,d2⟩
  all_goals
   rcases HA.out with ⟨e0,e1⟩|⟨e0,e1,e2⟩|⟨e0,e1,e2,e3⟩|⟨e0,e1,e2,e3,e4⟩|⟨e0,e1,e2,e3,e4⟩
  all_goals
   replace HR:=Lib.hid (HR.out.trans e0)
   clear e0
   go_enter Tryz.func68,Tryz.ntmps68
   go_upto_region 1 with fail
   rw[←hW]
   clear hW
   go_wp2_with fail
   go_ret
   exact⟨ze HR.out.symm,hx⟩
def LitsSay (Q:Nat→Prop) (f:Fm) (w:World) (e:Ending) (w':World):Prop :=
 (∃a c,e=.returned (.tuple #[.slice a (f.lits.getD []).length c,.bool f.lits.isSome])∧(f.lits.getD []).length≤c∧IsFms Q w' a (f.lits.getD []))∧Ext w w'
theorem LitsSay.mk {Q:Nat→Prop}{f:Fm}{w w':World}{e:Ending}{a:Option Addr}{n c:Nat}{b:Bool}{L:List Fm}(hL:f.lits.getD []=L) (hb:f.lits.isSome=b) (he:e=.returned (.tuple #[.slice a n c,.bool b])) (hn:n=L.length) (hc:n≤c) (hr:IsFms Q w' a L) (hx:Ext w w'):LitsSay Q f w e w':=by
 subst hL;subst hb;subst hn
 exact⟨⟨a,c,he,hc,hr⟩,hx⟩
theorem z02 {P Q:Nat→Prop}{w:World}{x y z u:Value}{f:Fm}(h:IsFm P w x y z u f) (hP:∀b,P b→b<w.heap.size→Q b) (hQ:Q w.heap.size):IsFms Q (w.alloc (.cells #[x,y,z,u] 29)) (some ⟨w.heap.size,0,none⟩) [f]:=by
 unfold IsFms
 rw[Fm.dats_map]
 refine⟨w.heap.size,0,[x,y,z,u],rfl,hQ,by simp,fun i v hi=>?_,(Dat.Fs.mono h hP).ext (zb _ _),trivial⟩
 have:=zea w x y z u 29
 match i,hi with
 |0,hi=>injection hi with hi;subst hi;exact this.1
 |1,hi=>injection hi with hi;subst hi;exact this.2.1
 |2,hi=>injection hi with hi;subst hi;exact this.2.2.1
 |3,hi=>injection hi with hi;subst hi;exact this.2.2.2
 |n+4,hi=>simp at hi
theorem zn9 {f:Fm}(h:f.lit=true):f.lits=some [f]:=if_pos h
theorem zry {f:Fm}(h:f.lit=false) (h7:f.op=7) (ha:f.args.all Fm.lit=true):f.lits=some f.args:=by unfold Fm.lits;rw[if_neg (by rw[h];exact Bool.false_ne_true),if_pos ⟨h7,ha⟩]
theorem zhl {f:Fm}(h:f.lit=false) (h7:f.op=7→f.args.all Fm.lit=false):f.lits=none:=by
 unfold Fm.lits;rw[if_neg (by rw[h];exact Bool.false_ne_true),if_neg (fun h1=>by rw[h7 h1.1]at h1;exact Bool.false_ne_true h1.2)]
theorem zoa {α:Type}{p:α→Bool}{l:List α}{k:Nat}(h:k<l.length):(l.take (k+1)).all p=((l.take k).all p&&p l[k]):=by
 rw[List.take_succ_eq_append_getElem h,List.all_append];simp
theorem zs6 {α:Type}{p:α→Bool}{l:List α}{k:Nat}(h:k<l.length) (hp:p l[k]=false):l.all p=false:=by
 cases h2:l.all p with
 |false=>rfl
 |true=>have:=List.all_eq_true.1 h2 l[k] (List.getElem_mem h);rw[hp]at this;cases this
theorem zk3 (f:Fm) (P:Nat→Prop) (w:World) (x y z u:Value) (ht:IsFm P w x y z u f) (hlen:f.args.length≤8388608) :
  Calls Tryz.prog 32 #[.agg #[x,y,z,u]] w (LitsSay (fun b=>P b∨w.heap.size≤b) f w):=by
 have HT:=Lib.hid ht
 have HL:=Lib.hid (fun w' (hx:Ext w w')=>zgf f P w' x y z u (ht.ext hx))
 obtain⟨b1,c1,b2,c2,b3,c3,rfl,rfl,rfl,rfl,-,-,-,-,-,hc3,-,hls⟩:=ht.form
 obtain⟨W,hW⟩:∃W,W=w.alloc (.cells #[.int .i64 f.op,.slice b1 f.vars.length c1,.slice b2 f.terms.length c2,.slice b3 f.args.length c3] 29):=⟨_,rfl⟩
 have hx:Ext w W:=by rw[hW];exact zb _ _
 have hb:Own W w.heap.size [.int .i64 f.op,.slice b1 f.vars.length c1,.slice b2 f.terms.length c2,.slice b3 f.args.length c3]:=by rw[hW];exact own4 w _ _ _ _ _
 obtain⟨⟨k0,-⟩,⟨k1,-⟩,⟨k2,-⟩,⟨k3,-⟩⟩:=hb.cells4
 have hlt:=hb.lt
 clear ht hb
 cases hlit:f.lit with
 |true =>
  have HE:=Lib.hid (zn9 hlit)
  rw[hlit]at HL
  clear hlit
  go_enter Tryz.func32,Tryz.ntmps32
  go_upto_region 1 with fail
  rw[←hW]
  clear hW
  go_wp2_with (go_at_call 68;refine(HL.out _ hx).mono ?_;rintro e w1 ⟨rfl,hx1⟩;replace k0:=hx1.cell k0;replace k1:=hx1.cell k1;replace k2:=hx1.cell k2;replace k3:=hx1.cell k3;have hlt1:=zf k0)
  go_ret2
  exact LitsSay.mk (by rw[HE.out];rfl) (by rw[HE.out];rfl) rfl rfl (Nat.le_refl _) (z02 (HT.out.ext (hx.trans hx1)) (fun b hb _=>.inl hb) (.inr (by have:=hx.size;have:=hx1.size;omega))) ((hx.trans hx1).alloc _)
 |false =>
  by_cases h7:f.op=7
  case neg =>
   have q7:(f.op != 7)=true:=by rw[bne_iff_ne];exact h7
   have HE:=Lib.hid (zhl hlit (fun h=>absurd h h7))
   rw[hlit]at HL
   clear hlit h7
   go_enter Tryz.func32,Tryz.ntmps32
   go_upto_region 1 with fail
   rw[←hW]
   clear hW
   go_wp2_with (go_at_call 68;refine(HL.out _ hx).mono ?_;rintro e w1 ⟨rfl,hx1⟩;replace k0:=hx1.cell k0;replace k1:=hx1.cell k1;replace k2:=hx1.cell k2;replace k3:=hx1.cell k3;have hlt1:=zf k0)
   go_ret2
   exact LitsSay.mk (by rw[HE.out];rfl) (by rw[HE.out];rfl) rfl rfl (Nat.le_refl _) zg3 (hx.trans hx1)
  case pos =>
   have q7:(f.op != 7)=false:=by rw[bne_eq_false_iff_eq];exact h7
   have HE1:=Lib.hid (fun h=>zry hlit h7 h)
   have HE2:=Lib.hid (fun h=>zhl hlit (fun _=>h))
   rw[hlit]at HL
   have HH:=Lib.hid (fun w' k (hk:k<f.args.length) a b c d (h:IsFm P w' a b c d f.args[k])=>zgf f.args[k] P w' a b c d h)
   clear hlit h7
   go_enter Tryz.func32,Tryz.ntmps32
   go_upto_region 1 with fail
   rw[←hW]
   clear hW
   go_wp2_with (go_at_call 68;refine(HL.out _ hx).mono ?_;rintro e w1 ⟨rfl,hx1⟩;replace k0:=hx1.cell k0;replace k1:=hx1.cell k1;replace k2:=hx1.cell k2;replace k3:=hx1.cell k3;have hlt1:=zf k0)
   go_loopw [4] (fun i wr=>∃k:Nat,k≤f.args.length∧i=.int .i64 k∧Ext w1 wr∧(f.args.take k).all Fm.lit=true) (fun i _=>f.args.length-(intOf i).toNat)
   case atStart=>exact⟨0,Nat.zero_le _,rfl,Below.refl _ _,rfl⟩
   case round =>
    obtain⟨k,hk,rfl,hx2,hall⟩:=hrel
    have HALL:=Lib.hid hall;clear hall
    replace k3:=hx2.cell k3
    have hlt2:=zf k3
    clear k0 k1 k2
    by_cases hkl:k<f.args.length
    ·obtain⟨b,o,va',vc',ta',tc',a',c',rfl,hb,g1,g2,g3,g4,hi⟩:=(hls.ext ((hx.trans hx1).trans hx2)).look hkl
     have hlt':(k:Int)<f.args.length:=by omega
     have HST:=Lib.hid (zoa (p:=Fm.lit) hkl)
     have HK:=Lib.hid (HH.out wr k hkl _ _ _ _ hi)
     cases hm:f.args[k].lit with
     |true =>
      rw[hm]at HK HST
      clear hm
      go_wp2_with (go_at_call 68;refine(HK.out).mono ?_;rintro e w2 ⟨rfl,hx3⟩)
      go_roundw
      case rel=>exact⟨k+1,by omega,by go_num,hx2.trans hx3,by rw[HST.out,HALL.out];rfl⟩
      case measure=>simp[intOf];omega
     |false =>
      rw[hm]at HK
      replace HE2:=Lib.hid (HE2.out (zs6 hkl hm))
      clear hm
      go_wp2_with (go_at_call 68;refine(HK.out).mono ?_;rintro e w2 ⟨rfl,hx3⟩)
      go_ret2
      exact LitsSay.mk (by rw[HE2.out];rfl) (by rw[HE2.out];rfl) rfl rfl (Nat.le_refl _) zg3 (((hx.trans hx1).trans hx2).trans hx3)
    ·have hlt':¬(k:Int)<f.args.length:=by omega
     have hke:k=f.args.length:=by omega
     replace HE1:=Lib.hid (HE1.out (by have:=HALL.out;rw[hke,List.take_length]at this;exact this))
     obtain⟨j0,hj0,jz0,jz1',jz2'⟩:=info_parts zq9
     have hd:(Fm.dats f.args).length=f.args.length:=by rw[Fm.dats_map,List.length_map]
     have hrows:Dat.Rows (fun b=>P b∧b<w.heap.size) wr b3 (Fm.dats f.args):=Dat.Rows.ext (Dat.Rows.mono hls fun b hb hl=>⟨hb,hl⟩) ((hx.trans hx1).trans hx2)
     have HROW:=Lib.hid hrows
     have HDL:=Lib.hid hd
     have hsz:=((hx.trans hx1).trans hx2).size
     clear hke hrows hd
     go_wp2_with (at_builtin;(rw[←HDL.out];refine zco (m:=4) (P:=fun b=>P b∨w.heap.size≤b) (B:=w.heap.size) (v:=.slice none 0 0) (l:=[]) Tryz.underlying27 hj0 jz0 jz1' jz2' rfl (by decide) (by decide) rfl _ _ rfl rfl PRow.nil rfl HROW.out (fun e he=>(by rw[Fm.dats_map]at he;obtain⟨x,-,rfl⟩:=List.mem_map.1 he;exact x.dat_length)) (fun b hb _=>⟨.inl hb.1,by simp[Value.ownBlock]⟩) (by simp only[List.length_nil];rw[HDL.out];omega) (by omega) ?_;intro v4 w4 hrow4 hfr4;(obtain⟨a4,c4,hv4,hc4,hd4⟩:=PRow.dat (by decide) hrow4);rw[List.nil_append,HDL.out]at hv4;rw[List.nil_append,HDL.out]at hc4;rw[List.nil_append]at hd4;subst hv4))
     go_ret2
     exact LitsSay.mk (by rw[HE1.out];rfl) (by rw[HE1.out];rfl) rfl rfl hc4 (Dat.Rows.mono hd4 fun b hb _=>hb.elim (fun h=>h) fun h=>.inr (by have:=(hrow4.own_ge h).1;exact this)) (hfr4.ext ((hx.trans hx1).trans hx2) (by simp[Value.ownBlock]))
theorem zs7 {B:Nat}{w:World}{v:Value}{l:List ByteArray}(hl:∀s∈l,s.size≤1073741824) (h:w.ownsRow B 9 1 v l.length (l.map Value.string)):GRow (z6 1) 9 B w v (l.map zjv):=by
 refine⟨l.map fun s=>[.string s],by simp,?_,fun j h1 h2=>?_⟩
 ·have e:(l.map fun s=>[Value.string s]).flatten=l.map Value.string:=by
   clear h hl
   induction l with
   |nil=>rfl
   |cons a l ih=>simp only[List.map_cons,List.flatten_cons,ih,List.cons_append,List.nil_append]
  rw[e,List.length_map];exact h
 ·simp only[List.getElem_map]
  exact zya (hl _ (List.getElem_mem _))
theorem zob {P:Nat→Prop}{l:List ByteArray}{w:World}{a:Option Addr}{c:Nat}(h:IsStrs P w a l) (hl:l.length≤1073741824) :
  Calls Tryz.prog 120 #[.slice a l.length c] w fun e w'=>(∃v,e=.returned v∧GRow (z6 1) 9 w.heap.size w' v (l.map zjv))∧Ext w w':=by
 have hsz:∀s∈l,s.size≤1073741824:=fun s hs=>by
  obtain⟨i,hi,rfl⟩:=List.getElem_of_mem hs
  obtain⟨_,_,_,_,_,hz⟩:=h.look hi
  exact hz
 by_cases h0:0<l.length
 ·obtain⟨b,o,rfl,-⟩:=Dat.Rows.addr h (by simpa using h0)
  have hK:=Tryz.slices_Clone_string b o l.length c l w (Nat.le_refl _) (by omega) (fun j hj=>by
   obtain⟨b',o',e,-,h1,-⟩:=h.look hj
   injection e with e;injection e with e1 e2 _;subst e1;subst e2
   rw[h1,List.getD_eq_getElem?_getD,List.getElem?_eq_getElem hj];rfl)
  refine hK.mono ?_
  rintro e w' ⟨v,rfl,ho,-,hx⟩
  rw[List.take_length]at ho
  exact⟨⟨v,rfl,zs7 hsz ho⟩,hx⟩
 ·have he:=List.eq_nil_of_length_eq_zero (Nat.eq_zero_of_not_pos h0)
  subst he
  cases a with
  |none =>
   refine(Tryz.slices_Clone_string_nil 0 c w).mono ?_
   rintro e w' ⟨rfl,rfl⟩
   exact⟨⟨_,rfl,GRow.nil⟩,Below.refl _ _⟩
  |some a =>
   refine(Tryz.slices_Clone_string_zero a c w).mono ?_
   rintro e w' ⟨v,rfl,ho,-,hx⟩
   exact⟨⟨v,rfl,zs7 hsz ho⟩,hx⟩
theorem zy1 {B:Nat}{w:World}{v:Value}{l:List ByteArray}(h:GRow (z6 1) 9 B w v (l.map zjv)):∃a c,v=.slice a l.length c∧l.length≤c∧IsStrs (fun g=>B≤g∧g<w.heap.size) w a l:=by
 obtain⟨a,c,hv,hc,hd⟩:=GRow.dat (by decide) h
 rw[List.length_map]at hv hc
 exact⟨a,c,hv,hc,Dat.Rows.mono hd fun g hg hlt=>⟨hg,hlt⟩⟩
theorem zip (t:Fm):∀(P:Nat→Prop) (w:World) (x y z u:Value),IsFm P w x y z u t→t.size≤4194304 →
  Calls Tryz.prog 67 #[.agg #[x,y,z,u]] w fun e w'=>(∃v,e=.returned v∧zc7 (fun g=>w.heap.size≤g) w' v t)∧Ext w w':=by
 induction t using Fm.ind with
 |h op vs ts l ih =>
  intro P w x y z u ht hs
  obtain⟨va,vc,ta,tc,a,c,rfl,rfl,rfl,rfl,ho1,ho2,hvc,htc,hc1,hkv,hkt,hk⟩:=ht.form
  have ho2':=ho2
  simp only[Fm.op,Fm.vars,Fm.terms,Fm.args]at ho1 ho2' ho2 hvc htc hc1 hkv hkt hk ⊢
  simp only[Fm.size]at hs
  have hkl:=Fm.length_le_sizes l
  have htl:=Ex.length_le_sizes ts
  obtain⟨i0,hi0,hz0,hz1',hz2'⟩:=info_parts zyf
  obtain⟨j0,hj0,jz0,jz1',jz2'⟩:=info_parts zq9
  have HIH:=Lib.hid ih
  clear ih ht
  have HCL:=Lib.hid (fun w' (hx:Ext w w')=>zob (c:=vc) (hkv.ext hx) (by omega))
  clear hkv
  go_enter Tryz.func67,Tryz.ntmps67
  go_upto_region 1 with fail
  obtain⟨W,hW⟩:∃W,W=(w.alloc (.cells #[.int .i64 op,.slice va vs.length vc,.slice ta ts.length tc,.slice a l.length c] 29)).alloc (.cells #[.int .i64 0,.slice none 0 0,.slice none 0 0,.slice none 0 0] 29):=⟨_,rfl⟩
  have hx:Ext w W:=by rw[hW];exact(zb _ _).alloc _
  have hz:W.heap.size=w.heap.size+2:=by rw[hW];simp
  have hfb:Own W w.heap.size [.int .i64 op,.slice va vs.length vc,.slice ta ts.length tc,.slice a l.length c]:=by rw[hW];exact(own4 w _ _ _ _ _).ext (zb _ _)
  have hnb:Own W (w.heap.size+1) [.int .i64 0,.slice none 0 0,.slice none 0 0,.slice none 0 0]:=by
   rw[hW]
   have:=own4 (w.alloc (.cells #[.int .i64 op,.slice va vs.length vc,.slice ta ts.length tc,.slice a l.length c] 29)) (.int .i64 0) (.slice none 0 0) (.slice none 0 0) (.slice none 0 0) 29
   rw[World.size_alloc]at this;exact this
  rw[←hW]
  clear hW
  obtain⟨fb,hfbe⟩:∃fb,fb=w.heap.size:=⟨_,rfl⟩
  obtain⟨nb,hnbe⟩:∃nb,nb=w.heap.size+1:=⟨_,rfl⟩
  rw[←hnbe]at hnb
  rw[←hfbe]at hfb
  rw[←hnbe,←hfbe]
  have hw0:w.heap.size≤fb:=by omega
  have hw1:w.heap.size≤nb:=by omega
  have hw2:fb<nb:=by omega
  have hw3:nb<W.heap.size:=by omega
  clear hnbe hfbe hz
  obtain⟨⟨b0,-⟩,⟨b1,-⟩,⟨b2,-⟩,⟨b3,-⟩⟩:=hfb.cells4
  have hfl:=hfb.lt
  go_cut [3]from 8 to 13 (fun xx wx=>∃(ob:Nat) (va':Option Addr) (vc':Nat),xx=.pointer (some ⟨ob,0,none⟩)∧Own wx ob [.int .i64 op,.slice va' vs.length vc',.slice none 0 0,.slice none 0 0]∧vs.length≤vc'∧W.heap.size≤ob∧IsStrs (fun g=>W.heap.size≤g∧g≠ob∧g<wx.heap.size) wx va' vs∧Ext W wx)
  case first =>
   go_region_law ((go_simp;go_at_call 120;refine(HCL.out _ (by first|exact Ext.drew hx|exact(Ext.drew hx).alloc _|exact Ext.drew (hx.alloc _))).mono ?_;rintro e w1 ⟨⟨v,rfl,hv⟩,hx1⟩;(obtain⟨va',vc',rfl,hvc',hvs'⟩:=zy1 hv);(have hE:Ext W w1:=(by first|exact Ext.trans (Ext.drew (Below.refl _ _)) hx1|exact Ext.trans (Ext.drew (zb _ _)) hx1));(have e0:=hE.cell b0);(have hl1:fb<w1.heap.size:=zf e0);(have e1:=hE.cell b1);(try (have hb:=((own4 W (.int .i64 0) (.slice none 0 0) (.slice none 0 0) (.slice none 0 0) 29).ext (Ext.trans (Ext.drew (Below.refl _ _)) hx1));have hbl:=hb.lt;(obtain⟨y0,z0⟩:=hb 0 _ rfl);(obtain⟨y1,z1⟩:=hb 1 _ rfl);(obtain⟨y2,z2⟩:=hb 2 _ rfl);(obtain⟨y3,z3⟩:=hb 3 _ rfl)))))
   all_goals
    go_wp2_with fail
    go_meet
    first
     |(have hb':=hb
       have hch:=zbr w1 W.heap.size (.int .i64 op) (.slice va' vs.length vc') (.slice none 0 0) (.slice none 0 0)
       have hch':=hch.size
       exact⟨W.heap.size,va',vc',rfl,zbq hb _ _ _ _,hvc',Nat.le_refl _,Dat.Rows.mono (Dat.Rows.chg hvs' hch (fun g hg=>by have h1:=hg.1;simp at h1 ⊢;omega)) (fun g hg _=>by have h1:=hg.1;simp at h1;omega),Chg.ext hE hch (by simp)⟩)
     |exact⟨w1.heap.size,va',vc',rfl,own4 w1 _ _ _ _ _,hvc',hE.size,Dat.Rows.ext (Dat.Rows.mono hvs' fun g hg _=>⟨by have h1:W.heap.size≤g:=hg.1;omega,by omega,by simp;omega⟩) (zb _ _),hE.alloc _⟩
  case rest =>
   generalize wc=W0 at hcut ⊢
   obtain⟨ob,va',vc',rfl,ho,hvc',hobW,hvs',hxW⟩:=hcut
   have hx0:=hx.trans hxW
   have hf0:=hfb.ext hxW
   have hn0:=hnb.ext hxW
   have hob0:=ho.lt
   have hobn:ob≠nb:=by omega
   have hobf:ob≠fb:=by omega
   have hwob:w.heap.size≤ob:=by omega
   have hnbl:=hn0.lt
   have hfbl:=hf0.lt
   have hwW:=hx.size
   clear hfb hnb b0 b1 b2 b3 hfl HCL hx
   obtain⟨-,-,⟨b2,-⟩,⟨b3,-⟩⟩:=hf0.cells4
   go_wp2_with fail
   go_loopw [17] (fun i wr=>∃(k:Nat) (vv:Value),k≤ts.length∧i=.int .i64 k∧GRow (z6 3) 73 W0.heap.size wr vv ((ts.take k).map Ex.dat)∧Own wr ob [.int .i64 op,.slice va' vs.length vc',vv,.slice none 0 0]∧Chg [ob] W0 wr) (fun i _=>ts.length-(intOf i).toNat)
   case atStart=>exact⟨0,_,Nat.zero_le _,rfl,GRow.nil,ho,Chg.refl _ _⟩
   case round =>
    obtain⟨k,vv,hkk,rfl,hrow,ho2,hch⟩:=hrel
    have hxr:Ext w wr:=Chg.ext hx0 hch (by simp;omega)
    have HML:((ts.take k).map Ex.dat).length=k:=by rw[List.length_map,List.length_take];omega
    obtain⟨xa,xc,hv,hxc⟩:=hrow.form
    rw[HML]at hv hxc
    subst hv
    have Hml:=Lib.hid HML
    clear HML ho b2 b3
    obtain⟨q2,r2⟩:=ho2 2 _ rfl
    have hWr:W0.heap.size≤wr.heap.size:=hch.size
    by_cases hlt:k<ts.length
    ·have hk1:(k:Int)<ts.length:=by omega
     obtain⟨b',o',a',c',rfl,hbP,g1,g2,g3,hi⟩:=(IsExs.ext hkt hxr).look hlt
     have Hi:=Lib.hid (fun w' (hx:Ext wr w')=>zpq ts[k] P w' _ _ _ (hi.ext hx) (by have:=Ex.size_le_sizes hlt;omega))
     have hown:∀g,(Value.slice xa k xc).ownBlock=some g→g<wr.heap.size:=fun g hg=>(hrow.own_ge hg).2
     have hown2:∀g,(Value.slice xa k xc).ownBlock=some g→W0.heap.size≤g:=fun g hg=>(hrow.own_ge hg).1
     go_upto_region 5 with fail
     obtain⟨V,hV⟩:∃V,V=wr.alloc (.cells #[.bool ts[k].var,.string ts[k].name,.slice a' ts[k].args.length c'] 73):=⟨_,rfl⟩
     have hxV:Ext wr V:=by rw[hV];exact zb _ _
     have hbx:Own V wr.heap.size [.bool ts[k].var,.string ts[k].name,.slice a' ts[k].args.length c']:=by rw[hV];exact own3 wr _ _ _ _
     obtain⟨e0,-⟩:=hbx 0 _ rfl
     obtain⟨e1,-⟩:=hbx 1 _ rfl
     obtain⟨e2,-⟩:=hbx 2 _ rfl
     have p2:=hxV.cell q2
     have y2:=hxV.frozen q2 r2
     rw[←hV]
     clear hV hi g1 g2 g3
     go_region_law ((first
      |(go_simp;go_at_call 121;refine(Hi.out _ (hxV.trans (Ext.drew (Below.refl _ _)))).mono ?_;rintro e w2 ⟨⟨vv2,rfl,x0,x1,x2,rfl,hex⟩,hx2⟩;(have hx2':Ext V w2:=(Ext.drew (Below.refl _ V)).trans hx2);(obtain⟨d1,e1',rfl,rfl,rfl,-⟩:=hex.form);(have d5:=hx2'.cell p2);(have d6:=hx2'.frozen p2 y2);(have d7:=(zb w2 (.cells #[.bool ts[k].var,.string ts[k].name,.slice d1 ts[k].args.length e1'] 73)).cell d5);(try simp only[]))
      |(refine zbz rfl (.tmp 22) (.tmp 25) _ rfl 73 i0 _ 48 Tryz.underlying26 hi0 hz0 hz1' hz2' rfl (by decide) W0.heap.size (.slice xa k xc) ((ts.take k).map Ex.dat) (by rfl) wr hrow ((hxV.trans hx2').trans (zb _ _)) w2.heap.size (by rfl) _ _ (heap_alloc_new _ _) ts[k].dat (z0q (hex.ext (zb _ _)) fun g hg hlt=>(show W0.heap.size≤g∧(Value.slice xa k xc).ownBlock≠some g from ⟨by have:V.heap.size≤g:=hg;have:=hxV.size;omega,fun e=>by have:=hown g e;have:V.heap.size≤g:=hg;have:=hxV.size;omega⟩)) (by rw[Hml.out];simp only[maxLen];omega) (by rw[Hml.out];omega) (Nat.le_trans hWr ((hxV.trans hx2').trans (zb _ _)).size) ?_;intro g cap w4 hrow4 hgrow hat hlt4;(have hfar:(some (⟨ob,2,none⟩:Addr).block)≠(Value.slice xa k xc).ownBlock:=fun e=>by have:=hown2 _ e.symm;simp only at this;omega);(have hlt5:(⟨ob,2,none⟩:Addr).block<(w2.alloc (.cells #[.bool ts[k].var,.string ts[k].name,.slice d1 ts[k].args.length e1'] 73)).heap.size:=Nat.lt_of_lt_of_le (zf d5) (zb w2 _).size);(have e5:=(hgrow.cell_far ⟨ob,2,none⟩ hlt5 hfar).trans ((zb w2 _).cell d5));(have e6:=(hgrow.frozen_far ⟨ob,2,none⟩ hlt5 hfar).trans ((zb w2 _).frozen d5 d6)))))
     all_goals
      go_wp2_with fail
      go_roundw
      case rel =>
       have hx5:=(hxV.trans hx2').trans (zb w2 (.cells #[.bool ts[k].var,.string ts[k].name,.slice d1 ts[k].args.length e1'] 73))
       have hset:=(Chg.refl [ob] w4).setCell (p:=⟨ob,2,none⟩) (.slice (some ⟨g,0,none⟩) (k+1) cap) (.inl (by simp))
       have hnot:∀b,b<W0.heap.size→(Value.slice xa k xc).ownBlock≠some b:=fun b hb e=>by have:=hown2 _ e;omega
       have hrow5:=hrow4
       rw[Hml.out]at hrow5
       refine⟨k+1,.slice (some ⟨g,0,none⟩) (k+1) cap,by omega,by go_num,?_,?_,(zci hch hrow (Nat.le_refl _) hx5 hgrow).trans (by simpa[Hml.out]using hset)⟩
       ·rw[List.take_succ_eq_append_getElem hlt,List.map_append]
        exact hrow5.chg hset (by simp;omega)
       ·exact(zeg (ho2.ext hx5) hgrow (hnot ob hob0)).set (i:=2) (by simp) (.slice (some ⟨g,0,none⟩) (k+1) cap)
      case measure=>simp[intOf];omega
    ·have hk1:¬(k:Int)<ts.length:=by omega
     have hke:k=ts.length:=by omega
     obtain⟨a1,c1,hv1,hvc1,hd⟩:=GRow.dat (by decide) hrow
     rw[Hml.out]at hv1 hvc1
     injection hv1 with e1 _ e3
     subst e1;subst e3
     have hke':=hke
     subst hke
     rw[List.take_length]at hd
     have hts:IsExs (fun g=>W0.heap.size≤g∧g<wr.heap.size) wr xa ts:=by unfold IsExs;rw[Ex.dats_map];exact Dat.Rows.mono hd fun g hg hlt=>⟨hg,hlt⟩
     have hvs1:IsStrs (fun g=>W.heap.size≤g∧g≠ob∧g<W0.heap.size) wr va' vs:=Dat.Rows.chg hvs' hch (fun g hg=>by simpa using hg.2.1)
     have hn1:=hn0.chg hch (by simpa using Ne.symm hobn)
     have hf1:=hf0.chg hch (by simpa using Ne.symm hobf)
     clear hd hrow hke' Hml hk1 hlt q2 r2 hvs' hn0 hf0
     obtain⟨-,-,-,⟨b3,-⟩⟩:=hf1.cells4
     have hob1:=ho2.lt
     obtain⟨V1,hV1⟩:∃V1,V1=wr:=⟨_,rfl⟩
     rw[←hV1]at ho2 hch hxr hWr hts hvs1 hn1 hf1 b3 hob1 ⊢
     clear hV1
     go_wp2_with fail
     go_loopw [32] (fun i wr=>∃(k:Nat) (vv:Value),k≤l.length∧i=.int .i64 k∧GRow (z6 4) 29 V1.heap.size wr vv ((l.take k).map Fm.dat)∧Own wr ob [.int .i64 op,.slice va' vs.length vc',.slice xa ts.length xc,vv]∧Chg [ob] V1 wr) (fun i _=>l.length-(intOf i).toNat)
     case atStart=>exact⟨0,_,Nat.zero_le _,rfl,GRow.nil,ho2,Chg.refl _ _⟩
     case round =>
      obtain⟨k,vv,hkk,rfl,hrow,ho3,hch3⟩:=hrel
      have hxr3:Ext w wr:=Chg.ext hxr hch3 (by simp;omega)
      have HML:((l.take k).map Fm.dat).length=k:=by rw[List.length_map,List.length_take];omega
      obtain⟨za,zc,hv,hzc⟩:=hrow.form
      rw[HML]at hv hzc
      subst hv
      have Hml:=Lib.hid HML
      clear HML ho2 b3
      obtain⟨q2,r2⟩:=ho3 3 _ rfl
      have hWr3:V1.heap.size≤wr.heap.size:=hch3.size
      by_cases hlt:k<l.length
      ·have hk1:(k:Int)<l.length:=by omega
       obtain⟨b',o',a1',c1',a2',c2',a',c',rfl,hbP,g1,g2,g3,g4,hi⟩:=(IsFms.ext hk hxr3).look hlt
       have Hi:=Lib.hid (fun w' (hx:Ext wr w')=>HIH.out _ (List.getElem_mem hlt) P w' _ _ _ _ (hi.ext hx) (by have:=Fm.size_le_sizes hlt;omega))
       have hown:∀g,(Value.slice za k zc).ownBlock=some g→g<wr.heap.size:=fun g hg=>(hrow.own_ge hg).2
       have hown2:∀g,(Value.slice za k zc).ownBlock=some g→V1.heap.size≤g:=fun g hg=>(hrow.own_ge hg).1
       go_upto_region 10 with fail
       obtain⟨V,hV⟩:∃V,V=wr.alloc (.cells #[.int .i64 l[k].op,.slice a1' l[k].vars.length c1',.slice a2' l[k].terms.length c2',.slice a' l[k].args.length c'] 29):=⟨_,rfl⟩
       have hxV:Ext wr V:=by rw[hV];exact zb _ _
       have hbx:Own V wr.heap.size [.int .i64 l[k].op,.slice a1' l[k].vars.length c1',.slice a2' l[k].terms.length c2',.slice a' l[k].args.length c']:=by rw[hV];exact own4 wr _ _ _ _ _
       obtain⟨⟨e0,-⟩,⟨e1,-⟩,⟨e2,-⟩,⟨e3,-⟩⟩:=hbx.cells4
       have p2:=hxV.cell q2
       have y2:=hxV.frozen q2 r2
       rw[←hV]
       clear hV hi g1 g2 g3 g4
       go_region_law ((first
        |(go_simp;go_at_call 67;refine(Hi.out _ (hxV.trans (Ext.drew (Below.refl _ _)))).mono ?_;rintro e w2 ⟨⟨vv2,rfl,x0,x1,x2,x3,rfl,hex⟩,hx2⟩;(have hx2':Ext V w2:=(Ext.drew (Below.refl _ V)).trans hx2);(obtain⟨d1,e1',d2,e2',d3,e3',rfl,rfl,rfl,rfl,-⟩:=hex.form);(have d5:=hx2'.cell p2);(have d6:=hx2'.frozen p2 y2);(have d7:=(zb w2 (.cells #[.int .i64 l[k].op,.slice d1 l[k].vars.length e1',.slice d2 l[k].terms.length e2',.slice d3 l[k].args.length e3'] 29)).cell d5);(try simp only[]))
        |(refine zbz rfl (.tmp 37) (.tmp 40) _ rfl 29 j0 _ 80 Tryz.underlying27 hj0 jz0 jz1' jz2' rfl (by decide) V1.heap.size (.slice za k zc) ((l.take k).map Fm.dat) (by rfl) wr hrow ((hxV.trans hx2').trans (zb _ _)) w2.heap.size (by rfl) _ _ (heap_alloc_new _ _) l[k].dat (zsv (hex.ext (zb _ _)) fun g hg hlt=>(show V1.heap.size≤g∧(Value.slice za k zc).ownBlock≠some g from ⟨by have:V.heap.size≤g:=hg;have:=hxV.size;omega,fun e=>by have:=hown g e;have:V.heap.size≤g:=hg;have:=hxV.size;omega⟩)) (by rw[Hml.out];simp only[maxLen];omega) (by rw[Hml.out];omega) (Nat.le_trans hWr3 ((hxV.trans hx2').trans (zb _ _)).size) ?_;intro g cap w4 hrow4 hgrow hat hlt4;(have hfar:(some (⟨ob,3,none⟩:Addr).block)≠(Value.slice za k zc).ownBlock:=fun e=>by have:=hown2 _ e.symm;simp only at this;omega);(have hlt5:(⟨ob,3,none⟩:Addr).block<(w2.alloc (.cells #[.int .i64 l[k].op,.slice d1 l[k].vars.length e1',.slice d2 l[k].terms.length e2',.slice d3 l[k].args.length e3'] 29)).heap.size:=Nat.lt_of_lt_of_le (zf d5) (zb w2 _).size);(have e5:=(hgrow.cell_far ⟨ob,3,none⟩ hlt5 hfar).trans ((zb w2 _).cell d5));(have e6:=(hgrow.frozen_far ⟨ob,3,none⟩ hlt5 hfar).trans ((zb w2 _).frozen d5 d6)))))
       all_goals
        go_wp2_with fail
        go_roundw
        case rel =>
         have hx5:=(hxV.trans hx2').trans (zb w2 (.cells #[.int .i64 l[k].op,.slice d1 l[k].vars.length e1',.slice d2 l[k].terms.length e2',.slice d3 l[k].args.length e3'] 29))
         have hset:=(Chg.refl [ob] w4).setCell (p:=⟨ob,3,none⟩) (.slice (some ⟨g,0,none⟩) (k+1) cap) (.inl (by simp))
         have hnot:∀b,b<V1.heap.size→(Value.slice za k zc).ownBlock≠some b:=fun b hb e=>by have:=hown2 _ e;omega
         have hrow5:=hrow4
         rw[Hml.out]at hrow5
         refine⟨k+1,.slice (some ⟨g,0,none⟩) (k+1) cap,by omega,by go_num,?_,?_,(zci hch3 hrow (Nat.le_refl _) hx5 hgrow).trans (by simpa[Hml.out]using hset)⟩
         ·rw[List.take_succ_eq_append_getElem hlt,List.map_append]
          exact hrow5.chg hset (by simp;omega)
         ·exact(zeg (ho3.ext hx5) hgrow (hnot ob hob1)).set (i:=3) (by simp) (.slice (some ⟨g,0,none⟩) (k+1) cap)
        case measure=>simp[intOf];omega
      ·have hk1:¬(k:Int)<l.length:=by omega
       have hke:k=l.length:=by omega
       obtain⟨a1,c1,hv1,hvc1,hd⟩:=GRow.dat (by decide) hrow
       rw[Hml.out]at hv1 hvc1
       injection hv1 with e1 _ e3
       subst e1;subst e3
       subst hke
       rw[List.take_length]at hd
       have hn3:=hn1.chg hch3 (by simpa using Ne.symm hobn)
       have hts3:IsExs (fun g=>W0.heap.size≤g∧g<V1.heap.size) wr xa ts:=Dat.Rows.chg hts hch3 (fun g hg=>by simp;omega)
       have hvs3:IsStrs (fun g=>W.heap.size≤g∧g≠ob∧g<W0.heap.size) wr va' vs:=Dat.Rows.chg hvs1 hch3 (fun g hg=>by simpa using hg.2.1)
       clear hrow Hml hk1 hlt q2 r2 hn1 hts hvs1 hf1
       obtain⟨⟨m0,-⟩,⟨m1,-⟩,⟨m2,-⟩,⟨m3,-⟩⟩:=ho3.cells4
       obtain⟨⟨n0,s0⟩,⟨n1,s1⟩,⟨n2,s2⟩,⟨n3,s3⟩⟩:=hn3.cells4
       have hnl3:=hn3.lt
       have HD:=Lib.hid (And.intro hd (And.intro hts3 hvs3))
       clear hd hts3 hvs3
       go_wp2_with fail
       obtain⟨W2,hW2⟩:∃W2,W2=(((wr.setCell ⟨nb,0,none⟩ (.int .i64 op)).setCell ⟨nb,1,none⟩ (.slice va' vs.length vc')).setCell ⟨nb,2,none⟩ (.slice xa ts.length xc)).setCell ⟨nb,3,none⟩ (.slice za l.length zc):=⟨_,rfl⟩
       have hch4:=zbr wr nb (.int .i64 op) (.slice va' vs.length vc') (.slice xa ts.length xc) (.slice za l.length zc)
       have hn4:=zbq hn3 (.int .i64 op) (.slice va' vs.length vc') (.slice xa ts.length xc) (.slice za l.length zc)
       rw[←hW2]at hch4 hn4 ⊢
       clear hW2
       obtain⟨f0,f1,f2,f3⟩:=zd9 hn4
       have hxf:=Chg.ext hxr3 hch4 (by simp;omega)
       obtain⟨hd,hts3,hvs3⟩:=HD.out
       have hWW:=hxW.size
       have hd4:IsFms (fun g=>w.heap.size≤g) W2 za l:=by unfold IsFms;rw[Fm.dats_map];exact Dat.Rows.mono (Dat.Rows.chg hd hch4 (fun g hg=>by simp;omega)) fun g hg _=>by have:=hxr.size;omega
       have ht4:IsExs (fun g=>w.heap.size≤g) W2 xa ts:=Dat.Rows.mono (Dat.Rows.chg hts3 hch4 (fun g hg=>by simp;omega)) fun g hg _=>by have:=hx0.size;omega
       have hv4:IsStrs (fun g=>w.heap.size≤g) W2 va' vs:=Dat.Rows.mono (Dat.Rows.chg hvs3 hch4 (fun g hg=>by simp;omega)) fun g hg _=>by omega
       refine bodyPost_ret (v:=.agg #[.int .i64 op,.slice va' vs.length vc',.slice xa ts.length xc,.slice za l.length zc]) (by simp[results,Tryz.results67,go_sem,f0,f1,f2,f3]) rfl ⟨⟨_,rfl,_,_,_,_,rfl,IsFm.mk' ho1 ho2' hvc' hxc hzc hv4 ht4 hd4⟩,hxf⟩
theorem eqS {s r:ByteArray}{b:Bool}(h:decide (s=r)=b):(s.toList==r.toList)=b:=(zma s r).trans h
theorem eqL {s r:ByteArray}{l:List UInt8}{b:Bool}(hl:r.toList=l) (h:decide (s=r)=b):(s.toList==l)=b:=by rw[←hl];exact eqS h
theorem zs8 (s:ByteArray):zbl s=(decide (s=zjh) || (decide (s=zpr) || (decide (s=zps) || (decide (s=zpt) || (decide (s=zji) || (decide (s=zpu) || (decide (s=zpv) || (decide (s=zjj) || (decide (s=zer) || (decide (s=zpw))))))))))):=by simp[zbl,zj4]
theorem zm4 (s:ByteArray) (w:World):Calls Tryz.prog 70 #[.string s] w fun e w'=>e=.returned (.bool (zbl s))∧w=w':=by
 have HR:=Lib.hid (zs8 s)
 cases h0:decide (s=zjh) with
 |true =>
  have q0:(s.toList==[97,120,105,111,109])=true:=eqL (r:=zjh) (by rw[Go.ByteArray.toList_eq];rfl) h0
  have HB:=Lib.hid (show zbl s=true by rw[HR.out];simp only[h0,Bool.true_or])
  clear h0
  go_enter Tryz.func70,Tryz.ntmps70
  go_wp2_with fail
  go_ret
  exact⟨ze HB.out.symm,rfl⟩
 |false =>
  have q0:(s.toList==[97,120,105,111,109])=false:=eqL (r:=zjh) (by rw[Go.ByteArray.toList_eq];rfl) h0
  cases h1:decide (s=zpr) with
  |true =>
   have q1:(s.toList==[104,121,112,111,116,104,101,115,105,115])=true:=eqL (r:=zpr) (by rw[Go.ByteArray.toList_eq];rfl) h1
   have HB:=Lib.hid (show zbl s=true by rw[HR.out];simp only[h0,h1,Bool.true_or,Bool.false_or])
   clear h0 h1
   go_enter Tryz.func70,Tryz.ntmps70
   go_wp2_with fail
   go_ret
   exact⟨ze HB.out.symm,rfl⟩
  |false =>
   have q1:(s.toList==[104,121,112,111,116,104,101,115,105,115])=false:=eqL (r:=zpr) (by rw[Go.ByteArray.toList_eq];rfl) h1
   cases h2:decide (s=zps) with
   |true =>
    have q2:(s.toList==[100,101,102,105,110,105,116,105,111,110])=true:=eqL (r:=zps) (by rw[Go.ByteArray.toList_eq];rfl) h2
    have HB:=Lib.hid (show zbl s=true by rw[HR.out];simp only[h0,h1,h2,Bool.true_or,Bool.false_or])
    clear h0 h1 h2
    go_enter Tryz.func70,Tryz.ntmps70
    go_wp2_with fail
    go_ret
    exact⟨ze HB.out.symm,rfl⟩
   |false =>
    have q2:(s.toList==[100,101,102,105,110,105,116,105,111,110])=false:=eqL (r:=zps) (by rw[Go.ByteArray.toList_eq];rfl) h2
    cases h3:decide (s=zpt) with
    |true =>
     have q3:(s.toList==[97,115,115,117,109,112,116,105,111,110])=true:=eqL (r:=zpt) (by rw[Go.ByteArray.toList_eq];rfl) h3
     have HB:=Lib.hid (show zbl s=true by rw[HR.out];simp only[h0,h1,h2,h3,Bool.true_or,Bool.false_or])
     clear h0 h1 h2 h3
     go_enter Tryz.func70,Tryz.ntmps70
     go_wp2_with fail
     go_ret
     exact⟨ze HB.out.symm,rfl⟩
    |false =>
     have q3:(s.toList==[97,115,115,117,109,112,116,105,111,110])=false:=eqL (r:=zpt) (by rw[Go.ByteArray.toList_eq];rfl) h3
     cases h4:decide (s=zji) with
     |true =>
      have q4:(s.toList==[108,101,109,109,97])=true:=eqL (r:=zji) (by rw[Go.ByteArray.toList_eq];rfl) h4
      have HB:=Lib.hid (show zbl s=true by rw[HR.out];simp only[h0,h1,h2,h3,h4,Bool.true_or,Bool.false_or])
      clear h0 h1 h2 h3 h4
      go_enter Tryz.func70,Tryz.ntmps70
      go_wp2_with fail
      go_ret
      exact⟨ze HB.out.symm,rfl⟩
     |false =>
      have q4:(s.toList==[108,101,109,109,97])=false:=eqL (r:=zji) (by rw[Go.ByteArray.toList_eq];rfl) h4
      cases h5:decide (s=zpu) with
      |true =>
       have q5:(s.toList==[116,104,101,111,114,101,109])=true:=eqL (r:=zpu) (by rw[Go.ByteArray.toList_eq];rfl) h5
       have HB:=Lib.hid (show zbl s=true by rw[HR.out];simp only[h0,h1,h2,h3,h4,h5,Bool.true_or,Bool.false_or])
       clear h0 h1 h2 h3 h4 h5
       go_enter Tryz.func70,Tryz.ntmps70
       go_wp2_with fail
       go_ret
       exact⟨ze HB.out.symm,rfl⟩
      |false =>
       have q5:(s.toList==[116,104,101,111,114,101,109])=false:=eqL (r:=zpu) (by rw[Go.ByteArray.toList_eq];rfl) h5
       cases h6:decide (s=zpv) with
       |true =>
        have q6:(s.toList==[99,111,114,111,108,108,97,114,121])=true:=eqL (r:=zpv) (by rw[Go.ByteArray.toList_eq];rfl) h6
        have HB:=Lib.hid (show zbl s=true by rw[HR.out];simp only[h0,h1,h2,h3,h4,h5,h6,Bool.true_or,Bool.false_or])
        clear h0 h1 h2 h3 h4 h5 h6
        go_enter Tryz.func70,Tryz.ntmps70
        go_wp2_with fail
        go_ret
        exact⟨ze HB.out.symm,rfl⟩
       |false =>
        have q6:(s.toList==[99,111,114,111,108,108,97,114,121])=false:=eqL (r:=zpv) (by rw[Go.ByteArray.toList_eq];rfl) h6
        cases h7:decide (s=zjj) with
        |true =>
         have q7:(s.toList==[112,108,97,105,110])=true:=eqL (r:=zjj) (by rw[Go.ByteArray.toList_eq];rfl) h7
         have HB:=Lib.hid (show zbl s=true by rw[HR.out];simp only[h0,h1,h2,h3,h4,h5,h6,h7,Bool.true_or,Bool.false_or])
         clear h0 h1 h2 h3 h4 h5 h6 h7
         go_enter Tryz.func70,Tryz.ntmps70
         go_wp2_with fail
         go_ret
         exact⟨ze HB.out.symm,rfl⟩
        |false =>
         have q7:(s.toList==[112,108,97,105,110])=false:=eqL (r:=zjj) (by rw[Go.ByteArray.toList_eq];rfl) h7
         cases h8:decide (s=zer) with
         |true =>
          have q8:(s.toList==[99,111,110,106,101,99,116,117,114,101])=true:=eqL (r:=zer) (by rw[Go.ByteArray.toList_eq];rfl) h8
          have HB:=Lib.hid (show zbl s=true by rw[HR.out];simp only[h0,h1,h2,h3,h4,h5,h6,h7,h8,Bool.true_or,Bool.false_or])
          clear h0 h1 h2 h3 h4 h5 h6 h7 h8
          go_enter Tryz.func70,Tryz.ntmps70
          go_wp2_with fail
          go_ret
          exact⟨ze HB.out.symm,rfl⟩
         |false =>
          have q8:(s.toList==[99,111,110,106,101,99,116,117,114,101])=false:=eqL (r:=zer) (by rw[Go.ByteArray.toList_eq];rfl) h8
          cases h9:decide (s=zpw) with
          |true =>
           have q9:(s.toList==[110,101,103,97,116,101,100,95,99,111,110,106,101,99,116,117,114,101])=true:=eqL (r:=zpw) (by rw[Go.ByteArray.toList_eq];rfl) h9
           have HB:=Lib.hid (show zbl s=true by rw[HR.out];simp only[h0,h1,h2,h3,h4,h5,h6,h7,h8,h9,Bool.false_or])
           clear h0 h1 h2 h3 h4 h5 h6 h7 h8 h9
           go_enter Tryz.func70,Tryz.ntmps70
           go_wp2_with fail
           go_ret
           exact⟨ze HB.out.symm,rfl⟩
          |false =>
           have q9:(s.toList==[110,101,103,97,116,101,100,95,99,111,110,106,101,99,116,117,114,101])=false:=eqL (r:=zpw) (by rw[Go.ByteArray.toList_eq];rfl) h9
           have HB:=Lib.hid (show zbl s=false by rw[HR.out];simp only[h0,h1,h2,h3,h4,h5,h6,h7,h8,h9,Bool.or_false])
           clear h0 h1 h2 h3 h4 h5 h6 h7 h8 h9
           go_enter Tryz.func70,Tryz.ntmps70
           go_wp2_with fail
           go_ret
           exact⟨ze HB.out.symm,rfl⟩
theorem zpz (s:ByteArray) (w:World):Calls Tryz.prog 73 #[.string s] w fun e w'=>e=.returned (.bool (zbl s))∧w=w':=by
 have HR:=Lib.hid (zs8 s)
 cases h0:decide (s=zjh) with
 |true =>
  have q0:(s.toList==[97,120,105,111,109])=true:=eqL (r:=zjh) (by rw[Go.ByteArray.toList_eq];rfl) h0
  have HB:=Lib.hid (show zbl s=true by rw[HR.out];simp only[h0,Bool.true_or])
  clear h0
  go_enter Tryz.func73,Tryz.ntmps73
  go_wp2_with fail
  go_ret
  exact⟨ze HB.out.symm,rfl⟩
 |false =>
  have q0:(s.toList==[97,120,105,111,109])=false:=eqL (r:=zjh) (by rw[Go.ByteArray.toList_eq];rfl) h0
  cases h1:decide (s=zpr) with
  |true =>
   have q1:(s.toList==[104,121,112,111,116,104,101,115,105,115])=true:=eqL (r:=zpr) (by rw[Go.ByteArray.toList_eq];rfl) h1
   have HB:=Lib.hid (show zbl s=true by rw[HR.out];simp only[h0,h1,Bool.true_or,Bool.false_or])
   clear h0 h1
   go_enter Tryz.func73,Tryz.ntmps73
   go_wp2_with fail
   go_ret
   exact⟨ze HB.out.symm,rfl⟩
  |false =>
   have q1:(s.toList==[104,121,112,111,116,104,101,115,105,115])=false:=eqL (r:=zpr) (by rw[Go.ByteArray.toList_eq];rfl) h1
   cases h2:decide (s=zps) with
   |true =>
    have q2:(s.toList==[100,101,102,105,110,105,116,105,111,110])=true:=eqL (r:=zps) (by rw[Go.ByteArray.toList_eq];rfl) h2
    have HB:=Lib.hid (show zbl s=true by rw[HR.out];simp only[h0,h1,h2,Bool.true_or,Bool.false_or])
    clear h0 h1 h2
    go_enter Tryz.func73,Tryz.ntmps73
    go_wp2_with fail
    go_ret
    exact⟨ze HB.out.symm,rfl⟩
   |false =>
    have q2:(s.toList==[100,101,102,105,110,105,116,105,111,110])=false:=eqL (r:=zps) (by rw[Go.ByteArray.toList_eq];rfl) h2
    cases h3:decide (s=zpt) with
    |true =>
     have q3:(s.toList==[97,115,115,117,109,112,116,105,111,110])=true:=eqL (r:=zpt) (by rw[Go.ByteArray.toList_eq];rfl) h3
     have HB:=Lib.hid (show zbl s=true by rw[HR.out];simp only[h0,h1,h2,h3,Bool.true_or,Bool.false_or])
     clear h0 h1 h2 h3
     go_enter Tryz.func73,Tryz.ntmps73
     go_wp2_with fail
     go_ret
     exact⟨ze HB.out.symm,rfl⟩
    |false =>
     have q3:(s.toList==[97,115,115,117,109,112,116,105,111,110])=false:=eqL (r:=zpt) (by rw[Go.ByteArray.toList_eq];rfl) h3
     cases h4:decide (s=zji) with
     |true =>
      have q4:(s.toList==[108,101,109,109,97])=true:=eqL (r:=zji) (by rw[Go.ByteArray.toList_eq];rfl) h4
      have HB:=Lib.hid (show zbl s=true by rw[HR.out];simp only[h0,h1,h2,h3,h4,Bool.true_or,Bool.false_or])
      clear h0 h1 h2 h3 h4
      go_enter Tryz.func73,Tryz.ntmps73
      go_wp2_with fail
      go_ret
      exact⟨ze HB.out.symm,rfl⟩
     |false =>
      have q4:(s.toList==[108,101,109,109,97])=false:=eqL (r:=zji) (by rw[Go.ByteArray.toList_eq];rfl) h4
      cases h5:decide (s=zpu) with
      |true =>
       have q5:(s.toList==[116,104,101,111,114,101,109])=true:=eqL (r:=zpu) (by rw[Go.ByteArray.toList_eq];rfl) h5
       have HB:=Lib.hid (show zbl s=true by rw[HR.out];simp only[h0,h1,h2,h3,h4,h5,Bool.true_or,Bool.false_or])
       clear h0 h1 h2 h3 h4 h5
       go_enter Tryz.func73,Tryz.ntmps73
       go_wp2_with fail
       go_ret
       exact⟨ze HB.out.symm,rfl⟩
      |false =>
       have q5:(s.toList==[116,104,101,111,114,101,109])=false:=eqL (r:=zpu) (by rw[Go.ByteArray.toList_eq];rfl) h5
       cases h6:decide (s=zpv) with
       |true =>
        have q6:(s.toList==[99,111,114,111,108,108,97,114,121])=true:=eqL (r:=zpv) (by rw[Go.ByteArray.toList_eq];rfl) h6
        have HB:=Lib.hid (show zbl s=true by rw[HR.out];simp only[h0,h1,h2,h3,h4,h5,h6,Bool.true_or,Bool.false_or])
        clear h0 h1 h2 h3 h4 h5 h6
        go_enter Tryz.func73,Tryz.ntmps73
        go_wp2_with fail
        go_ret
        exact⟨ze HB.out.symm,rfl⟩
       |false =>
        have q6:(s.toList==[99,111,114,111,108,108,97,114,121])=false:=eqL (r:=zpv) (by rw[Go.ByteArray.toList_eq];rfl) h6
        cases h7:decide (s=zjj) with
        |true =>
         have q7:(s.toList==[112,108,97,105,110])=true:=eqL (r:=zjj) (by rw[Go.ByteArray.toList_eq];rfl) h7
         have HB:=Lib.hid (show zbl s=true by rw[HR.out];simp only[h0,h1,h2,h3,h4,h5,h6,h7,Bool.true_or,Bool.false_or])
         clear h0 h1 h2 h3 h4 h5 h6 h7
         go_enter Tryz.func73,Tryz.ntmps73
         go_wp2_with fail
         go_ret
         exact⟨ze HB.out.symm,rfl⟩
        |false =>
         have q7:(s.toList==[112,108,97,105,110])=false:=eqL (r:=zjj) (by rw[Go.ByteArray.toList_eq];rfl) h7
         cases h8:decide (s=zer) with
         |true =>
          have q8:(s.toList==[99,111,110,106,101,99,116,117,114,101])=true:=eqL (r:=zer) (by rw[Go.ByteArray.toList_eq];rfl) h8
          have HB:=Lib.hid (show zbl s=true by rw[HR.out];simp only[h0,h1,h2,h3,h4,h5,h6,h7,h8,Bool.true_or,Bool.false_or])
          clear h0 h1 h2 h3 h4 h5 h6 h7 h8
          go_enter Tryz.func73,Tryz.ntmps73
          go_wp2_with fail
          go_ret
          exact⟨ze HB.out.symm,rfl⟩
         |false =>
          have q8:(s.toList==[99,111,110,106,101,99,116,117,114,101])=false:=eqL (r:=zer) (by rw[Go.ByteArray.toList_eq];rfl) h8
          cases h9:decide (s=zpw) with
          |true =>
           have q9:(s.toList==[110,101,103,97,116,101,100,95,99,111,110,106,101,99,116,117,114,101])=true:=eqL (r:=zpw) (by rw[Go.ByteArray.toList_eq];rfl) h9
           have HB:=Lib.hid (show zbl s=true by rw[HR.out];simp only[h0,h1,h2,h3,h4,h5,h6,h7,h8,h9,Bool.false_or])
           clear h0 h1 h2 h3 h4 h5 h6 h7 h8 h9
           go_enter Tryz.func73,Tryz.ntmps73
           go_wp2_with fail
           go_ret
           exact⟨ze HB.out.symm,rfl⟩
          |false =>
           have q9:(s.toList==[110,101,103,97,116,101,100,95,99,111,110,106,101,99,116,117,114,101])=false:=eqL (r:=zpw) (by rw[Go.ByteArray.toList_eq];rfl) h9
           have HB:=Lib.hid (show zbl s=false by rw[HR.out];simp only[h0,h1,h2,h3,h4,h5,h6,h7,h8,h9,Bool.or_false])
           clear h0 h1 h2 h3 h4 h5 h6 h7 h8 h9
           go_enter Tryz.func73,Tryz.ntmps73
           go_wp2_with fail
           go_ret
           exact⟨ze HB.out.symm,rfl⟩
end Go.Proofs.YtnclgkdpafhogaaGreat
