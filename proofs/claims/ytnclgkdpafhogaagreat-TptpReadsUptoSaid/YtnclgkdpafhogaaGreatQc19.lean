/- What a reading of tokens from one of them on says. No condition.
What a text read as a formula gives. No condition.
Plain: which entries may be, and how problems are read. No condition.
The reference's Reader: Term. Condition: a row of at most 2^30 tokens, not empty.
The reference's Reader: Term with arguments. Condition: a row of at most 2^30 tokens, not empty.
Rows whose cells are copied; the reference's of. Condition: a row of at most 2^30.
Rows of the call's own whose elements' further cells lie in blocks of a kind; a whole row appended. Condition: at most 8388608 elements.
The reference's literal and Literals. Condition: a row of at most 2^23 arguments. -/
import Derived.Test.YtnclgkdpafhogaaGreatQc15
import Derived.Test.YtnclgkdpafhogaaGreatQc8
import Derived.Test.YtnclgkdpafhogaaGreatQc3
import Derived.Test.YtnclgkdpafhogaaGreatQc11
import Derived.Test.YtnclgkdpafhogaaGreatQc17
import Derived.Deep.RegionLaw
import Derived.Deep.LoopGhost
import Derived.Deep.Light
import Derived.Test.YtnclgkdpafhogaaGreatQc18
import Derived.Laws.OwnMore
import Derived.Deep.AppendLies
set_option maxHeartbeats 16000000
set_option maxRecDepth 100000
namespace Go.Proofs.YtnclgkdpafhogaaGreat
open Go.ChangeShapes Go.WideShapes Go.ChangeAt Go.RowKit
def Fm.zero:Fm:=.mk 0 [] [] []
def zb0 (l:List Tok) (from':Int):Fm×Int×Int :=
 if from'<0∨(l.length:Int)≤from' then (Fm.zero,0,230)
 else match zgj (l.drop from'.toNat) with
  |.bad r=>(Fm.zero,(zbi l r:Nat),230)
  |.ok f r=>if f.check≠0 then (Fm.zero,from',f.check)else (f,(l.length-r.length:Nat),0)
def ReadSays (r:Fm×Int×Int) (w:World) (e:Ending) (w':World):Prop :=
 (∃v,e=.returned (.tuple #[v,.int .i64 r.2.1,.int .i64 r.2.2])∧za8 (fun g=>w.heap.size≤g) w' v r.1)∧Ext w w'
theorem zh1 {P:Nat→Prop}{w:World}:IsFm P w (.int .i64 0) (.slice none 0 0) (.slice none 0 0) (.slice none 0 0) Fm.zero :=
 IsFm.mk' (v:=[]) (t:=[]) (l:=[]) (by decide) (by decide) (Nat.le_refl _) (Nat.le_refl _) (Nat.le_refl _) zhv zgl zdu
theorem zrd (f:Fm):f.check=0∨f.check=2∨f.check=3:=by
 unfold Fm.check
 split
 ·exact .inr (.inr rfl)
 ·split
  ·exact .inl rfl
  ·exact .inr (.inl rfl)
theorem ReadSays.mk {r:Fm×Int×Int}{w w':World}{v:Value}{e:Ending}(h1:e=.returned (.tuple #[v,.int .i64 r.2.1,.int .i64 r.2.2])) (h2:za8 (fun g=>w.heap.size≤g) w' v r.1) (h3:Ext w w'):ReadSays r w e w':=⟨⟨v,h1,h2⟩,h3⟩
theorem zsn {l:List Tok}{n:Nat}:l.drop n <:+ l:=List.drop_suffix n l
def zre (l:List Tok) (i:Int):Tok:=(l[i.toNat]?).getD ⟨7,⟨#[]⟩,0⟩
theorem zxp {l:List Tok}{i:Int}(h0:0≤i) (h:i<l.length):zre l i=l[i.toNat]'(by omega):=by
 unfold zre;rw[List.getElem?_eq_getElem (by omega)];rfl
theorem zgu {s:ByteArray}(h:(cutS s).2.2=0):Ends (cutS s).1:=by
 unfold cutS at h ⊢
 split at h
 ·cases h
 ·rename_i hl
  rw[if_neg hl]
  unfold zf3 at h ⊢
  split at h
  ·rename_i h0;rw[if_pos h0];exact zn9 (Nat.zero_le _) h0
  ·rename_i h0;exact absurd h h0
theorem zmo (s:ByteArray):(cutS s).1.length≤8001:=by
 unfold cutS
 split
 ·simp
 ·rename_i hl
  unfold zf3
  split
  ·have:=zjm (s:=s) (Nat.zero_le _);simp only;omega
  ·simp
theorem Ends.pos {l:List Tok}(h:Ends l):0<l.length:=by obtain⟨p,t,rfl,-⟩:=h;simp
structure Ent where
 cnf:Bool
 name:ByteArray
 role:ByteArray
 form:Fm
def Ent.dat (x:Ent):List Dat:=Dat.bool x.cnf::Dat.str x.name::Dat.str x.role::x.form.dat
def zij:ByteArray:=⟨#[97,120,105,111,109]⟩
def zoh:ByteArray:=⟨#[104,121,112,111,116,104,101,115,105,115]⟩
def zoi:ByteArray:=⟨#[100,101,102,105,110,105,116,105,111,110]⟩
def zoj:ByteArray:=⟨#[97,115,115,117,109,112,116,105,111,110]⟩
def zik:ByteArray:=⟨#[108,101,109,109,97]⟩
def zok:ByteArray:=⟨#[116,104,101,111,114,101,109]⟩
def zol:ByteArray:=⟨#[99,111,114,111,108,108,97,114,121]⟩
def zil:ByteArray:=⟨#[112,108,97,105,110]⟩
def zf0:ByteArray:=⟨#[99,111,110,106,101,99,116,117,114,101]⟩
def zom:ByteArray:=⟨#[110,101,103,97,116,101,100,95,99,111,110,106,101,99,116,117,114,101]⟩
def zso:List ByteArray:=[zij,zoh,zoi,zoj,zik,zok,zol,zil,zf0,zom]
def zcg (s:ByteArray):Bool:=zso.any fun r=>decide (s=r)
def zdc (cnf:Bool) (s:ByteArray):Bool:=zcg s&&!(cnf&&decide (s=zf0))
def Fm.lits (f:Fm):Option (List Fm):=if f.lit then some [f]else if f.op=7∧f.args.all Fm.lit=true then some f.args else none
def za1 (cnf:Bool) (f:Fm):Int:=if cnf then (if f.lits.isSome then 0 else 243)else if f.freeS=[]then 0 else 242
def Ent.check (x:Ent):Int:=if named x.name=false then 2 else if zdc x.cnf x.role=false then 241 else if x.form.check≠0 then x.form.check else za1 x.cnf x.form
structure Flt where
 file:Int
 at':Int
 e:Int
inductive Out (α:Type) where
 |ok (x:α)
 |flt (t:Flt)
def Out.bind {α β:Type}(x:Out α) (g:α→Out β):Out β:=match x with
 |.ok x=>g x
 |.flt t=>.flt t
@[simp] theorem Out.bind_ok {α β : Type} (x : α) (g : α → Out β) : Out.bind (.ok x) g = g x := rfl
@[simp] theorem Out.bind_flt {α β : Type} (t : Flt) (g : α → Out β) : Out.bind (.flt t) g = .flt t := rfl
def zcr (l:List Tok) (file:Int) (ks:List Tok):Flt:=⟨file,(zeb l (zbi l ks)).at',240⟩
def Rd.out {α β:Type}(x:Rd α) (l:List Tok) (file:Int) (g:α→List Tok→Out β):Out β:=match x with
 |.ok x r=>g x r
 |.bad r=>.flt (zcr l file r)
@[simp] theorem Rd.out_ok {α β : Type} (x : α) (r l : List Tok) (file : Int) (g : α → List Tok → Out β) : Rd.out (.ok x r) l file g = g x r := rfl
@[simp] theorem Rd.out_bad {α β : Type} (r l : List Tok) (file : Int) (g : α → List Tok → Out β) : Rd.out (.bad r) l file g = .flt (zcr l file r) := rfl
def zed:List Tok→Rd ByteArray
 |[]=>.bad []
 |t::ks=>if t.named || decide (t.kind=5)then .ok t.text ks else .bad (t::ks)
theorem zee (t:Tok) (ks:List Tok):zed (t::ks)=if t.named || decide (t.kind=5)then .ok t.text ks else .bad (t::ks):=rfl
def zay (ks:List Tok):Rd (ByteArray×Int):=(zed ks).map fun s=>(s,(zq ks).at')
def sDot:ByteArray:=⟨#[46]⟩
def sFof:ByteArray:=⟨#[102,111,102]⟩
def sCnf:ByteArray:=⟨#[99,110,102]⟩
def zon:ByteArray:=⟨#[105,110,99,108,117,100,101]⟩
def zbd (ks:List Tok):Rd (ByteArray×ByteArray×Int) :=
 (zl za6 ks).bind fun _ r1=>(zed r1).bind fun nm r2=>(zl zj r2).bind fun _ r3=>(za2 1 r3).bind fun role r4=>(zl zj r4).map fun _=>(nm,role,(zq r3).at')
def zdp (ks:List Tok):Rd Unit:=(zl zbo ks).bind fun _ r=>zl sDot r
def entR (l:List Tok) (file:Int) (cnf:Bool) (fr:Int) (n:Nat) (ks:List Tok):Out (Ent×List Tok) :=
 (zbd ks).out l file fun h r =>
  if zdc cnf h.2.1=false then .flt ⟨file,h.2.2,241⟩
  else if (zb0 l (l.length-r.length:Nat)).2.2≠0 then .flt ⟨file,(zre l (zb0 l (l.length-r.length:Nat)).2.1).at',(zb0 l (l.length-r.length:Nat)).2.2⟩
  else (zdp (l.drop (zb0 l (l.length-r.length:Nat)).2.1.toNat)).out l file fun _ r' =>
   if za1 cnf (zb0 l (l.length-r.length:Nat)).1≠0 then .flt ⟨file,fr,za1 cnf (zb0 l (l.length-r.length:Nat)).1⟩
   else if 200≤n then .flt ⟨file,fr,3⟩
   else .ok (⟨cnf,h.1,h.2.1,(zb0 l (l.length-r.length:Nat)).1⟩,r')
def zae (ks:List Tok):Rd (Option (List (ByteArray×Int))):=match zp zj ks with
 |none=>.ok none ks
 |some r1=>(zl zc3 r1).bind fun _ r2=>(rowR zay zj r2).bind fun ns r3=>(zl zc4 r3).map fun _=>some ns
def zba (ks:List Tok):Rd (ByteArray×Int×Option (List (ByteArray×Int))) :=
 (zl za6 ks).bind fun _ r1=>(za2 4 r1).bind fun fn r2=>(zae r2).bind fun ns r3=>(zl zbo r3).bind fun _ r4=>(zl sDot r4).map fun _=>(fn,(zq r1).at',ns)
def zh2 (files:List (ByteArray×ByteArray)) (nm:ByteArray):Option Nat:=files.findIdx? fun f=>decide (f.1=nm)
def zev (file:Int) (ns:Option (List (ByteArray×Int))) (l:List Ent):Out (List Ent):=match ns with
 |none=>.ok l
 |some ns=>match ns.find? fun p=>!(l.any fun x=>decide (x.name=p.1)) with
  |some p=>.flt ⟨file,p.2,244⟩
  |none=>.ok (l.filter fun x=>ns.any fun p=>decide (p.1=x.name))
def incR (rd:Nat→Nat→Nat→Out (List Ent×Nat)) (files:List (ByteArray×ByteArray)) (opn:Nat→Bool) (l:List Tok) (file:Int) (n cnt:Nat) (ks:List Tok):Out ((List Ent×Nat)×List Tok) :=
 (zba ks).out l file fun h r =>
  if 200<cnt+1 then .flt ⟨file,h.2.1,3⟩
  else match zh2 files h.1 with
   |none=>.flt ⟨file,h.2.1,244⟩
   |some i=>if opn i then .flt ⟨file,h.2.1,245⟩
    else (rd i n (cnt+1)).bind fun x=>(zev file h.2.2 x.1).bind fun l'=>.ok ((l',x.2),r)
def zb1 (rd:Nat→Nat→Nat→Out (List Ent×Nat)) (files:List (ByteArray×ByteArray)) (opn:Nat→Bool) (l:List Tok) (file:Int) (ahead:Nat):Nat→List Tok→List Ent→Nat→Out (List Ent×Nat)
 |0,_,_,_=>.flt ⟨0,0,0⟩
 |f+1,ks,out,cnt =>
  if (zq ks).kind=7 then .ok (out,cnt)
  else if (zq ks).kind=1∧((zq ks).text=sFof∨(zq ks).text=sCnf) then
   (entR l file (decide ((zq ks).text=sCnf)) (zq ks).at' (ahead+out.length) ks.tail).bind fun x=>zb1 rd files opn l file ahead f x.2 (out++[x.1]) cnt
  else if (zq ks).kind=1∧(zq ks).text=zon then
   (incR rd files opn l file (ahead+out.length) cnt ks.tail).bind fun x=>zb1 rd files opn l file ahead f x.2 (out++x.1.1) x.1.2
  else .flt (zcr l file ks)
def zdz (files:List (ByteArray×ByteArray)) (i:Nat):ByteArray:=(files[i]?.map Prod.snd).getD ⟨#[]⟩
def zdj (files:List (ByteArray×ByteArray)):Nat→(Nat→Bool)→Int→ByteArray→Nat→Nat→Out (List Ent×Nat)
 |0,_,_,_,_,_=>.flt ⟨0,0,0⟩
 |d+1,opn,file,s,ahead,cnt =>
  if (cutS s).2.2≠0 then .flt ⟨file,((cutS s).2.1:Nat),(cutS s).2.2⟩
  else zb1 (fun i n c=>zdj files d (fun k=>decide (k=i) || opn k) i (zdz files i) n c) files opn (cutS s).1 file ahead ((cutS s).1.length+1) (cutS s).1 [] cnt
def zf2 (files:List (ByteArray×ByteArray)) (s:ByteArray):Out (List Ent):=(zdj files (files.length+1) (fun _=>false) (-1) s 0 0).bind fun x=>.ok x.1
theorem zgv (ks:List Tok):(zed ks).rest <:+ ks:=by
 cases ks with
 |nil=>exact List.suffix_refl _
 |cons t ks =>
  rw[zee]
  split
  ·exact List.suffix_cons _ _
  ·exact List.suffix_refl _
theorem zi0 {ks r:List Tok}{x:ByteArray}(h:zed ks=.ok x r):r.length+1=ks.length:=by
 cases ks with
 |nil=>cases h
 |cons t ks =>
  rw[zee]at h
  split at h
  ·injection h with _ h;subst h;rfl
  ·cases h
theorem zln:Pres zed:=fun ks x r he h=>by
 cases ks with
 |nil=>cases h
 |cons t ks =>
  rw[zee]at h
  split at h
  ·rename_i ht
   injection h with _ h;subst h
   refine he.tail fun h7=>?_
   rw[Bool.or_eq_true,decide_eq_true_eq]at ht
   rcases ht with ht|ht
   ·exact zlk ht h7
   ·rw[ht]at h7;cases h7
  ·cases h
theorem ztz (ks:List Tok):(zay ks).rest <:+ ks:=zcb (zgv ks)
theorem zd7 (n:Nat):zbk zay n:=fun ks x r _ h=>by
 obtain⟨z,h1,-⟩:=map_ok h
 have:=zi0 h1
 omega
theorem zrf:Pres zay:=fun ks x r he h=>by
 obtain⟨z,h1,-⟩:=map_ok h
 exact zln _ _ _ he h1
theorem zjr (ks:List Tok):(zbd ks).rest <:+ ks :=
 zah (zam _ _) fun _ _ _=>zah (zgv _) fun _ _ _=>zah (zam _ _) fun _ _ _=>zah (zfg _ _) fun _ _ _=>zcb (zam _ _)
theorem zt0 (ks:List Tok):(zdp ks).rest <:+ ks:=zah (zam _ _) fun _ _ _=>zam _ _
theorem zgw {α β:Type}{one:List Tok→Rd α}{g:α→List Tok→Rd β}(h1:Pres one) (h2:∀x,Pres (g x)):Pres fun ks=>(one ks).bind g:=fun ks x r he h=>by
 obtain⟨z,r',h3,h4⟩:=bind_ok h
 exact h2 z r' x r (h1 _ _ _ he h3) h4
theorem ze6:Pres zbd :=
 zgw (za0 _) fun _=>zgw zln fun _=>zgw (za0 _) fun _ ks x r he h=>by
  obtain⟨z,r',h3,h4⟩:=bind_ok h
  obtain⟨y,h5,-⟩:=map_ok h4
  exact za0 _ _ _ _ (zhy (by decide) _ _ _ he h3) h5
theorem zrg:Pres zdp:=zgw (za0 _) fun _=>za0 _
theorem zim (ks:List Tok):(zae ks).rest <:+ ks:=by
 unfold zae
 cases h:zp zj ks with
 |none=>exact List.suffix_refl _
 |some r=>exact List.IsSuffix.trans (zah (zam _ _) fun _ _ _=>zah (zm6 ztz _) fun _ _ _=>zcb (zam _ _)) (zb2 h)
theorem zmp:Pres zae:=fun ks x r he h=>by
 unfold zae at h
 cases ht:zp zj ks with
 |none=>rw[ht]at h;injection h with _ h;subst h;exact he
 |some r1 =>
  rw[ht]at h
  simp only at h
  obtain⟨_,r2,h1,h⟩:=bind_ok h
  obtain⟨_,r3,h2,h⟩:=bind_ok h
  obtain⟨_,h3,-⟩:=map_ok h
  exact za0 _ _ _ _ (zji zrf _ _ _ (za0 _ _ _ _ (zb4 he ht) h1) h2) h3
theorem zrh (ks:List Tok):(zba ks).rest <:+ ks :=
 zah (zam _ _) fun _ _ _=>zah (zfg _ _) fun _ _ _=>zah (zim _) fun _ _ _=>zah (zam _ _) fun _ _ _=>zcb (zam _ _)
theorem zoo:Pres zba:=fun ks x r he h=>by
 obtain⟨_,r1,h1,h⟩:=bind_ok h
 obtain⟨_,r2,h2,h⟩:=bind_ok h
 obtain⟨_,r3,h3,h⟩:=bind_ok h
 obtain⟨_,r4,h4,h⟩:=bind_ok h
 obtain⟨_,h5,-⟩:=map_ok h
 exact za0 _ _ _ _ (za0 _ _ _ _ (zmp _ _ _ (zhy (by decide) _ _ _ (za0 _ _ _ _ he h1) h2) h3) h4) h5
theorem zf5 {α:Type}{x:Rd α}{y:α}{r ks:List Tok}(h:x.rest <:+ ks) (e:x=.ok y r):r <:+ ks:=by rw[e]at h;exact h
theorem ze7 {s:ByteArray}{ks r:List Tok}{u:Unit}(h:zl s ks=.ok u r):r.length<ks.length:=by have:=zbe h;omega
theorem zt1 {ks r:List Tok}{x}(h:zbd ks=.ok x r):r.length<ks.length:=by
 obtain⟨_,r1,h1,h2⟩:=bind_ok h
 have:=ze7 h1
 have:=(zf5 (zah (zgv r1) fun _ _ _=>zah (zam _ _) fun _ _ _=>zah (zfg _ _) fun _ _ _=>zcb (zam _ _)) h2).length_le
 omega
theorem zvl {ks r:List Tok}{x}(h:zdp ks=.ok x r):r.length<ks.length:=by
 obtain⟨_,r1,h1,h2⟩:=bind_ok h
 have:=ze7 h1
 have:=ze7 h2
 omega
theorem zt2 {ks r:List Tok}{x}(h:zba ks=.ok x r):r.length<ks.length:=by
 obtain⟨_,r1,h1,h2⟩:=bind_ok h
 have:=ze7 h1
 have:=(zf5 (zah (zfg _ r1) fun _ _ _=>zah (zim _) fun _ _ _=>zah (zam _ _) fun _ _ _=>zcb (zam _ _)) h2).length_le
 omega
theorem zmq {l r:List Tok}(he:Ends l) (hr:r <:+ l) (her:Ends r):0≤(zb0 l (l.length-r.length:Nat)).2.1∧(zb0 l (l.length-r.length:Nat)).2.1<l.length ∧
  ((zb0 l (l.length-r.length:Nat)).2.2=0→l.drop (zb0 l (l.length-r.length:Nat)).2.1.toNat <:+ r∧(l.drop (zb0 l (l.length-r.length:Nat)).2.1.toNat).length<r.length∧Ends (l.drop (zb0 l (l.length-r.length:Nat)).2.1.toNat)):=by
 have hp:=he.pos
 have hrp:=her.pos
 have hle:=hr.length_le
 have hd:l.drop (l.length-r.length)=r:=(List.suffix_iff_eq_drop.1 hr).symm
 unfold zb0
 rw[if_neg (by omega),Int.toNat_natCast,hd]
 cases hf:zgj r with
 |bad k=>simp only;exact⟨by omega,by have:zbi l k≤l.length-1:=Nat.min_le_right _ _;omega,fun h=>by cases h⟩
 |ok f k =>
  have hk:=ztv _ _ _ her hf
  have hkp:=hk.pos
  have hlt:=zxy hf
  have hks:=zf5 (zv9 r) hf
  simp only
  split
  ·rename_i hc;simp only;exact⟨by omega,by omega,fun h=>absurd h hc⟩
  ·simp only[Int.toNat_natCast]
   have hd2:l.drop (l.length-k.length)=k:=(List.suffix_iff_eq_drop.1 (hks.trans hr)).symm
   rw[hd2]
   exact⟨by omega,by omega,fun _=>⟨hks,hlt,hk⟩⟩
theorem zh3 {l:List Tok}{file:Int}{cnf:Bool}{fr:Int}{n:Nat}{ks r:List Tok}{x:Ent}(he:Ends l) (hk:ks <:+ l) (hke:Ends ks) (h:entR l file cnf fr n ks=.ok (x,r)):r <:+ ks∧r.length<ks.length∧Ends r∧n<200:=by
 unfold entR at h
 cases hh:zbd ks with
 |bad r1=>rw[hh]at h;cases h
 |ok y r1 =>
  rw[hh,Rd.out_ok]at h
  have hs1:=zf5 (zjr ks) hh
  have hl1:=zt1 hh
  have he1:=ze6 _ _ _ hke hh
  obtain⟨-,-,ha⟩:=zmq he (hs1.trans hk) he1
  split at h
  ·cases h
  ·split at h
   ·cases h
   ·rename_i h0
    obtain⟨a1,a2,a3⟩:=ha (Decidable.not_not.1 h0)
    cases hE:zdp (l.drop (zb0 l (l.length-r1.length:Nat)).2.1.toNat) with
    |bad r2=>rw[hE]at h;cases h
    |ok y2 r2 =>
     rw[hE,Rd.out_ok]at h
     split at h
     ·cases h
     ·split at h
      ·cases h
      ·injection h with h
       injection h with _ h
       subst h
       have hs2:=zf5 (zt0 _) hE
       have:=zvl hE
       exact⟨(hs2.trans a1).trans hs1,by omega,zrg _ _ _ a3 hE,by omega⟩
theorem Out.bind_eq_ok {α β:Type}{x:Out α}{g:α→Out β}{y:β}(h:x.bind g=.ok y):∃z,x=.ok z∧g z=.ok y:=by
 cases x with
 |ok z=>exact⟨z,rfl,h⟩
 |flt t=>cases h
theorem zmr {rd:Nat→Nat→Nat→Out (List Ent×Nat)}{files:List (ByteArray×ByteArray)}{opn:Nat→Bool}{l:List Tok}{file:Int}{n cnt:Nat}{ks r:List Tok}{x:List Ent×Nat}(hke:Ends ks) (h:incR rd files opn l file n cnt ks=.ok (x,r)):r <:+ ks∧r.length<ks.length∧Ends r:=by
 unfold incR at h
 cases hh:zba ks with
 |bad r1=>rw[hh]at h;cases h
 |ok y r1 =>
  rw[hh,Rd.out_ok]at h
  split at h
  ·cases h
  ·split at h
   ·cases h
   ·split at h
    ·cases h
    ·obtain⟨z,-,h⟩:=Out.bind_eq_ok h
     obtain⟨z2,-,h⟩:=Out.bind_eq_ok h
     injection h with h
     injection h with _ h
     subst h
     exact⟨zf5 (zrh ks) hh,zt2 hh,zoo _ _ _ hke hh⟩
def toGo:Rd Unit→Nat
 |.ok _ r=>r.length+1
 |.bad _=>0
section
variable {α:Type}{one:List Tok→Rd α}{sep:ByteArray}
theorem zgh {ks:List Tok}{n:Nat}(hs:zbk one n) (hn:ks.length≤n):toGo (one ks).st≤ks.length:=by
 cases h:one ks with
 |bad r=>exact Nat.zero_le _
 |ok x r=>exact hs ks x r hn h
theorem zop {ks:List Tok}{x':α}(hv:∀x r,one ks=.ok x r→x'=x):rowR one sep ks=(one ks).st.bind fun _ r=>(more one sep r).map ([x']++·):=by
 unfold rowR
 cases h:one ks with
 |bad r=>rfl
 |ok x r=>rw[hv x r h];rfl
theorem zms {r r1:List Tok}{u:Unit}{x':α}{pre:List α}{A:Rd (List α)}(hs:∀n,zbk one n) (hA:A=(Rd.ok u r).bind fun _ r=>(more one sep r).map (pre++·)) (ht:zp sep r=some r1) (hv:∀x k,one r1=.ok x k→x'=x) :
  A=(one r1).st.bind fun _ r=>(more one sep r).map ((pre++[x'])++·):=by
 rw[hA,Rd.bind_ok,zff (hs _),ht]
 simp only
 cases h:one r1 with
 |bad r=>rfl
 |ok x k =>
  rw[hv x k h,Rd.bind_ok]
  show _=(more one sep k).map _
  cases more one sep k<;>simp
theorem zri {st:Rd Unit}{pre:List α}{A:Rd (List α)}(hs:∀n,zbk one n) (hA:A=st.bind fun _ r=>(more one sep r).map (pre++·)) (ht:zdi sep st=false):A=(st.map fun _=>pre)∧zcq sep st=st:=by
 rw[hA]
 cases st with
 |bad r=>exact⟨rfl,rfl⟩
 |ok u r =>
  have hn:zp sep r=none:=by
   unfold zdi at ht
   cases h:zp sep r with
   |none=>rfl
   |some r1=>simp[h]at ht
  refine⟨?_,(zn hn).1⟩
  rw[Rd.bind_ok,zff (hs _),hn]
  simp
theorem ze8 {st:Rd Unit}(ht:zdi sep st=true):∃r r1,st=.ok () r∧zp sep r=some r1∧zcq sep st=.ok () r1∧r1.length+1=r.length:=by
 cases st with
 |bad r=>cases ht
 |ok u r =>
  unfold zdi at ht
  cases h:zp sep r with
  |none=>simp[h]at ht
  |some r1=>exact⟨r,r1,rfl,h,(z7 h).1,zu h⟩
end
def zvm (rb:Nat) (l:List Tok) (n:Nat):Prop:=∀ks u,ks.length≤n→∀w,RSt rb l w (.ok u ks)→Calls Tryz.prog 170 #[.pointer (some ⟨rb,0,none⟩)] w (zar znm rb l w (zag ks))
section
variable {rb:Nat}{l:List Tok}
theorem zoq (hl:l.length≤1073741824){u:Unit}{ks:List Tok}{w:World}(h:RSt rb l w (.ok u ks)) (h2:(zq ks).kind≠2) (hn:(zq ks).named=false) :
  Calls Tryz.prog 170 #[.pointer (some ⟨rb,0,none⟩)] w (zar znm rb l w (zag ks)):=by
 have HE:=Lib.hid (show zag ks=.bad ks by
  rw[zfq]
  cases ks with
  |nil=>rfl
  |cons t r =>
   have h2:t.kind≠2:=h2
   have hn:t.named=false:=hn
   rw[zao,if_neg h2,hn];rfl)
 have HS:=Lib.hid h
 have HP:=Lib.hid (fun w' (hx:Ext w w')=>zaz hl (h.ext hx))
 obtain⟨a,c,p,hown,hp,hpk,hsuf,-,-⟩:=h.good
 have hlt:=hown.lt
 obtain⟨c2,f2⟩:=hown 2 _ rfl
 clear hown hpk hsuf h
 obtain⟨W,hW⟩:∃W,W=w.alloc (.cells #[.bool false,.string ⟨#[]⟩,.slice none 0 0] 73):=⟨_,rfl⟩
 have hx:Ext w W:=by rw[hW];exact zd _ _
 have hnew:Own W w.heap.size [.bool false,.string ⟨#[]⟩,.slice none 0 0]:=by rw[hW];exact own3 w _ _ _ _
 go_enter Tryz.func170,Tryz.ntmps170
 go_upto_region 2 with (rw[←hW];clear hW;go_at_call 84;refine(HP.out _ hx).mono ?_;rintro e w1 ⟨⟨t2,rfl,hsz,ht2⟩,hx1⟩;replace c2:=(hx.trans hx1).cell c2;replace hnew:=hnew.ext hx1;have hlt1:rb<w1.heap.size:=zf c2;simp only[Tok.vals])
 have htp:=ht2 u ks rfl
 rw[←htp]at h2 hn
 clear htp ht2
 have HNM:=Lib.hid (fun w=>zfn (w:=w) t2 hsz)
 rw[hn]at HNM
 obtain⟨kd,tx,ta⟩:=t2
 simp only at hsz h2 ⊢
 have q1:(kd==2)=false:=by rw[beq_eq_false_iff_ne];exact h2
 clear hn h2
 simp only[Tok.vals]at HNM
 go_wp2_with (first|(go_at_call 183;refine(HNM.out _).mono ?_;rintro e w2 ⟨rfl,hx2⟩;have hx3:=(hx.trans hx1).trans ((zd _ _).trans hx2);have hn3:=hnew.ext ((zd _ _).trans hx2))|(go_at_call 117;refine(zec hl (HS.out.ext hx3)).mono ?_;rintro e w3 ⟨rfl,h4,hx4⟩;have hn4:=hn3.chg hx4 (by simp;omega);(obtain⟨n0,g0⟩:=hn4 0 _ rfl);(obtain⟨n1,g1⟩:=hn4 1 _ rfl);(obtain⟨n2,g2⟩:=hn4 2 _ rfl)))
 have hres:=zbt hn4 (.bool false) (.string ⟨#[]⟩) (.slice none 0 0)
 have hch:=zcc w3 w.heap.size (.bool false) (.string ⟨#[]⟩) (.slice none 0 0)
 have hcf:=h4.chg hch (by simp;omega)
 have hcq:=Chg.drop (T:=[rb]) (Below.refl _ _) ((((Chg.of_ext hx3).trans hx4).mono (T:=[rb,w.heap.size]) (by simp)).trans (hch.mono (by simp))) (by simp)
 clear hch n0 n1 n2 g0 g1 g2
 generalize ((w3.setCell ⟨w.heap.size,0,none⟩ (.bool false)).setCell ⟨w.heap.size,1,none⟩ (.string ⟨#[]⟩)).setCell ⟨w.heap.size,2,none⟩ (.slice none 0 0)=W2 at *
 obtain⟨r0,r1,r2⟩:=zd5 hres
 refine bodyPost_ret (v:=.agg #[.bool false,.string ⟨#[]⟩,.slice none 0 0]) (by simp[results,Tryz.results170,go_sem,r0,r1,r2]) rfl ⟨hcq,?_⟩
 rw[HE.out]
 exact⟨hcf,_,_,rfl,⟨_,_,_,rfl,zkx false (Nat.zero_le _)⟩,fun x r he=>by cases he⟩
theorem zvn (hl:l.length≤1073741824){u:Unit}{t:Tok}{r:List Tok}{w:World}(h:RSt rb l w (.ok u (t::r))) (h2:t.kind=2) :
  Calls Tryz.prog 170 #[.pointer (some ⟨rb,0,none⟩)] w (zar znm rb l w (zag (t::r))):=by
 have HP:=Lib.hid (fun w' (hx:Ext w w')=>zaz hl (h.ext hx))
 obtain⟨a,c,p,hown,hp,hpk,hsuf,hmove,-⟩:=h.good
 have hlt:=hown.lt
 have hsz:=(h.toks t (hsuf.subset (by simp))).2.1
 obtain⟨c1,f1⟩:=hown 1 _ rfl
 obtain⟨c2,f2⟩:=hown 2 _ rfl
 have HM:=Lib.hid hmove
 have HK:=Lib.hid (show((p:Int)+1)=((l.length-r.length:Nat):Int) by have:=hsuf.length_le;simp at this;simp at hpk;omega)
 have HR:=Lib.hid ((List.suffix_cons t r).trans hsuf)
 have hp1:(p:Int)+1≤1073741824:=by have:=hsuf.length_le;simp at this;simp at hpk;omega
 have HE:=Lib.hid (show zag (t::r)=.ok (.mk true t.text []) r by rw[zfq,zao,if_pos h2])
 clear hown h hmove hpk hsuf
 obtain⟨kd,tx,ta⟩:=t
 simp only at HE hsz
 have q1:(kd==2)=true:=by rw[beq_iff_eq];exact h2
 clear h2
 obtain⟨W,hW⟩:∃W,W=w.alloc (.cells #[.bool false,.string ⟨#[]⟩,.slice none 0 0] 73):=⟨_,rfl⟩
 have hx:Ext w W:=by rw[hW];exact zd _ _
 have hnew:Own W w.heap.size [.bool false,.string ⟨#[]⟩,.slice none 0 0]:=by rw[hW];exact own3 w _ _ _ _
 go_enter Tryz.func170,Tryz.ntmps170
 go_wp2_with (rw[←hW];clear hW;go_at_call 84;refine(HP.out _ hx).mono ?_;rintro e w1 ⟨⟨t2,rfl,-,ht2⟩,hx1⟩;obtain rfl:t2=⟨kd,tx,ta⟩:=ht2 _ _ rfl;simp only[Tok.vals];clear ht2;replace f1:=(hx.trans hx1).frozen c1 f1;replace c1:=(hx.trans hx1).cell c1;replace c2:=(hx.trans hx1).cell c2;replace hnew:=hnew.ext hx1;have hlt1:rb<w1.heap.size:=zf c1;have hlt2:=hnew.lt;(obtain⟨n0,g0⟩:=hnew 0 _ rfl);(obtain⟨n1,g1⟩:=hnew 1 _ rfl);(obtain⟨n2,g2⟩:=hnew 2 _ rfl);have hne:w.heap.size≠rb:=by omega)
 have hch:=(zcc (w1.setCell ⟨rb,1,none⟩ (.int .i64 ((p:Int)+1))) w.heap.size (.bool true) (.string tx) (.slice none 0 0)).alloc (.cells #[.int .i64 kd,.string tx,.int .i64 ta] 77)
 have k1:=(HM.out w1 (Chg.of_ext (hx.trans hx1)) _ _ HR.out HK.out).chg hch (by simp;omega)
 have k2:=Chg.drop (T:=[rb]) (Below.refl _ _) ((((Chg.of_ext (S:=[rb]) (hx.trans hx1)).setCell (p:=⟨rb,1,none⟩) (.int .i64 ((p:Int)+1)) (.inl (by simp))).mono (T:=[rb,w.heap.size]) (by simp)).trans (hch.mono (by simp))) (by simp)
 have hres:=(zbt (hnew.chg ((Chg.refl [rb] w1).setCell (p:=⟨rb,1,none⟩) (.int .i64 ((p:Int)+1)) (.inl (by simp))) (by simpa using hne)) (.bool true) (.string tx) (.slice none 0 0)).ext (zd _ (.cells #[.int .i64 kd,.string tx,.int .i64 ta] 77))
 clear hch hnew c1 f1 n0 n1 n2 g0 g1 g2 hlt1 hlt2
 generalize ((((w1.setCell ⟨rb,1,none⟩ (.int .i64 ((p:Int)+1))).setCell ⟨w.heap.size,0,none⟩ (.bool true)).setCell ⟨w.heap.size,1,none⟩ (.string tx)).setCell ⟨w.heap.size,2,none⟩ (.slice none 0 0)).alloc (.cells #[.int .i64 kd,.string tx,.int .i64 ta] 77)=W2 at *
 obtain⟨r0,r1,r2⟩:=zd5 hres
 refine bodyPost_ret (v:=.agg #[.bool true,.string tx,.slice none 0 0]) (by simp[results,Tryz.results170,go_sem,r0,r1,r2]) rfl ⟨k2,?_⟩
 rw[HE.out]
 exact⟨k1,_,_,rfl,⟨_,_,_,rfl,zkx true hsz⟩,fun x r he=>by injection he⟩
end
def zzk (rb:Nat) (l:List Tok) (V:World) (B xb nb:Nat) (nm:ByteArray) (m:Nat) (A:Rd (List Ex)) (g:Nat) (wr:World):Prop :=
 ∃(st:Rd Unit) (pre:List Ex) (vv:Value),g=toGo st∧RSt rb l wr st∧GRow (zz 3) 73 B wr vv (pre.map Ex.dat)∧Own wr xb [.bool false,.string nm,vv]∧Own wr nb [.bool false,.string ⟨#[]⟩,.slice none 0 0]∧Chg [rb,xb] V wr ∧
  pre.length+toGo st≤m∧A=st.bind fun _ r=>(more zag zj r).map (pre++·)
theorem RSt.append {α:Type}{E:Elt α}{e B rb:Nat}{l:List Tok}{w w1 w2:World}{st:Rd Unit}{v:Value}{m:List α}(h:RSt rb l w1 st) (hr:GRow E e B w v m) (hB:rb<B) (hg:w1.grownBy w2 v.ownBlock):RSt rb l w2 st:=by
 cases ho:v.ownBlock with
 |none =>
  rw[ho]at hg
  exact h.chg (S:=[]) (Chg.of_grown hg (by simp)) (by simp)
 |some g =>
  rw[ho]at hg
  have:=(hr.own_ge ho).1
  exact h.chg (S:=[g]) (Chg.of_grown hg (by simp)) (by simp;omega)
theorem zza {rb:Nat}{l:List Tok}{V wr w4 w5:World}{B xb nb:Nat}{nm:ByteArray}{m:Nat}{A:Rd (List Ex)}{st:Rd Unit}{pre:List Ex}{x':Ex}{vv vv':Value}{o:Obj}
  (hq:Chg [rb,xb] V wr) (hx4:Chg [rb] wr w4) (hst:RSt rb l w4 st) (hrow4:GRow (zz 3) 73 B w4 vv (pre.map Ex.dat)) (hxb:Own wr xb [.bool false,.string nm,vv]) (hnb:Own wr nb [.bool false,.string ⟨#[]⟩,.slice none 0 0])
  (hgrow:(w4.alloc o).grownBy w5 vv.ownBlock) (hrow5:GRow (zz 3) 73 B w5 vv' (pre.map Ex.dat++[x'.dat])) (h1:rb<xb) (h2:xb<B) (h3:nb<B) (h4:nb≠xb) (h5:nb≠rb) (hV:V.heap.size≤B)
  (hlen:pre.length+1+toGo st≤m) (hA:A=st.bind fun _ r=>(more zag zj r).map ((pre++[x'])++·)):zzk rb l V B xb nb nm m A (toGo st) (w5.setCell ⟨xb,2,none⟩ vv'):=by
 have hset:=(Chg.refl [xb] w5).setCell (p:=⟨xb,2,none⟩) vv' (.inl (by simp))
 have hnot:∀b,b<B→vv.ownBlock≠some b:=fun b hb e=>by have:=(hrow4.own_ge e).1;omega
 refine⟨st,pre++[x'],vv',rfl,((hst.ext (zd _ o)).append hrow4 (by omega) hgrow).chg hset (by simp;omega),?_,?_,?_,?_,by simp;omega,hA⟩
 ·rw[List.map_append]
  exact hrow5.chg hset (by simp;omega)
 ·exact(zb5 ((hxb.chg hx4 (by simp;omega)).ext (zd _ o)) hgrow (hnot _ h2)).set (i:=2) (by simp) vv'
 ·exact(zb5 ((hnb.chg hx4 (by simpa using h5)).ext (zd _ o)) hgrow (hnot _ h3)).chg hset (by simpa using h4)
 ·exact(zbr (hq.trans (hx4.mono (by simp))) hrow4 hV (zd _ o) hgrow).trans (hset.mono (by simp))
theorem zrj {rb:Nat}{l:List Tok}(hl:l.length≤1073741823){n:Nat}(ih:zvm rb l n){u:Unit}{t:Tok}{r:List Tok}{w:World}(h:RSt rb l w (.ok u (t::r))) (hrn:r.length≤n) (hnm:t.named=true) :
  Calls Tryz.prog 170 #[.pointer (some ⟨rb,0,none⟩)] w (zar znm rb l w (zag (t::r))):=by
 have h2:t.kind≠2:=fun h2=>by rw[zqm h2]at hnm;cases hnm
 have hl2:l.length≤1073741824:=by omega
 have HP:=Lib.hid (fun w' (hx:Ext w w')=>zaz hl2 (h.ext hx))
 obtain⟨a,c,p,hown,hp,hpk,hsuf,hmove,-⟩:=h.good
 have hlt:=hown.lt
 have hsz:=(h.toks t (hsuf.subset (by simp))).2.1
 obtain⟨c1,f1⟩:=hown 1 _ rfl
 obtain⟨c2,f2⟩:=hown 2 _ rfl
 have HM:=Lib.hid hmove
 have HK:=Lib.hid (show((p:Int)+1)=((l.length-r.length:Nat):Int) by have:=hsuf.length_le;simp at this;simp at hpk;omega)
 have HR:=Lib.hid ((List.suffix_cons t r).trans hsuf)
 have hp1:(p:Int)+1≤1073741824:=by have:=hsuf.length_le;simp at this;simp at hpk;omega
 have hrl:r.length+1≤l.length:=by have:=hsuf.length_le;simpa using this
 have HE:=Lib.hid (show zag (t::r)=match zp za6 r with
    |none=>.ok (.mk false t.text []) r
    |some r=>(rowR zag zj r).bind fun l r'=>(zl zbo r').map fun _=>.mk false t.text l by rw[zfq,zao,if_neg h2,if_pos hnm];rfl)
 have HNM:=Lib.hid (fun w=>zfn (w:=w) t hsz)
 rw[hnm]at HNM
 have HIH:=Lib.hid ih
 clear hown h hmove hpk hsuf hnm ih
 obtain⟨kd,tx,ta⟩:=t
 simp only at HE hsz
 have q1:(kd==2)=false:=by rw[beq_eq_false_iff_ne];exact h2
 clear h2
 simp only[Tok.vals]at HNM
 obtain⟨W,hW⟩:∃W,W=w.alloc (.cells #[.bool false,.string ⟨#[]⟩,.slice none 0 0] 73):=⟨_,rfl⟩
 have hx:Ext w W:=by rw[hW];exact zd _ _
 have hnew:Own W w.heap.size [.bool false,.string ⟨#[]⟩,.slice none 0 0]:=by rw[hW];exact own3 w _ _ _ _
 obtain⟨i0,hi0,hz0,hz1',hz2'⟩:=info_parts ztj
 go_enter Tryz.func170,Tryz.ntmps170
 go_upto_region 12 with (first|(rw[←hW];clear hW;go_at_call 84;refine(HP.out _ hx).mono ?_;rintro e w1 ⟨⟨t2,rfl,-,ht2⟩,hx1⟩;obtain rfl:t2=⟨kd,tx,ta⟩:=ht2 _ _ rfl;simp only[Tok.vals];clear ht2;replace f1:=(hx.trans hx1).frozen c1 f1;replace c1:=(hx.trans hx1).cell c1;replace c2:=(hx.trans hx1).cell c2;replace hnew:=hnew.ext hx1;have hlt1:rb<w1.heap.size:=zf c1;have hlt2:=hnew.lt;(obtain⟨n0,g0⟩:=hnew 0 _ rfl);(obtain⟨n1,g1⟩:=hnew 1 _ rfl);(obtain⟨n2,g2⟩:=hnew 2 _ rfl);have hne:w.heap.size≠rb:=by omega)|(go_at_call 183;refine(HNM.out _).mono ?_;rintro e w2 ⟨rfl,hx2'⟩;have hx2:=(zd _ _).trans hx2';(have hne2:w1.heap.size≠rb:=by omega);have t1:=(((own3 w1 (.int .i64 kd) (.string tx) (.int .i64 ta) 77).ext hx2') 1 _ rfl).1;clear hx2' n0 n1 n2 g0 g1 g2 hlt1 hlt2;replace f1:=hx2.frozen c1 f1;replace c1:=hx2.cell c1;replace hnew:=hnew.ext hx2;have hlt1:rb<w2.heap.size:=zf c1;have hlt2:=hnew.lt))
 have hchV:Chg [rb] w2 (w2.setCell ⟨rb,1,none⟩ (.int .i64 ((p:Int)+1))):=(Chg.refl [rb] w2).setCell _ (.inl (by simp))
 have HV:=Lib.hid (HM.out w2 (Chg.of_ext ((hx.trans hx1).trans hx2)) r _ HR.out HK.out)
 obtain⟨V1,hV1⟩:∃V1,V1=w2.setCell ⟨rb,1,none⟩ (.int .i64 ((p:Int)+1)):=⟨_,rfl⟩
 rw[←hV1]at hchV HV ⊢
 have hz1:=hchV.size
 have hzV:V1.heap.size=w2.heap.size:=by rw[hV1];simp[World.setCell]
 have HZ:=Lib.hid hzV
 have hxb:=own3 V1 (.bool false) (.string tx) (.slice none 0 0) 73
 have hnV:=(hnew.chg hchV (by simpa using hne)).ext (zd V1 (.cells #[.bool false,.string tx,.slice none 0 0] 73))
 have hcV:=HV.out.ext (zd V1 (.cells #[.bool false,.string tx,.slice none 0 0] 73))
 have hqV:Chg [rb] w (V1.alloc (.cells #[.bool false,.string tx,.slice none 0 0] 73)):=(((Chg.of_ext ((hx.trans hx1).trans hx2)).trans hchV).alloc _)
 rw[hzV]at hxb
 clear hchV HV hV1 hz1 hzV HZ hnew c1 f1 t1 c2 f2
 generalize V1.alloc (.cells #[.bool false,.string tx,.slice none 0 0] 73)=V at *
 have hxn:w2.heap.size≠w.heap.size:=by omega
 have hwx:w.heap.size<w2.heap.size:=hlt2
 clear hx hx1 hx2 hne2 hlt1 hlt2 HP HNM
 generalize w1.heap.size=tb at *
 generalize w2.heap.size=xb at *
 have hcx:rb<xb:=by omega
 have hcx':xb≠rb:=by omega
 have HT:=zal hl2 hcV za6
 cases ht:zp za6 r with
 |none =>
  rw[ht]at HE
  rw[(zn ht).1,(zn ht).2]at HT
  replace HT:=Lib.hid HT
  clear ht
  simp only[za6]at HT
  go_wp2_with (go_at_call 132;refine(HT.out).mono ?_;rintro e w3 ⟨rfl,hc3,hx3⟩;have hxb3:=hxb.chg hx3 (by simpa using hcx');have hnV3:=hnV.chg hx3 (by simpa using hne);(obtain⟨m0,-⟩:=hxb3 0 _ rfl);(obtain⟨m1,-⟩:=hxb3 1 _ rfl);(obtain⟨m2,-⟩:=hxb3 2 _ rfl);(obtain⟨n0,g0⟩:=hnV3 0 _ rfl);(obtain⟨n1,g1⟩:=hnV3 1 _ rfl);(obtain⟨n2,g2⟩:=hnV3 2 _ rfl))
  have hres:=zbt hnV3 (.bool false) (.string tx) (.slice none 0 0)
  have hch:=zcc w3 w.heap.size (.bool false) (.string tx) (.slice none 0 0)
  have hcf:=hc3.chg hch (by simp;omega)
  have hcq:=Chg.drop (T:=[rb]) (Below.refl _ _) (((hqV.trans hx3).mono (T:=[rb,w.heap.size]) (by simp)).trans (hch.mono (by simp))) (by simp)
  clear hch m0 m1 m2 n0 n1 n2 g0 g1 g2
  generalize ((w3.setCell ⟨w.heap.size,0,none⟩ (.bool false)).setCell ⟨w.heap.size,1,none⟩ (.string tx)).setCell ⟨w.heap.size,2,none⟩ (.slice none 0 0)=W2 at *
  obtain⟨r0,r1,r2⟩:=zd5 hres
  refine bodyPost_ret (v:=.agg #[.bool false,.string tx,.slice none 0 0]) (by simp[results,Tryz.results170,go_sem,r0,r1,r2]) rfl ⟨hcq,?_⟩
  rw[HE.out]
  exact⟨hcf,_,_,rfl,⟨_,_,_,rfl,zkx false hsz⟩,fun x r he=>by injection he⟩
 |some r1 =>
  have hr1:=zu ht
  rw[ht]at HE
  rw[(z7 ht).1,(z7 ht).2]at HT
  replace HT:=Lib.hid HT
  simp only at HE
  clear ht
  simp only[za6]at HT
  have HTT:=Lib.hid (fun w' (h:RSt rb l w' (.ok () r1))=>HIH.out r1 () (by omega) w' h)
  unfold zar at HTT
  go_upto_region 14 with (go_at_call 132;refine(HT.out).mono ?_;rintro e w3 ⟨rfl,hc3,hx3⟩)
  have hxb3:=hxb.chg hx3 (by simpa using hcx')
  have hnV3:=hnV.chg hx3 (by simpa using hne)
  have hq3:=hqV.trans hx3
  have hxl:=hxb3.lt
  clear hxb hnV hcV hqV hx3 HT
  obtain⟨p2,y2⟩:=hxb3 2 _ rfl
  have hrow:GRow (zz 3) 73 w3.heap.size w3 (.slice none 0 0) (([]:List Ex).map Ex.dat):=GRow.nil
  have hrbl:=hc3.lt
  go_cut []from 46 to 52 (fun wx=>∃g,zzk rb l w3 w3.heap.size xb w.heap.size tx (r1.length+1) (rowR zag zj r1) g wx)
  case first =>
   go_region_law ((first
    |(go_simp;go_at_call 170;refine(HTT.out _ (hc3.ext (Ext.drew (Below.refl _ w3)))).mono ?_;rintro e w4 ⟨hx4',hst4,v4,x4,rfl,⟨xa,xv,xc,rfl,hex⟩,hval⟩;(have hx4:Chg [rb] w3 w4:=(Chg.of_ext (Ext.drew (Below.refl _ w3))).trans hx4');(have hrow4:=hrow.chg hx4 (by simpa using hrbl));(obtain⟨d1,e1,rfl,rfl,rfl,-⟩:=hex.form);(have d5:=hx4.cell p2 (by simpa using hcx'));(have d6:=hx4.frozen p2 (by simpa using hcx') y2);(have d7:=(zd w4 (.cells #[.bool x4.var,.string x4.name,.slice d1 x4.args.length e1] 73)).cell d5);(try simp only[]))
    |(refine zan rfl (.tmp 47) (.tmp 50) _ rfl 73 i0 _ 48 Tryz.underlying26 hi0 hz0 hz1' hz2' rfl (by decide) w3.heap.size (.slice none 0 0) (([]:List Ex).map Ex.dat) (by rfl) w4 hrow4 (zd _ _) w4.heap.size (by rfl) _ _ (heap_alloc_new _ _) x4.dat (zu2 (hex.ext (zd _ _)) fun g hg hlt=>(show w3.heap.size≤g∧(Value.slice none 0 0).ownBlock≠some g from ⟨by have:w3.drew.heap.size≤g:=hg;simpa using this,fun e=>by cases e⟩)) (by decide) (by decide) (by have:=hx4.size;simp;omega) ?_;intro g cap w5 hrow5 hgrow hat hlt5;(have hfar:(some (⟨xb,2,none⟩:Addr).block)≠(Value.slice none 0 0).ownBlock:=fun e=>by cases e);(have hlt6:(⟨xb,2,none⟩:Addr).block<(w4.alloc (.cells #[.bool x4.var,.string x4.name,.slice d1 x4.args.length e1] 73)).heap.size:=Nat.lt_of_lt_of_le (zf d5) (zd w4 _).size);(have e5:=(hgrow.cell_far ⟨xb,2,none⟩ hlt6 hfar).trans ((zd w4 _).cell d5));(have e6:=(hgrow.frozen_far ⟨xb,2,none⟩ hlt6 hfar).trans ((zd w4 _).frozen d5 d6)))))
   all_goals
    go_wp2_with fail
    go_meet
    exact⟨_,zza (pre:=[]) (Chg.refl _ _) hx4 hst4 hrow4 hxb3 hnV3 hgrow hrow5 hcx hxl (by omega) (Ne.symm hxn) hne (Nat.le_refl _) (by have:=zgh (zce _) (Nat.le_refl r1.length);simp;omega) (zop hval)⟩
  case rest =>
   generalize wc=w6 at hcut ⊢
   obtain⟨g6,hr6⟩:=hcut
   have HC6:=Lib.hid hr6
   clear hr6
   obtain⟨B,hB⟩:∃B,B=w3.heap.size:=⟨_,rfl⟩
   rw[←hB]at HC6 hxl
   have hB1:w3.heap.size≤B:=by omega
   have hB0:B≤w3.heap.size:=by omega
   have hB2:w.heap.size<B:=by omega
   clear hB hc3 hxb3 hnV3 p2 y2 hrow hrbl HTT
   go_wp2_with fail
   go_loopg [] g6 (fun g wr=>zzk rb l w3 B xb w.heap.size tx (r1.length+1) (rowR zag zj r1) g wr)
   case atStart=>exact HC6.out
   case round =>
    obtain⟨st,pre,vv,hg,hst,hrow,hxb,hnb,hq,hlen,hA⟩:=hrel
    have HG:=Lib.hid hg
    have HA:=Lib.hid hA
    have HML:=Lib.hid (show(pre.map Ex.dat).length=pre.length by simp)
    obtain⟨va,vc,hv,hvc⟩:=hrow.form
    rw[HML.out]at hv hvc
    subst hv
    clear hg hA HC6
    have HT:=zal hl2 hst zj
    have hpl:pre.length≤1073741823:=by omega
    cases hb:zdi zj st with
    |false =>
     obtain⟨hA,hS⟩:=zri zce HA.out hb
     have HA2:=Lib.hid hA
     rw[hb,hS]at HT
     replace HT:=Lib.hid HT
     clear hA hS hb
     simp only[zj]at HT
     have HM2:=Lib.hid (fun w' (h:RSt rb l w' st)=>ze5 hl2 h zbo)
     simp only[zbo]at HM2
     obtain⟨oa,oc,ho,hoc,hod⟩:=GRow.dat (by decide) hrow
     rw[HML.out]at ho hoc
     injection ho with e1 _ e3
     subst e1;subst e3
     have hxl2:=hxb.lt
     have hdat:Dat.Rows (fun g=>B≤g) wr va (pre.map Ex.dat):=hod
     clear hod hoc
     go_wp2_with (first|(go_at_call 132;refine(HT.out).mono ?_;rintro e w7 ⟨rfl,hc7,hx7⟩)|(go_at_call 134;refine(HM2.out _ hc7).mono ?_;rintro e w8 ⟨rfl,hc8,hx8⟩;have hxb8:=(hxb.chg hx7 (by simpa using hcx')).chg hx8 (by simpa using hcx');have hnb8:=(hnb.chg hx7 (by simpa using hne)).chg hx8 (by simpa using hne);(obtain⟨m0,-⟩:=hxb8 0 _ rfl);(obtain⟨m1,-⟩:=hxb8 1 _ rfl);(obtain⟨m2,-⟩:=hxb8 2 _ rfl);(obtain⟨n0,g0⟩:=hnb8 0 _ rfl);(obtain⟨n1,g1⟩:=hnb8 1 _ rfl);(obtain⟨n2,g2⟩:=hnb8 2 _ rfl)))
     have hres:=zbt hnb8 (.bool false) (.string tx) (.slice va pre.length vc)
     have hch:=zcc w8 w.heap.size (.bool false) (.string tx) (.slice va pre.length vc)
     have hcf:=hc8.chg hch (by simp;omega)
     have h78:Chg [rb,w.heap.size] wr _:=((hx7.trans hx8).mono (T:=[rb,w.heap.size]) (by simp)).trans (hch.mono (by simp))
     have hcq:=Chg.drop (T:=[rb]) (Below.refl _ _) ((((hq3.mono (T:=[rb,xb,w.heap.size]) (by simp)).trans (hq.mono (by simp))).trans (h78.mono (by simp)))) (by simp;omega)
     have hdat':=Dat.Rows.mono (Dat.Rows.chg hdat h78 (fun b hb=>by simp;omega)) (Q:=fun g=>w.heap.size≤g) (fun b hb _=>by omega)
     clear hch m0 m1 m2 n0 n1 n2 g0 g1 g2 h78
     generalize ((w8.setCell ⟨w.heap.size,0,none⟩ (.bool false)).setCell ⟨w.heap.size,1,none⟩ (.string tx)).setCell ⟨w.heap.size,2,none⟩ (.slice va pre.length vc)=W2 at *
     obtain⟨r0,r1',r2⟩:=zd5 hres
     refine bodyPost_ret (v:=.agg #[.bool false,.string tx,.slice va pre.length vc]) (by simp[results,Tryz.results170,go_sem,r0,r1',r2]) rfl ⟨hcq,?_⟩
     rw[HE.out,HA2.out]
     refine⟨?_,_,.mk false tx pre,rfl,⟨_,_,_,rfl,IsEx.mk' hsz hvc (by unfold IsExs;rw[Ex.dats_map];exact hdat')⟩,fun x k he=>?_⟩
     ·cases st with
      |bad k=>exact hcf
      |ok u k =>
       simp only[Rd.map_ok,Rd.bind_ok]at hcf ⊢
       cases hm:zl zbo k with
       |bad k2=>simp only[zbo]at hm;rw[hm]at hcf;exact hcf
       |ok u2 k2=>simp only[zbo]at hm;rw[hm]at hcf;exact hcf
     ·cases st with
      |bad k=>cases he
      |ok u k =>
       simp only[Rd.map_ok,Rd.bind_ok]at he
       cases hm:zl zbo k with
       |bad k2=>rw[hm]at he;cases he
       |ok u2 k2=>rw[hm]at he;injection he
    |true =>
     obtain⟨r2,r3,rfl,ht,hS,hr3⟩:=ze8 hb
     rw[hb,hS]at HT
     replace HT:=Lib.hid HT
     clear hS hb
     simp only[zj]at HT
     have HTT:=Lib.hid (fun w' (h:RSt rb l w' (.ok () r3))=>HIH.out r3 () (by simp only[toGo]at hlen;omega) w' h)
     unfold zar at HTT
     have HAT:=Lib.hid ht
     have hlen2:pre.length+(r2.length+1)≤r1.length+1:=hlen
     have HG2:=Lib.hid (show _=r2.length+1 from HG.out)
     clear ht hlen HG
     go_upto_region 16 with (go_at_call 132;refine(HT.out).mono ?_;rintro e w7 ⟨rfl,hc7,hx7⟩)
     have hxb7:=hxb.chg hx7 (by simpa using hcx')
     have hnb7:=hnb.chg hx7 (by simpa using hne)
     have hrow7:=hrow.chg hx7 (by simp;omega)
     have hq7:=hq.trans (hx7.mono (T:=[rb,xb]) (by simp))
     have hsz7:=hq7.size
     have hown2:∀g,(Value.slice va pre.length vc).ownBlock=some g→B≤g∧g<w7.heap.size:=fun g hg=>hrow7.own_ge hg
     obtain⟨p2,y2⟩:=hxb7 2 _ rfl
     clear hxb hnb hrow hq hst hx7 HT
     go_region_law ((first
      |(go_simp;go_at_call 170;refine(HTT.out _ (hc7.ext (Ext.drew (Below.refl _ w7)))).mono ?_;rintro e w4 ⟨hx4',hst4,v4,x4,rfl,⟨xa,xv,xc,rfl,hex⟩,hval⟩;(have hx4:Chg [rb] w7 w4:=(Chg.of_ext (Ext.drew (Below.refl _ w7))).trans hx4');(have hrow4:=hrow7.chg hx4 (by simp;omega));(obtain⟨d1,e1,rfl,rfl,rfl,-⟩:=hex.form);(have d5:=hx4.cell p2 (by simpa using hcx'));(have d6:=hx4.frozen p2 (by simpa using hcx') y2);(have d7:=(zd w4 (.cells #[.bool x4.var,.string x4.name,.slice d1 x4.args.length e1] 73)).cell d5);(try simp only[]))
      |(refine zan rfl (.tmp 56) (.tmp 59) _ rfl 73 i0 _ 48 Tryz.underlying26 hi0 hz0 hz1' hz2' rfl (by decide) B (.slice va pre.length vc) (pre.map Ex.dat) (by rfl) w4 hrow4 (zd _ _) w4.heap.size (by rfl) _ _ (heap_alloc_new _ _) x4.dat (zu2 (hex.ext (zd _ _)) fun g hg hlt=>(show B≤g∧(Value.slice va pre.length vc).ownBlock≠some g from ⟨by have h2:w7.drew.heap.size≤g:=hg;simp at h2;omega,fun e=>by have h1:=hown2 g e;have h2:w7.drew.heap.size≤g:=hg;simp at h2;omega⟩)) (by rw[HML.out];simp only[maxLen];omega) (by rw[HML.out];omega) (by have:=hx4.size;simp;omega) ?_;intro g5 cap w5 hrow5 hgrow hat hlt5;rw[HML.out]at hrow5 ⊢;(have hfar:(some (⟨xb,2,none⟩:Addr).block)≠(Value.slice va pre.length vc).ownBlock:=fun e=>by have:=hown2 _ e.symm;simp only at this;omega);(have hlt6:(⟨xb,2,none⟩:Addr).block<(w4.alloc (.cells #[.bool x4.var,.string x4.name,.slice d1 x4.args.length e1] 73)).heap.size:=Nat.lt_of_lt_of_le (zf d5) (zd w4 _).size);(have e5:=(hgrow.cell_far ⟨xb,2,none⟩ hlt6 hfar).trans ((zd w4 _).cell d5));(have e6:=(hgrow.frozen_far ⟨xb,2,none⟩ hlt6 hfar).trans ((zd w4 _).frozen d5 d6)))))
     all_goals
      go_wp2_with fail
      go_roundg (toGo (zag r3).st)
      case measure=>have:=HG2.out;have:=zgh (zce _) (Nat.le_refl r3.length);go_light;omega
      case rel=>exact zza hq7 hx4 hst4 hrow4 hxb7 hnb7 hgrow hrow5 hcx hxl hB2 (Ne.symm hxn) hne hB1 (by have:=zgh (zce _) (Nat.le_refl r3.length);omega) (zms zce HA.out HAT.out hval)
theorem zgx {rb:Nat}{l:List Tok}(hl:l.length≤1073741823):∀n,zvm rb l n
 |0=>fun ks u hk w h=>by
  have:ks=[]:=List.eq_nil_of_length_eq_zero (by omega)
  subst this
  exact zoq (by omega) h (by decide) rfl
 |n+1=>fun ks u hk w h=>by
  by_cases h2:(zq ks).kind=2
  ·cases ks with
   |nil=>exact absurd h2 (by decide)
   |cons t r=>exact zvn (by omega) h h2
  ·cases hn:(zq ks).named with
   |false=>exact zoq (by omega) h h2 hn
   |true =>
    cases ks with
    |nil=>exact absurd hn (by decide)
    |cons t r=>exact zrj hl (zgx hl n) h (by simpa using hk) hn
theorem zgy (b o j:Nat):(⟨b,o,none⟩:Addr).add j=⟨b,o+j,none⟩:=by unfold Addr.add;split<;>simp_all
theorem Dat.Rows.cells {P:Nat→Prop}{w:World}{m:Nat}:∀ {L:List (List Dat)}{b o:Nat},Dat.Rows P w (some ⟨b,o,none⟩) L→(∀e∈L,e.length=m) →
  ∃css:List (List Value),css.length=L.length∧(∀j (h:j<css.length) (h':j<L.length),Dat.Fs P w css[j] L[j])∧(∀c∈css,c.length=m)∧∀j u,css.flatten[j]?=some u→w.cell? ⟨b,o+j,none⟩=some u
 |[],_,_,_,_=>⟨[],rfl,fun j h=>by simp at h,by simp,fun j u h=>by simp at h⟩
 |e::L,b,o,h,hm=>by
  obtain⟨b',o',vs,h1,-,-,h2,h3,h4⟩:=h
  injection h1 with h1
  injection h1 with e1 e2 _
  subst e1;subst e2
  have he:=hm e (by simp)
  obtain⟨css,g1,g2,g3,g4⟩:=Dat.Rows.cells h4 (fun x hx=>hm x (by simp[hx]))
  have hv:vs.length=m:=by rw[h3.length,he]
  refine⟨vs::css,by simp[g1],fun j hj hj'=>?_,fun c hc=>?_,fun j u hu=>?_⟩
  ·cases j with
   |zero=>exact h3
   |succ j=>exact g2 j (by simpa using hj) (by simpa using hj')
  ·rcases List.mem_cons.1 hc with rfl|hc
   ·exact hv
   ·exact g3 c hc
  ·rw[List.flatten_cons]at hu
   rcases Nat.lt_or_ge j vs.length with hj|hj
   ·rw[List.getElem?_append_left hj]at hu;exact h2 j u hu
   ·rw[List.getElem?_append_right hj]at hu
    have:=g4 _ _ hu
    rw[he,show o+m+(j-vs.length)=o+j by omega]at this
    exact this
theorem Dat.Rows.copied {P:Nat→Prop}{w w':World}{m e B n:Nat}{v:Value}{L:List (List Dat)}{css:List (List Value)}(hm:0<m) (hc:css.length=L.length) (hf:∀j (h:j<css.length) (h':j<L.length),Dat.Fs P w css[j] L[j]) (hl:∀c∈css,c.length=m)
  (ho:w'.ownsRow B e m v n css.flatten) (hn:n=L.length) (h0:0<n) (hx:Ext w w'):∃a c,v=.slice a n c∧n≤c∧Dat.Rows (fun g=>P g∨B≤g) w' a L:=by
 obtain⟨g,cap,rfl,hb,hlt⟩:=ho.form h0
 have hcap:n≤cap:=by
  rcases ho.2 with ⟨h1,-⟩|⟨g',cap',cur,h1,-,-,h4,-⟩
  ·cases h1
  ·injection h1 with _ _ h1;subst h1;exact h4
 refine⟨_,_,rfl,hcap,?_⟩
 have hlen:∀e∈L,e.length=m:=by
  intro x hx
  obtain⟨i,hi,rfl⟩:=List.getElem_of_mem hx
  rw[←(hf i (by omega) hi).length]
  exact hl _ (List.getElem_mem _)
 refine Dat.Rows.of_at (.inr hb) hm hlen fun i hi=>⟨css[i]'(by omega),fun j u hu=>?_,((hf i (by omega) hi).ext hx).mono fun b hb _=>.inl hb⟩
 have hj:j<m:=by
  have:=hl _ (List.getElem_mem (show i<css.length by omega))
  rcases Nat.lt_or_ge j (css[i]'(by omega)).length with h1|h1
  ·omega
  ·rw[List.getElem?_eq_none h1]at hu;cases hu
 have:=ho.cells (g:=g) rfl (i * m+j) u (by rw[zfp css hl i (by omega) j hj];exact hu)
 rw[zgy]at this
 simpa using this
theorem Dat.Fs.flat_one {P:Nat→Prop}{w:World}{L:List (List Dat)}{css:List (List Value)}(hc:css.length=L.length) (hf:∀j (h:j<css.length) (h':j<L.length),Dat.Fs P w css[j] L[j]):∀u∈css.flatten,u.oneCell'=true:=by
 intro u hu
 obtain⟨c,hc1,hu⟩:=List.mem_flatten.1 hu
 obtain⟨j,hj,rfl⟩:=List.getElem_of_mem hc1
 exact(hf j hj (by omega)).one u hu
theorem zmt {css:List (List Value)}{m:Nat}(hl:∀c∈css,c.length=m):css.flatten.length=css.length * m:=by
 induction css with
 |nil=>simp
 |cons c css ih =>
  rw[List.flatten_cons,List.length_append,hl c (by simp),ih (fun x hx=>hl x (by simp[hx])),List.length_cons,Nat.add_mul];omega
theorem zc8 (op:Int){P:Nat→Prop}{l:List Fm}{w:World}{a:Option Addr}{c:Nat}(h:IsFms P w a l) (hl:l.length≤1073741824) :
  Calls Tryz.prog 86 #[.int .i64 op,.slice a l.length c] w fun e w'=>(∃a' c',e=.returned (.agg #[.int .i64 op,.slice none 0 0,.slice none 0 0,.slice a' l.length c'])∧l.length≤c'∧IsFms (fun g=>P g∨w.heap.size≤g) w' a' l)∧Ext w w':=by
 obtain⟨W,hW⟩:∃W,W=w.alloc (.cells #[.int .i64 0,.slice none 0 0,.slice none 0 0,.slice none 0 0] 29):=⟨_,rfl⟩
 have hx:Ext w W:=by rw[hW];exact zd _ _
 have hnew:Own W w.heap.size [.int .i64 0,.slice none 0 0,.slice none 0 0,.slice none 0 0]:=by rw[hW];exact own4 w _ _ _ _ _
 have hsW:w.heap.size<W.heap.size:=hnew.lt
 rcases Nat.eq_zero_or_pos l.length with h0|h0
 ·have hl0:l=[]:=List.length_eq_zero_iff.1 h0
  subst hl0
  obtain⟨j0,hj0,jz0,jz1',jz2'⟩:=info_parts zhw
  clear h0
  simp only[List.length_nil]
  subst hW
  cases a with
  |none =>
   have hap:∀w,(Builtin.append_ #[27,27] 27 #[.slice none 0 0,.slice none 0 c]).run Tryz.prog w=.ok (.slice none 0 0) w:=fun w=>by
    simp[Builtin.append_,run_underlying Tryz.underlying27,sizeOf,typeInfo,hj0,Builtin.lenOf,Builtin.firstCells]
   go_enter Tryz.func86,Tryz.ntmps86
   go_wp2
   refine bodyPost_ret (v:=.agg #[.int .i64 op,.slice none 0 0,.slice none 0 0,.slice none 0 0]) (by simp[results,Tryz.results86,go_sem]) rfl ?_
   exact⟨⟨none,0,rfl,Nat.le_refl _,zdu⟩,zd _ _⟩
  |some ad =>
   have hap:∀w,(Builtin.append_ #[27,27] 27 #[.slice none 0 0,.slice (some ad) 0 c]).run Tryz.prog w=.ok (.slice none 0 0) w:=fun w=>by
    simp[Builtin.append_,run_underlying Tryz.underlying27,sizeOf,typeInfo,hj0,Builtin.lenOf,Builtin.firstCells]
    rfl
   go_enter Tryz.func86,Tryz.ntmps86
   go_wp2
   refine bodyPost_ret (v:=.agg #[.int .i64 op,.slice none 0 0,.slice none 0 0,.slice none 0 0]) (by simp[results,Tryz.results86,go_sem]) rfl ?_
   exact⟨⟨none,0,rfl,Nat.le_refl _,zdu⟩,zd _ _⟩
 ·have hlen:(Fm.dats l).length=l.length:=by rw[Fm.dats_map,List.length_map]
  replace h:Dat.Rows (fun g=>P g∧g<w.heap.size) w a (Fm.dats l):=Dat.Rows.mono h fun g hg hlt=>⟨hg,hlt⟩
  obtain⟨b,o,rfl,hb⟩:=Dat.Rows.addr h (by omega)
  obtain⟨css,k1,k2,k3,k4⟩:=Dat.Rows.cells (m:=4) h (fun e he=>by rw[Fm.dats_map]at he;obtain⟨x,-,rfl⟩:=List.mem_map.1 he;exact x.dat_length)
  have hfl:css.flatten.length=l.length * 4:=by rw[zmt k3,k1,hlen]
  have HC:=Lib.hid (fun j u hu=>(by rw[zgy];exact hx.cell (k4 j u hu):W.cell? ((⟨b,o,none⟩:Addr).add j)=some u))
  have H1:=Lib.hid (Dat.Fs.flat_one k1 k2)
  obtain⟨j0,hj0,jz0,jz1',jz2'⟩:=info_parts zhw
  have HK:=Lib.hid (And.intro k1 (And.intro k2 k3))
  have HFL:=Lib.hid hfl
  have hpos:0<l.length:=h0
  have HLen:=Lib.hid hlen
  clear k1 k2 k3 k4 h h0 hfl hlen
  go_enter Tryz.func86,Tryz.ntmps86
  go_wp2_with (first|(at_builtin;rw[←hW];refine wpList_append_lies _ rfl _ _ _ rfl W.heap.size 29 j0 _ 4 80 Tryz.underlying27 hj0 jz0 jz1' jz2' rfl (by decide) (.slice none 0 0) 0 [] rfl (World.ownsRow_nil _ _ _ _) ⟨b,o,none⟩ l.length c css.flatten rfl HFL.out HC.out H1.out hpos (by simp only[maxLen];omega) (by omega) (Nat.le_refl _) _ rfl ?_;intro g cap w2 hown2 hgrow hat hlt;have hx2:Ext W w2:=⟨hgrow.os,hgrow.tape,hgrow.output,hgrow.size,fun k hk=>hgrow.block k hk (by simp[Value.ownBlock])⟩;have hn2:=hnew.ext hx2;(obtain⟨⟨n0,g0⟩,⟨n1,g1⟩,⟨n2,g2⟩,⟨n3,g3⟩⟩:=hn2.cells4);simp only[Nat.zero_add,List.nil_append]at hown2 ⊢))
  have hres:=zac hn2 (.int .i64 op) (.slice none 0 0) (.slice none 0 0) (.slice (some ⟨g,0,none⟩) l.length cap)
  have hch:=zai w2 w.heap.size (.int .i64 op) (.slice none 0 0) (.slice none 0 0) (.slice (some ⟨g,0,none⟩) l.length cap)
  obtain⟨q1,q2,q3⟩:=HK.out
  obtain⟨a2,c2,hv,hc2,hrows⟩:=Dat.Rows.copied (by decide) q1 q2 q3 hown2 HLen.out.symm hpos (hx.trans hx2)
  injection hv with e1 _ e3
  subst e1;subst e3
  clear n0 n1 n2 n3 g0 g1 g2 g3
  obtain⟨r0,r1,r2,r3⟩:=za9 hres
  refine bodyPost_ret (v:=.agg #[.int .i64 op,.slice none 0 0,.slice none 0 0,.slice (some ⟨g,0,none⟩) l.length cap]) (by simp[results,Tryz.results86,go_sem,r0,r1,r2,r3]) rfl ?_
  exact⟨⟨_,_,rfl,hc2,Dat.Rows.mono (Dat.Rows.chg hrows hch (fun g hg=>by simp;rcases hg with h1|h1<;>omega)) fun g hg _=>hg.imp (fun h=>h.1) fun h=>by omega⟩,Chg.ext (hx.trans hx2) hch (by simp)⟩
def PRow (m:Nat) (e:TypeId) (B:Nat) (P:Nat→Prop) (w:World) (v:Value) (l:List (List Dat)):Prop :=
 ∃cs:List (List Value),cs.length=l.length∧w.ownsRow B e m v l.length cs.flatten∧∀j (h:j<l.length) (h':j<cs.length),(zz m).is (fun b=>P b∧v.ownBlock≠some b) w cs[j] l[j]
section
variable {m e B:Nat}{P Q:Nat→Prop}{w w':World}{v:Value}{l M:List (List Dat)}
theorem PRow.of_grow (h:GRow (zz m) e B w v l):PRow m e B (fun b=>B≤b) w v l:=h
theorem PRow.grow (h:PRow m e B P w v l) (hP:∀b,P b→B≤b):GRow (zz m) e B w v l:=by
 obtain⟨cs,h1,h2,h3⟩:=h
 exact⟨cs,h1,h2,fun j h h'=>⟨(h3 j h h').1,(h3 j h h').2.mono fun b hb _=>⟨hP b hb.1,hb.2⟩⟩⟩
theorem PRow.nil:PRow m e B P w (.slice none 0 0) []:=⟨[],rfl,World.ownsRow_nil _ _ _ _,fun j h=>by simp at h⟩
theorem PRow.own_ge (h:PRow m e B P w v l){g:Nat}(hg:v.ownBlock=some g):B≤g∧g<w.heap.size:=by
 obtain⟨cs,-,h2,-⟩:=h
 exact zpk h2 hg
theorem PRow.mono (h:PRow m e B P w v l) (hQ:∀b,P b→b<w.heap.size→Q b):PRow m e B Q w v l:=by
 obtain⟨cs,h1,h2,h3⟩:=h
 exact⟨cs,h1,h2,fun j h h'=>⟨(h3 j h h').1,(h3 j h h').2.mono fun b hb hl=>⟨hQ b hb.1 hl,hb.2⟩⟩⟩
theorem PRow.chg {S:List Nat}(h:PRow m e B P w v l) (hx:Chg S w w') (hS:∀i∈S,v.ownBlock≠some i∧(P i→v.ownBlock=some i)):PRow m e B P w' v l:=by
 obtain⟨cs,h1,h2,h3⟩:=h
 exact⟨cs,h1,zdk h2 (fun g hg hl=>hx.block g hl (fun hm=>(hS g hm).1 hg)),fun j h h'=>⟨(h3 j h h').1,(h3 j h h').2.chg hx fun b hb hm=>hb.2 ((hS b hm).2 hb.1)⟩⟩
theorem PRow.ext (h:PRow m e B P w v l) (hx:Ext w w'):PRow m e B P w' v l:=h.chg (Chg.of_ext (S:=[]) hx) (by simp)
theorem PRow.form (h:PRow m e B P w v l):∃a c,v=.slice a l.length c∧l.length≤c:=by
 obtain⟨cs,-,⟨-,h2⟩,-⟩:=h
 rcases h2 with ⟨h2,h3⟩|⟨g,cap,cur,h2,-,-,h4,-⟩
 ·exact⟨none,0,by rw[h3];exact h2,by omega⟩
 ·exact⟨_,_,h2,h4⟩
theorem PRow.at (h:PRow m e B P w v l){j:Nat}(hj:j<l.length):∃g cap cs,v=.slice (some ⟨g,0,none⟩) l.length cap∧B≤g∧g<w.heap.size∧l.length≤cap∧(zz m).is (fun b=>P b∧v.ownBlock≠some b) w cs l[j]∧cs.length=m∧∀i u,cs[i]?=some u→w.cell? ⟨g,j * m+i,none⟩=some u:=by
 obtain⟨a0,c0,hv0,hc0⟩:=h.form
 obtain⟨cs,h1,h2,h3⟩:=h
 obtain⟨g,cap,rfl,hb,hlt⟩:=h2.form (by omega)
 injection hv0 with _ _ hcc
 subst hcc
 refine⟨g,cap,cs[j],rfl,hb,hlt,hc0,h3 j hj (by omega),(h3 j hj (by omega)).1,fun i u hu=>?_⟩
 have hlen:∀c∈cs,c.length=m:=by
  intro c hc
  obtain⟨k,hk,rfl⟩:=List.getElem_of_mem hc
  exact(h3 k (by omega) hk).1
 have hi:i<m:=by
  have:=hlen cs[j] (List.getElem_mem _)
  rcases Nat.lt_or_ge i cs[j].length with h1|h1
  ·omega
  ·rw[List.getElem?_eq_none h1]at hu;cases hu
 have:=h2.cells (g:=g) rfl (j * m+i) u (by rw[zfp cs hlen j (by omega) i hi];exact hu)
 rw[zgy]at this
 simpa using this
theorem PRow.dat (hm:0<m) (h:PRow m e B P w v l):∃a c,v=.slice a l.length c∧l.length≤c∧Dat.Rows (fun b=>P b∨v.ownBlock=some b) w a l:=by
 obtain⟨a,c,rfl,hc⟩:=h.form
 refine⟨a,c,rfl,hc,?_⟩
 rcases Nat.eq_zero_or_pos l.length with h0|h0
 ·have:l=[]:=List.eq_nil_of_length_eq_zero h0
  subst this;trivial
 ·obtain⟨g,cap,cs,hv,hg,-⟩:=h.at h0
  injection hv with e1 _ _
  subst e1
  have hel:∀e∈l,e.length=m:=by
   intro x hx
   obtain⟨i,hi,rfl⟩:=List.getElem_of_mem hx
   obtain⟨_,_,cs,-,-,-,-,h1,h2,-⟩:=h.at hi
   rw[←Dat.Fs.length h1.2];exact h2
  refine Dat.Rows.of_at (.inr rfl) hm hel fun i hi=>?_
  obtain⟨g',cap',cs,hv',-,-,-,h1,h2,h3⟩:=h.at hi
  injection hv' with e1 _ _
  injection e1 with e1;injection e1 with e1 _ _
  subst e1
  exact⟨cs,fun j u hu=>by have:=h3 j u hu;simpa using this,h1.2.mono fun b hb _=>.inl hb.1⟩
theorem PRow.appended {cs css:List (List Value)}{w2:World}{v':Value}(hcl:cs.length=l.length) (hel:∀j (h:j<l.length) (h':j<cs.length),(zz m).is (fun b=>P b∧v.ownBlock≠some b) w cs[j] l[j])
  (hc:css.length=M.length) (hf:∀j (h:j<css.length) (h':j<M.length),Dat.Fs Q w css[j] M[j]) (hl:∀c∈css,c.length=m) (hQ:∀b,Q b→b<w.heap.size→P b∧v.ownBlock≠some b)
  (hg:w.grownBy w2 v.ownBlock) (ho:w2.ownsRow B e m v' (l.length+M.length) (cs.flatten++css.flatten)) (hat:v'.ownBlock=v.ownBlock∨v'.ownBlock=some w.heap.size):PRow m e B P w2 v' (l++M):=by
 have hQ':∀b,(P b∧v.ownBlock≠some b)→b<w.heap.size→P b∧v'.ownBlock≠some b:=by
  intro b hb hlt
  refine⟨hb.1,fun h=>?_⟩
  rcases hat with h1|h1
  ·rw[h1]at h;exact hb.2 h
  ·rw[h1]at h;injection h with h;omega
 have hK:∀p u,(P p.block∧v.ownBlock≠some p.block)→w.cell? p=some u→w2.cell? p=some u:=by
  intro p u hp hu
  rw[hg.cell_far p (zf hu) (Ne.symm hp.2)];exact hu
 refine⟨cs++css,by simp[hcl,hc],?_,fun j h h'=>?_⟩
 ·rw[List.flatten_append,List.length_append];exact ho
 ·by_cases hj:j<l.length
  ·rw[List.getElem_append_left hj,List.getElem_append_left (by omega)]
   exact(zz m).keep hQ' hK (hel j hj (by omega))
  ·have h1:j<l.length+M.length:=by simpa using h
   rw[List.getElem_append_right (by omega),List.getElem_append_right (by omega)]
   have h2:=hf (j-cs.length) (by omega) (by omega)
   simp only[hcl]at h2 ⊢
   exact(zz m).keep hQ' hK ⟨hl _ (List.getElem_mem _),h2.mono hQ⟩
end
theorem ze9 {m e t B bytes:Nat}{i:TypeInfo}{z:Value}{P Q:Nat→Prop}{w:World}{v:Value}{l M:List (List Dat)}(ht:Tryz.prog.underlying t=some (.slice e)) (hi:Tryz.prog.info? e=some i) (hz:i.zero=some z) (hsize:i.size=m) (hby:i.bytes=bytes) (hzs:z.cells.size=m) (hsz:0<m)
  (hrow:PRow m e B P w v l){b:Option Addr}{c:Nat}(h:Dat.Rows Q w b M) (hM:∀x∈M,x.length=m) (hQ:∀b,Q b→b<w.heap.size→P b∧v.ownBlock≠some b) (hlen:l.length+M.length≤8388608) (hbytes:bytes≤1048576) (hbase:B≤w.heap.size) (ty:TypeId) :
  ∃v' w',(Builtin.append_ #[t,t] ty #[v,.slice b M.length c]).run Tryz.prog w=.ok v' w'∧PRow m e B P w' v' (l++M)∧RFr w v w' v':=by
 have hrow':=hrow
 obtain⟨cs,h1,ho,h3⟩:=hrow
 cases b with
 |none =>
  have hx:M=[]:=by
   cases M with
   |nil=>rfl
   |cons s xs=>obtain⟨_,_,_,he,-⟩:=h;cases he
  subst hx
  refine⟨v,w,?_,by rw[List.append_nil];exact hrow',RFr.refl _ _⟩
  rcases ho.2 with ⟨rfl,h0⟩|⟨g,cap,cur,rfl,_,_,hnc,_⟩
  ·simp[Builtin.append_,run_underlying ht,sizeOf,typeInfo,hi,Builtin.lenOf,Builtin.firstCells]
  ·simp[Builtin.append_,run_underlying ht,sizeOf,typeInfo,hi,Builtin.lenOf,Builtin.firstCells,hnc,storeCells]
 |some a =>
  cases M with
  |nil =>
   obtain⟨v',w',hr,g1,g2,g3,g4⟩:=run_append_own_at w B t ty e i z m bytes ht hi hz hsize hby hzs hsz v l.length cs.flatten ho a 0 c [] (by simp) (by simp) (by simp) (by simp only[maxLen];omega) (by have:=Nat.mul_le_mul (show l.length+0≤8388608 by simp at hlen;omega) hbytes;omega) hbase
   have hgr:w.grownBy w' v.ownBlock:=g2
   refine⟨v',w',hr,?_,⟨Chg.of_grown hgr (fun g hg=>.inl (by simp[hg])),?_⟩⟩
   ·exact PRow.appended (M:=[]) (css:=[]) (Q:=fun _=>False) h1 h3 rfl (fun j hj=>by simp at hj) (by simp) (fun b hb=>hb.elim) hgr (by simpa using g1) g4
   ·rcases g4 with h4|h4
    ·exact .inl h4
    ·exact .inr fun g hg=>by rw[h4]at hg;injection hg with hg;omega
  |cons x xs =>
   obtain⟨b',o',he,-⟩:=Dat.Rows.addr h (by simp)
   injection he with he
   subst he
   obtain⟨css,k1,k2,k3,k4⟩:=Dat.Rows.cells h hM
   obtain⟨v',w',hr,g1,g2,-,g4⟩:=run_append_own_at w B t ty e i z m bytes ht hi hz hsize hby hzs hsz v l.length cs.flatten ho ⟨b',o',none⟩ (x::xs).length c css.flatten (by rw[zmt k3,k1]) (fun j u hu=>by rw[zgy];exact k4 j u hu) (Dat.Fs.flat_one k1 k2) (by simp only[maxLen];omega) (by have:=Nat.mul_le_mul hlen hbytes;omega) hbase
   refine⟨v',w',hr,PRow.appended h1 h3 k1 k2 k3 hQ g2 g1 g4,⟨Chg.of_grown g2 (fun g hg=>.inl (by simp[hg])),?_⟩⟩
   rcases g4 with h4|h4
   ·exact .inl h4
   ·exact .inr fun g hg=>by rw[h4]at hg;injection hg with hg;omega
theorem zf6 {m e t B bytes:Nat}{i:TypeInfo}{z:Value}{P Q:Nat→Prop}{w:World}{v:Value}{l M:List (List Dat)}(ht:Tryz.prog.underlying t=some (.slice e)) (hi:Tryz.prog.info? e=some i) (hz:i.zero=some z) (hsize:i.size=m) (hby:i.bytes=bytes) (hzs:z.cells.size=m) (hsz:0<m) (hbytes:bytes≤1048576)
  {o:Oper}{a:Act}{K:Act→World→Prop}{R:Exit→Act→World→Prop}(s x:Operand)
  (ho:o.op=.call { callee:=.builtin .append,args:=#[s,x],argTypes:=#[t,t] }) (hs:a.eval s=v) (hrow:PRow m e B P w v l){b:Option Addr}{c:Nat}(hx:a.eval x=.slice b M.length c) (h:Dat.Rows Q w b M) (hM:∀x∈M,x.length=m) (hQ:∀b,Q b→b<w.heap.size→P b∧v.ownBlock≠some b)
  (hlen:l.length+M.length≤8388608) (hbase:B≤w.heap.size) (hK:∀v' w',PRow m e B P w' v' (l++M)→RFr w v w' v'→K (a.put o.dst v') w'):o.wp Tryz.prog a w K R:=by
 obtain⟨v',w',hr,h2,h3⟩:=ze9 ht hi hz hsize hby hzs hsz hrow h hM hQ hlen hbytes hbase o.type (c:=c)
 unfold Oper.wp execOp
 simp only[ho,resolve,invoke,builtin,Sem.run_bind,Sem.run_pure,Result.andThen_ok,List.map_toArray,List.map_cons,List.map_nil,hs,hx,hr]
 exact hK v' w' h2 h3
theorem zb7 {m e t B bytes:Nat}{i:TypeInfo}{z:Value}{P Q:Nat→Prop}{w:World}{v:Value}{l M:List (List Dat)}(ht:Tryz.prog.underlying t=some (.slice e)) (hi:Tryz.prog.info? e=some i) (hz:i.zero=some z) (hsize:i.size=m) (hby:i.bytes=bytes) (hzs:z.cells.size=m) (hsz:0<m) (hbytes:bytes≤1048576)
  {ops:Array Oper}{rest:List Oper}{o:Oper}{a:Act}{R:Exit→Act→World→Prop}(hgd:o.guard=none) (s x:Operand)
  (ho:o.op=.call { callee:=.builtin .append,args:=#[s,x],argTypes:=#[t,t] }) (hs:a.eval s=v) (hrow:PRow m e B P w v l){b:Option Addr}{c:Nat}(hx:a.eval x=.slice b M.length c) (h:Dat.Rows Q w b M) (hM:∀x∈M,x.length=m) (hQ:∀b,Q b→b<w.heap.size→P b∧v.ownBlock≠some b)
  (hlen:l.length+M.length≤8388608) (hbase:B≤w.heap.size) (hK:∀v' w',PRow m e B P w' v' (l++M)→RFr w v w' v'→wpList Tryz.prog ops R rest (a.put o.dst v') w'):wpList Tryz.prog ops R (o::rest) a w :=
 wpList_plain hgd fun _ hK'=>zf6 ht hi hz hsize hby hzs hsz hbytes s x ho hs hrow hx h hM hQ hlen hbase fun v' w' h1 h2=>hK' _ _ (hK v' w' h1 h2)
theorem ziy {m e t B bytes:Nat}{i:TypeInfo}{z:Value}{P Q:Nat→Prop}{w:World}{v:Value}{l M:List (List Dat)}(ht:Tryz.prog.underlying t=some (.slice e)) (hi:Tryz.prog.info? e=some i) (hz:i.zero=some z) (hsize:i.size=m) (hby:i.bytes=bytes) (hzs:z.cells.size=m) (hsz:0<m) (hbytes:bytes≤1048576)
  {ops:Array Oper}{o:Oper}{a:Act}{K:Act→World→Prop}{R:Exit→Act→World→Prop}{F:Prop}(hgd:o.guard=none) (s x:Operand)
  (ho:o.op=.call { callee:=.builtin .append,args:=#[s,x],argTypes:=#[t,t] }) (hs:a.eval s=v) (hrow:PRow m e B P w v l){b:Option Addr}{c:Nat}(hx:a.eval x=.slice b M.length c) (h:Dat.Rows Q w b M) (hM:∀x∈M,x.length=m) (hQ:∀b,Q b→b<w.heap.size→P b∧v.ownBlock≠some b)
  (hlen:l.length+M.length≤8388608) (hbase:B≤w.heap.size) (hK:∀v' w',PRow m e B P w' v' (l++M)→RFr w v w' v'→K (a.put o.dst v') w'):if Region.wanted o (yielded ops a.tmps)=true then Oper.wp Tryz.prog o a w K R else F:=by
 have hw:Region.wanted o (yielded ops a.tmps)=true:=by simp[Region.wanted,hgd]
 rw[if_pos hw]
 exact zf6 ht hi hz hsize hby hzs hsz hbytes s x ho hs hrow hx h hM hQ hlen hbase hK
theorem zor (o:Int):(zgm o=true∧(o==3)=true)∨(zgm o=true∧(o==3)=false∧(o==4)=true)∨(zgm o=true∧(o==3)=false∧(o==4)=false∧(o==1)=true)∨(zgm o=true∧(o==3)=false∧(o==4)=false∧(o==1)=false∧(o==2)=true)∨(zgm o=false∧(o==3)=false∧(o==4)=false∧(o==1)=false∧(o==2)=false):=by
 rw[zxe]
 cases (o==3)<;>cases (o==4)<;>cases (o==1)<;>cases (o==2)<;>simp
theorem zf7 (f:Fm) (P:Nat→Prop) (w:World) (x y z u:Value) (ht:IsFm P w x y z u f) :
  Calls Tryz.prog 68 #[.agg #[x,y,z,u]] w fun e w'=>e=.returned (.bool f.lit)∧Ext w w':=by
 obtain⟨b1,c1,b2,c2,b3,c3,rfl,rfl,rfl,rfl,-,-,-,-,-,-,-,hls⟩:=ht.form
 obtain⟨o,v,t,l⟩:=f
 simp only[Fm.op,Fm.vars,Fm.terms,Fm.args]at hls ⊢
 obtain⟨W,hW⟩:∃W,W=w.alloc (.cells #[.int .i64 o,.slice b1 v.length c1,.slice b2 t.length c2,.slice b3 l.length c3] 29):=⟨_,rfl⟩
 have hx:Ext w W:=by rw[hW];exact zd _ _
 have hb:Own W w.heap.size [.int .i64 o,.slice b1 v.length c1,.slice b2 t.length c2,.slice b3 l.length c3]:=by rw[hW];exact own4 w _ _ _ _ _
 obtain⟨⟨k0,f0⟩,⟨k1,f1⟩,⟨k2,f2⟩,⟨k3,f3⟩⟩:=hb.cells4
 clear ht
 by_cases h5:o=5∧l.length=1
 ·obtain⟨g,rfl⟩:∃g,l=[g]:=by match l,h5.2 with|[g],_=>exact⟨g,rfl⟩
  obtain⟨rfl,-⟩:=h5
  obtain⟨gb,go',a1,d1,a2,d2,a3,d3,rfl,-,g0,g1,g2,g3,-⟩:=(hls.ext hx).look (i:=0) (by simp)
  simp only[List.getElem_cons_zero,Nat.zero_mul,Nat.add_zero,List.length_cons,List.length_nil,Nat.zero_add]at g0 g1 g2 g3 hW k3 hb ⊢
  have HR:=Lib.hid (show(Fm.mk 5 v t [g]).lit=zgm g.op by unfold Fm.lit;rw[if_pos ⟨rfl,rfl⟩];rfl)
  have hset:=zac hb (.int .i64 g.op) (.slice a1 g.vars.length d1) (.slice a2 g.terms.length d2) (.slice a3 g.args.length d3)
  obtain⟨⟨q0,-⟩,⟨q1,-⟩,⟨q2,-⟩,⟨q3,-⟩⟩:=hset.cells4
  clear hset
  have HA:=Lib.hid (zor g.op)
  rcases HA.out with ⟨e0,e1⟩|⟨e0,e1,e2⟩|⟨e0,e1,e2,e3⟩|⟨e0,e1,e2,e3,e4⟩|⟨e0,e1,e2,e3,e4⟩
  all_goals
   replace HR:=Lib.hid (HR.out.trans e0)
   clear e0
   go_enter Tryz.func68,Tryz.ntmps68
   go_upto_region 1 with fail
   rw[←hW]
   clear hW
   go_wp2_with fail
   go_ret
   exact⟨ze HR.out.symm,Below.setCell (Below.setCell (Below.setCell (Below.setCell hx (Nat.le_refl _) _) (Nat.le_refl _) _) (Nat.le_refl _) _) (Nat.le_refl _) _⟩
 ·have hcase:(o==5)=false∨((o==5)=true∧((l.length:Int)==1)=false):=by
   by_cases h:o=5
   ·exact .inr ⟨by rw[beq_iff_eq];exact h,by rw[beq_eq_false_iff_ne];exact fun h1=>h5 ⟨h,by omega⟩⟩
   ·exact .inl (by rw[beq_eq_false_iff_ne];exact h)
  have HR:=Lib.hid (show(Fm.mk o v t l).lit=zgm o from if_neg h5)
  have HA:=Lib.hid (zor o)
  clear h5
  rcases hcase with d1|⟨d1,d2⟩
  all_goals
   rcases HA.out with ⟨e0,e1⟩|⟨e0,e1,e2⟩|⟨e0,e1,e2,e3⟩|⟨e0,e1,e2,e3,e4⟩|⟨e0,e1,e2,e3,e4⟩
  all_goals
   replace HR:=Lib.hid (HR.out.trans e0)
   clear e0
   go_enter Tryz.func68,Tryz.ntmps68
   go_upto_region 1 with fail
   rw[←hW]
   clear hW
   go_wp2_with fail
   go_ret
   exact⟨ze HR.out.symm,hx⟩
def LitsSay (Q:Nat→Prop) (f:Fm) (w:World) (e:Ending) (w':World):Prop :=
 (∃a c,e=.returned (.tuple #[.slice a (f.lits.getD []).length c,.bool f.lits.isSome])∧(f.lits.getD []).length≤c∧IsFms Q w' a (f.lits.getD []))∧Ext w w'
theorem LitsSay.mk {Q:Nat→Prop}{f:Fm}{w w':World}{e:Ending}{a:Option Addr}{n c:Nat}{b:Bool}{L:List Fm}(hL:f.lits.getD []=L) (hb:f.lits.isSome=b) (he:e=.returned (.tuple #[.slice a n c,.bool b])) (hn:n=L.length) (hc:n≤c) (hr:IsFms Q w' a L) (hx:Ext w w'):LitsSay Q f w e w':=by
 subst hL;subst hb;subst hn
 exact⟨⟨a,c,he,hc,hr⟩,hx⟩
theorem zzb {P Q:Nat→Prop}{w:World}{x y z u:Value}{f:Fm}(h:IsFm P w x y z u f) (hP:∀b,P b→b<w.heap.size→Q b) (hQ:Q w.heap.size):IsFms Q (w.alloc (.cells #[x,y,z,u] 29)) (some ⟨w.heap.size,0,none⟩) [f]:=by
 unfold IsFms
 rw[Fm.dats_map]
 refine⟨w.heap.size,0,[x,y,z,u],rfl,hQ,by simp,fun i v hi=>?_,(Dat.Fs.mono h hP).ext (zd _ _),trivial⟩
 have:=zeo w x y z u 29
 match i,hi with
 |0,hi=>injection hi with hi;subst hi;exact this.1
 |1,hi=>injection hi with hi;subst hi;exact this.2.1
 |2,hi=>injection hi with hi;subst hi;exact this.2.2.1
 |3,hi=>injection hi with hi;subst hi;exact this.2.2.2
 |n+4,hi=>simp at hi
theorem zmu {f:Fm}(h:f.lit=true):f.lits=some [f]:=if_pos h
theorem zrk {f:Fm}(h:f.lit=false) (h7:f.op=7) (ha:f.args.all Fm.lit=true):f.lits=some f.args:=by unfold Fm.lits;rw[if_neg (by rw[h];exact Bool.false_ne_true),if_pos ⟨h7,ha⟩]
theorem zgz {f:Fm}(h:f.lit=false) (h7:f.op=7→f.args.all Fm.lit=false):f.lits=none:=by
 unfold Fm.lits;rw[if_neg (by rw[h];exact Bool.false_ne_true),if_neg (fun h1=>by rw[h7 h1.1]at h1;exact Bool.false_ne_true h1.2)]
theorem zi1 {α:Type}{p:α→Bool}{l:List α}{k:Nat}(h:k<l.length):(l.take (k+1)).all p=((l.take k).all p&&p l[k]):=by
 rw[List.take_succ_eq_append_getElem h,List.all_append];simp
theorem zsp {α:Type}{p:α→Bool}{l:List α}{k:Nat}(h:k<l.length) (hp:p l[k]=false):l.all p=false:=by
 cases h2:l.all p with
 |false=>rfl
 |true=>have:=List.all_eq_true.1 h2 l[k] (List.getElem_mem h);rw[hp]at this;cases this
theorem zjs (f:Fm) (P:Nat→Prop) (w:World) (x y z u:Value) (ht:IsFm P w x y z u f) (hlen:f.args.length≤8388608) :
  Calls Tryz.prog 32 #[.agg #[x,y,z,u]] w (LitsSay (fun b=>P b∨w.heap.size≤b) f w):=by
 have HT:=Lib.hid ht
 have HL:=Lib.hid (fun w' (hx:Ext w w')=>zf7 f P w' x y z u (ht.ext hx))
 obtain⟨b1,c1,b2,c2,b3,c3,rfl,rfl,rfl,rfl,-,-,-,-,-,hc3,-,hls⟩:=ht.form
 obtain⟨W,hW⟩:∃W,W=w.alloc (.cells #[.int .i64 f.op,.slice b1 f.vars.length c1,.slice b2 f.terms.length c2,.slice b3 f.args.length c3] 29):=⟨_,rfl⟩
 have hx:Ext w W:=by rw[hW];exact zd _ _
 have hb:Own W w.heap.size [.int .i64 f.op,.slice b1 f.vars.length c1,.slice b2 f.terms.length c2,.slice b3 f.args.length c3]:=by rw[hW];exact own4 w _ _ _ _ _
 obtain⟨⟨k0,-⟩,⟨k1,-⟩,⟨k2,-⟩,⟨k3,-⟩⟩:=hb.cells4
 have hlt:=hb.lt
 clear ht hb
 cases hlit:f.lit with
 |true =>
  have HE:=Lib.hid (zmu hlit)
  rw[hlit]at HL
  clear hlit
  go_enter Tryz.func32,Tryz.ntmps32
  go_upto_region 1 with fail
  rw[←hW]
  clear hW
  go_wp2_with (go_at_call 68;refine(HL.out _ hx).mono ?_;rintro e w1 ⟨rfl,hx1⟩;replace k0:=hx1.cell k0;replace k1:=hx1.cell k1;replace k2:=hx1.cell k2;replace k3:=hx1.cell k3;have hlt1:=zf k0)
  go_ret2
  exact LitsSay.mk (by rw[HE.out];rfl) (by rw[HE.out];rfl) rfl rfl (Nat.le_refl _) (zzb (HT.out.ext (hx.trans hx1)) (fun b hb _=>.inl hb) (.inr (by have:=hx.size;have:=hx1.size;omega))) ((hx.trans hx1).alloc _)
 |false =>
  by_cases h7:f.op=7
  case neg =>
   have q7:(f.op != 7)=true:=by rw[bne_iff_ne];exact h7
   have HE:=Lib.hid (zgz hlit (fun h=>absurd h h7))
   rw[hlit]at HL
   clear hlit h7
   go_enter Tryz.func32,Tryz.ntmps32
   go_upto_region 1 with fail
   rw[←hW]
   clear hW
   go_wp2_with (go_at_call 68;refine(HL.out _ hx).mono ?_;rintro e w1 ⟨rfl,hx1⟩;replace k0:=hx1.cell k0;replace k1:=hx1.cell k1;replace k2:=hx1.cell k2;replace k3:=hx1.cell k3;have hlt1:=zf k0)
   go_ret2
   exact LitsSay.mk (by rw[HE.out];rfl) (by rw[HE.out];rfl) rfl rfl (Nat.le_refl _) zdu (hx.trans hx1)
  case pos =>
   have q7:(f.op != 7)=false:=by rw[bne_eq_false_iff_eq];exact h7
   have HE1:=Lib.hid (fun h=>zrk hlit h7 h)
   have HE2:=Lib.hid (fun h=>zgz hlit (fun _=>h))
   rw[hlit]at HL
   have HH:=Lib.hid (fun w' k (hk:k<f.args.length) a b c d (h:IsFm P w' a b c d f.args[k])=>zf7 f.args[k] P w' a b c d h)
   clear hlit h7
   go_enter Tryz.func32,Tryz.ntmps32
   go_upto_region 1 with fail
   rw[←hW]
   clear hW
   go_wp2_with (go_at_call 68;refine(HL.out _ hx).mono ?_;rintro e w1 ⟨rfl,hx1⟩;replace k0:=hx1.cell k0;replace k1:=hx1.cell k1;replace k2:=hx1.cell k2;replace k3:=hx1.cell k3;have hlt1:=zf k0)
   go_loopw [4] (fun i wr=>∃k:Nat,k≤f.args.length∧i=.int .i64 k∧Ext w1 wr∧(f.args.take k).all Fm.lit=true) (fun i _=>f.args.length-(intOf i).toNat)
   case atStart=>exact⟨0,Nat.zero_le _,rfl,Below.refl _ _,rfl⟩
   case round =>
    obtain⟨k,hk,rfl,hx2,hall⟩:=hrel
    have HALL:=Lib.hid hall;clear hall
    replace k3:=hx2.cell k3
    have hlt2:=zf k3
    clear k0 k1 k2
    by_cases hkl:k<f.args.length
    ·obtain⟨b,o,va',vc',ta',tc',a',c',rfl,hb,g1,g2,g3,g4,hi⟩:=(hls.ext ((hx.trans hx1).trans hx2)).look hkl
     have hlt':(k:Int)<f.args.length:=by omega
     have HST:=Lib.hid (zi1 (p:=Fm.lit) hkl)
     have HK:=Lib.hid (HH.out wr k hkl _ _ _ _ hi)
     cases hm:f.args[k].lit with
     |true =>
      rw[hm]at HK HST
      clear hm
      go_wp2_with (go_at_call 68;refine(HK.out).mono ?_;rintro e w2 ⟨rfl,hx3⟩)
      go_roundw
      case rel=>exact⟨k+1,by omega,by go_num,hx2.trans hx3,by rw[HST.out,HALL.out];rfl⟩
      case measure=>simp[intOf];omega
     |false =>
      rw[hm]at HK
      replace HE2:=Lib.hid (HE2.out (zsp hkl hm))
      clear hm
      go_wp2_with (go_at_call 68;refine(HK.out).mono ?_;rintro e w2 ⟨rfl,hx3⟩)
      go_ret2
      exact LitsSay.mk (by rw[HE2.out];rfl) (by rw[HE2.out];rfl) rfl rfl (Nat.le_refl _) zdu (((hx.trans hx1).trans hx2).trans hx3)
    ·have hlt':¬(k:Int)<f.args.length:=by omega
     have hke:k=f.args.length:=by omega
     replace HE1:=Lib.hid (HE1.out (by have:=HALL.out;rw[hke,List.take_length]at this;exact this))
     obtain⟨j0,hj0,jz0,jz1',jz2'⟩:=info_parts zhw
     have hd:(Fm.dats f.args).length=f.args.length:=by rw[Fm.dats_map,List.length_map]
     have hrows:Dat.Rows (fun b=>P b∧b<w.heap.size) wr b3 (Fm.dats f.args):=Dat.Rows.ext (Dat.Rows.mono hls fun b hb hl=>⟨hb,hl⟩) ((hx.trans hx1).trans hx2)
     have HROW:=Lib.hid hrows
     have HDL:=Lib.hid hd
     have hsz:=((hx.trans hx1).trans hx2).size
     clear hke hrows hd
     go_wp2_with (at_builtin;(rw[←HDL.out];refine zb7 (m:=4) (P:=fun b=>P b∨w.heap.size≤b) (B:=w.heap.size) (v:=.slice none 0 0) (l:=[]) Tryz.underlying27 hj0 jz0 jz1' jz2' rfl (by decide) (by decide) rfl _ _ rfl rfl PRow.nil rfl HROW.out (fun e he=>(by rw[Fm.dats_map]at he;obtain⟨x,-,rfl⟩:=List.mem_map.1 he;exact x.dat_length)) (fun b hb _=>⟨.inl hb.1,by simp[Value.ownBlock]⟩) (by simp only[List.length_nil];rw[HDL.out];omega) (by omega) ?_;intro v4 w4 hrow4 hfr4;(obtain⟨a4,c4,hv4,hc4,hd4⟩:=PRow.dat (by decide) hrow4);rw[List.nil_append,HDL.out]at hv4;rw[List.nil_append,HDL.out]at hc4;rw[List.nil_append]at hd4;subst hv4))
     go_ret2
     exact LitsSay.mk (by rw[HE1.out];rfl) (by rw[HE1.out];rfl) rfl rfl hc4 (Dat.Rows.mono hd4 fun b hb _=>hb.elim (fun h=>h) fun h=>.inr (by have:=(hrow4.own_ge h).1;exact this)) (hfr4.ext ((hx.trans hx1).trans hx2) (by simp[Value.ownBlock]))
end Go.Proofs.YtnclgkdpafhogaaGreat
