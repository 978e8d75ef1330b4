/- Plain: tokens of a formula that may be are read as this formula. No condition.
The reference's SameExpr. Condition: at most 4194304 parts.
The reference's Same. Condition: at most 4194304 parts. -/
import Derived.Test.YtnclgkdpafhogaaGreatQe15
import Derived.Test.YtnclgkdpafhogaaGreatQe3
import Derived.StillTailTactics
set_option maxHeartbeats 16000000
set_option maxRecDepth 100000
namespace Go.Proofs.YtnclgkdpafhogaaGreat
theorem zae {a b:ByteArray}(h:a.data.toList=b.data.toList):a=b:=by apply ByteArray.ext;exact Array.toList_inj.1 h
theorem zdh {ks:List Tok}{x:Int×List UInt8}{ts:List (Int×List UInt8)}(h:ks.map Tok.kt=x::ts):∃t r,ks=t::r∧t.kt=x∧r.map Tok.kt=ts:=by
 cases ks with
 |nil=>cases h
 |cons t r=>rw[List.map_cons]at h;injection h with h1 h2;exact⟨t,r,rfl,h1,h2⟩
theorem zv3 {t:Tok}{s:ByteArray}:t.sign s=true↔t.kt=sg s.data.toList:=by
 unfold Tok.sign Tok.kt sg
 rw[Bool.and_eq_true,decide_eq_true_iff,decide_eq_true_iff]
 constructor
 ·rintro⟨h1,h2⟩;rw[h1,h2]
 ·intro h;injection h with h1 h2;exact⟨h1,zae h2⟩
theorem zdy {s:ByteArray}{ks:List Tok}{ts:List (Int×List UInt8)}(h:ks.map Tok.kt=sg s.data.toList::ts):∃r,zx s ks=some r∧r.map Tok.kt=ts:=by
 obtain⟨t,r,rfl,h1,h2⟩:=zdh h
 exact⟨r,by rw[zce,if_pos (zv3.2 h1)],h2⟩
theorem zag {s:ByteArray}{ks:List Tok}{ts:List (Int×List UInt8)}(h:ks.map Tok.kt=ts) (hn:ts.head?≠some (sg s.data.toList)):zx s ks=none:=by
 cases ks with
 |nil=>rfl
 |cons t r =>
  rw[zce,if_neg]
  intro hs
  rw[List.map_cons]at h
  subst h
  exact hn (by rw[List.head?_cons,zv3.1 hs])
theorem zec {s:ByteArray}{ks:List Tok}{ts:List (Int×List UInt8)}(h:ks.map Tok.kt=sg s.data.toList::ts):∃r,zw s ks=.ok () r∧r.map Tok.kt=ts:=by
 obtain⟨r,h1,h2⟩:=zdy h
 exact⟨r,by unfold zw;rw[h1],h2⟩
theorem zyx {α:Type}{a b:List α}{x:α}(ha:a.head?=some x):(a++b).head?=some x:=by
 cases a with
 |nil=>cases ha
 |cons y a=>exact ha
def zhh {α:Type}(rd:Rd α) (x:α) (ts:List (Int×List UInt8)):Prop:=∃r,rd=.ok x r∧r.map Tok.kt=ts
theorem zgs (v:Bool) (n:ByteArray):(zcy v n).1≠6∧(zcy v n).1≠3∧((zcy v n).1=2↔v=true)∧(zcy v n).2=n.data.toList:=by
 unfold zcy
 cases v with
 |true=>simp
 |false=>simp only[Bool.false_eq_true,if_false];split<;>simp
theorem zv4 (x:Ex):x.toks.head?=some (zcy x.var x.name):=by cases x;rfl
def zkx (x:Ex):Prop:=∀(ks:List Tok) (ts:List (Int×List UInt8)),ks.map Tok.kt=x.toks++ts→ts.head?≠some (sg [40])→zhh (za2 ks) x ts
theorem zv5:∀(l:List Ex),(∀e∈l,zkx e)→∀(ks:List Tok) (ts:List (Int×List UInt8)),ks.map Tok.kt=Ex.toksA 44 l++ts→ts.head?≠some (sg [40])→ts.head?≠some (sg [44])→zhh (more za2 zj ks) l ts
 |[],_,ks,ts,h,_,h44=>by
  refine⟨ks,?_,by simpa[Ex.toksA]using h⟩
  rw[zdj (zew _),zag (s:=zj) (by simpa[Ex.toksA]using h) h44]
 |e::l,he,ks,ts,h,h40,h44=>by
  simp only[Ex.toksA,List.cons_append,List.append_assoc]at h
  obtain⟨r1,h1,h2⟩:=zdy (s:=zj) h
  obtain⟨r2,h3,h4⟩:=he e (by simp) r1 _ h2 (by cases l with
   |nil=>simpa[Ex.toksA]using h40
   |cons e2 l=>simp[Ex.toksA,sg])
  obtain⟨r3,h5,h6⟩:=zv5 l (fun x hx=>he x (by simp[hx])) r2 ts h4 h40 h44
  exact⟨r3,by rw[zdj (zew _),h1];simp only;rw[h3];simp only[Rd.bind_ok];rw[h5];rfl,h6⟩
theorem zv6 (x:Ex):x.may=true→zkx x:=by
 induction x using Ex.ind with
 |h v n l ih =>
  intro hm ks ts h h40
  simp only[Ex.toks,List.cons_append,List.append_assoc]at h
  obtain⟨t,r,rfl,h1,h2⟩:=zdh h
  obtain⟨k6,k3,k2,kt⟩:=zgs v n
  have hkd:t.kind=(zcy v n).1:=by rw[←h1];rfl
  have htx:t.text=n:=zae (by rw[←kt,←h1];rfl)
  rw[←hkd]at k6 k3 k2
  cases v with
  |true =>
   simp only[Ex.may,if_true,Bool.and_eq_true,decide_eq_true_eq]at hm
   have hl:=List.eq_nil_of_length_eq_zero hm.1
   subst hl
   exact⟨r,by rw[zhz,zam,if_pos (k2.2 rfl),htx],by simpa[Ex.toksA]using h2⟩
  |false =>
   simp only[Ex.may,Bool.false_eq_true,if_false,Bool.and_eq_true]at hm
   have h2':t.kind≠2:=fun h=>by have:=k2.1 h;cases this
   have hnm:t.named=true:=by
    unfold Tok.named
    rw[htx,hm.1,Bool.and_true,hkd]
    unfold zcy
    simp only[Bool.false_eq_true,if_false]
    split<;>rfl
   have ih':∀e∈l,zkx e:=fun e he=>ih e he (by have:=hm.2;rw[Ex.mays_all,List.all_eq_true]at this;exact this e he)
   have hstep:za2 (t::r)=match zx zbp r with
    |none=>.ok (.mk false t.text []) r
    |some r=>(rowR za2 zj r).bind fun l r'=>(zw zcx r').map fun _=>.mk false t.text l:=by rw[zhz,zam,if_neg h2',if_pos hnm];rfl
   cases l with
   |nil =>
    simp only[Ex.toksA,List.length_nil,Nat.lt_irrefl,if_false,List.nil_append]at h2
    exact⟨r,by rw[hstep,zag (s:=zbp) h2 h40,htx],h2⟩
   |cons e l =>
    simp only[Ex.toksA,List.length_cons,Nat.zero_lt_succ,if_true,List.cons_append,List.append_assoc,List.nil_append]at h2
    obtain⟨r1,g1,g2⟩:=zdy (s:=zbp) h2
    obtain⟨r2,g3,g4⟩:=ih' e (by simp) r1 _ g2 (by cases l with
     |nil=>simp[Ex.toksA,sg]
     |cons e2 l=>simp[Ex.toksA,sg])
    obtain⟨r3,g5,g6⟩:=zv5 l (fun x hx=>ih' x (by simp[hx])) r2 (sg [41]::ts) g4 (by simp[sg]) (by simp[sg])
    obtain⟨r4,g7,g8⟩:=zec (s:=zcx) g6
    refine⟨r4,?_,g8⟩
    rw[hstep,g1]
    simp only
    unfold rowR
    rw[g3,Rd.bind_ok,g5,Rd.map_ok,Rd.bind_ok,g7,htx]
    rfl
def zfd (ts:List (Int×List UInt8)):Prop:=ts.head?≠some (sg [40])∧ts.head?≠some (sg [61])∧ts.head?≠some (sg [33,61])
def z14 (ts:List (Int×List UInt8)):Prop:=zfd ts∧∀w,ts.head?=some (sg w)→w∉[[38],[124],[61,62],[60,61],[60,61,62],[60,126,62],[126,124],[126,38]]
def zm1 (f:Fm):Prop:=∀(ks:List Tok) (ts:List (Int×List UInt8)),ks.map Tok.kt=zkw f.op f.toks++ts→zfd ts→zhh (zr ks) f ts
def zs1 (f:Fm):Prop:=∀(ks:List Tok) (ts:List (Int×List UInt8)),ks.map Tok.kt=f.toks++ts→z14 ts→zhh (zex ks) f ts
theorem zpp {f:Fm}{ks:List Tok}{ts:List (Int×List UInt8)}(h:zhh (zr ks) f ts) (hs:z14 ts):zhh (zex ks) f ts:=by
 obtain⟨r,h1,h2⟩:=h
 refine⟨r,?_,h2⟩
 unfold zex zh
 rw[h1,Rd.bind_ok]
 cases r with
 |nil=>rfl
 |cons t r =>
  rw[zl]
  by_cases h6:t.kind=6
  ·have hk:t.kt=sg t.text.data.toList:=by unfold Tok.kt sg;rw[h6]
   have hw:=hs.2 t.text.data.toList (by rw[←h2,List.map_cons,List.head?_cons,hk])
   have hne:∀s:ByteArray,s.data.toList∈[[38],[124],[61,62],[60,61],[60,61,62],[60,126,62],[126,124],[126,38]]→t.text≠s:=fun s hm he=>hw (he ▸ hm)
   rw[if_neg (fun h=>h h6),if_neg (hne sAnd (by decide)),if_neg (hne sOr (by decide))]
   have hb:zdl t.text=none:=by
    unfold zdl
    rw[if_neg (hne sImp (by decide)),if_neg (hne sRev (by decide)),if_neg (hne sIff (by decide)),if_neg (hne sXor (by decide)),if_neg (hne sNor (by decide)),if_neg (hne zwz (by decide))]
   rw[hb]
  ·rw[if_pos h6]
theorem zio {sep:ByteArray}:∀(l:List Fm),(∀e∈l,zm1 e)→∀(ks:List Tok) (ts:List (Int×List UInt8)),ks.map Tok.kt=Fm.unitsKT false [sg sep.data.toList] l++ts→zfd ts→ts.head?≠some (sg sep.data.toList)→zfd [sg sep.data.toList]→zhh (more zr sep ks) l ts
 |[],_,ks,ts,h,_,hn,_=>by
  refine⟨ks,?_,by simpa[Fm.unitsKT]using h⟩
  rw[zdj (zcq _),zag (s:=sep) (by simpa[Fm.unitsKT]using h) hn]
 |e::l,he,ks,ts,h,hs,hn,hsep=>by
  simp only[Fm.unitsKT,Bool.false_eq_true,if_false,List.cons_append,List.append_assoc,List.nil_append]at h
  obtain⟨r1,h1,h2⟩:=zdy (s:=sep) h
  obtain⟨r2,h3,h4⟩:=he e (by simp) r1 _ h2 (by cases l with
   |nil=>simpa[Fm.unitsKT]using hs
   |cons e2 l=>simp only[Fm.unitsKT,Bool.false_eq_true,if_false,List.cons_append,List.nil_append];exact hsep)
  obtain⟨r3,h5,h6⟩:=zio l (fun x hx=>he x (by simp[hx])) r2 ts h4 hs hn hsep
  exact⟨r3,by rw[zdj (zcq _),h1];simp only;rw[h3];simp only[Rd.bind_ok];rw[h5];rfl,h6⟩
theorem zeq {ks:List Tok}{ts:List (Int×List UInt8)}(h:ks.map Tok.kt=ts) (h6:∀w,ts.head?≠some (sg w)):zr ks=za3 ks:=by
 rw[zdc]
 unfold zan
 rw[zag h (h6 _),zag h (h6 _),zag h (h6 _),zag h (h6 _)]
theorem zgt {ks:List Tok}{ts:List (Int×List UInt8)}(h:ks.map Tok.kt=ts){k:Int×List UInt8}(hk:ts.head?=some k) (h3:k.1≠3):za3 ks=(za2 ks).bind fun x r=>match zx sEq r with
  |some r'=>(za2 r').map fun y=>fEq x y
  |none=>match zx sNe r with
   |some r'=>(za2 r').map fun y=>fNot (fEq x y)
   |none=>if x.var then .bad r else .ok (zzq x) r:=by
 subst h
 unfold za3
 cases ks with
 |nil=>rfl
 |cons t r =>
  rw[List.map_cons,List.head?_cons,Option.some.injEq]at hk
  have:t.kind≠3:=by rw[←hk]at h3;exact h3
  rw[if_neg (by simp[this]),if_neg (by simp[this])]
  rfl
theorem zky {x:Ex}{ts:List (Int×List UInt8)}:(∀w,(x.toks++ts).head?≠some (sg w))∧∃k,(x.toks++ts).head?=some k∧k.1≠3:=by
 have h:=zyx (b:=ts) (zv4 x)
 obtain⟨k6,k3,-⟩:=zgs x.var x.name
 exact⟨fun w hw=>by rw[h]at hw;injection hw with hw;rw[hw]at k6;exact k6 rfl,_,h,k3⟩
theorem zm2:∀(l:List ByteArray) (ks:List Tok) (ts:List (Int×List UInt8)),ks.map Tok.kt=zez false l++ts→ts.head?≠some (sg [44])→zhh (more (za5 2) zj ks) l ts
 |[],ks,ts,h,hn=>by
  refine⟨ks,?_,by simpa[zez]using h⟩
  rw[zdj (zb3 2 _),zag (s:=zj) (by simpa[zez]using h) hn]
 |v::l,ks,ts,h,hn=>by
  simp only[zez,Bool.false_eq_true,if_false,List.cons_append,List.nil_append]at h
  obtain⟨r1,h1,h2⟩:=zdy (s:=zj) h
  obtain⟨t,r2,rfl,h3,h4⟩:=zdh h2
  obtain⟨r3,h5,h6⟩:=zm2 l r2 ts h4 hn
  have hk:t.kind=2:=congrArg Prod.fst h3
  have ht:t.text=v:=zae (congrArg Prod.snd h3)
  refine⟨r3,?_,h6⟩
  rw[zdj (zb3 2 _),h1]
  simp only
  rw[zcf,if_pos hk,Rd.bind_ok,h5,Rd.map_ok,ht]
theorem zkz {v:List ByteArray}{g:Fm}(hg:zm1 g) (hv:1≤v.length){op:Int}{ks:List Tok}{ts:List (Int×List UInt8)}(h:ks.map Tok.kt=sg [91]::(zez true v++(sg [93]::sg [58]::(zkw g.op g.toks++ts)))) (hs:zfd ts) :
  zhh (zad zr op ks) (.mk op v [] [g]) ts:=by
 obtain⟨r1,h1,h2⟩:=zec (s:=ziu) h
 match v,hv with
 |u::v,_ =>
  simp only[zez,if_true,List.cons_append,List.nil_append]at h2
  obtain⟨t,r2,rfl,h3,h4⟩:=zdh h2
  have hk:t.kind=2:=congrArg Prod.fst h3
  have ht:t.text=u:=zae (congrArg Prod.snd h3)
  obtain⟨r3,h5,h6⟩:=zm2 v r2 _ h4 (by simp[sg])
  obtain⟨r4,h7,h8⟩:=zec (s:=zln) h6
  obtain⟨r5,h9,h10⟩:=zec (s:=znd) h8
  obtain⟨r6,h11,h12⟩:=hg r5 ts h10 hs
  refine⟨r6,?_,h12⟩
  unfold zad
  rw[h1,Rd.bind_ok]
  unfold rowR
  rw[zcf,if_pos hk,Rd.bind_ok,h5,Rd.map_ok,Rd.bind_ok,h7,Rd.bind_ok,h9,Rd.bind_ok,h11,Rd.map_ok,ht]
theorem zs2 {x y:Ex}(hx:zkx x) (hy:zkx y){ks:List Tok}{ts:List (Int×List UInt8)}(hs:zfd ts) :
  (ks.map Tok.kt=x.toks++(sg [61]::(y.toks++ts))→zhh (zr ks) (fEq x y) ts)∧(ks.map Tok.kt=x.toks++(sg [33,61]::(y.toks++ts))→zhh (zr ks) (fNot (fEq x y)) ts):=by
 constructor
 ·intro h
  obtain⟨n6,k,hk,k3⟩:=zky (x:=x) (ts:=sg [61]::(y.toks++ts))
  obtain⟨r1,h1,h2⟩:=hx ks _ h (by simp[sg])
  obtain⟨r2,h3,h4⟩:=zdy (s:=sEq) h2
  obtain⟨r3,h5,h6⟩:=hy r2 ts h4 hs.1
  refine⟨r3,?_,h6⟩
  rw[zeq h n6,zgt h hk k3,h1,Rd.bind_ok,h3]
  simp only
  rw[h5,Rd.map_ok]
 ·intro h
  obtain⟨n6,k,hk,k3⟩:=zky (x:=x) (ts:=sg [33,61]::(y.toks++ts))
  obtain⟨r1,h1,h2⟩:=hx ks _ h (by simp[sg])
  have h0:zx sEq r1=none:=zag h2 (by simp[sg,sEq])
  obtain⟨r2,h3,h4⟩:=zdy (s:=sNe) h2
  obtain⟨r3,h5,h6⟩:=hy r2 ts h4 hs.1
  refine⟨r3,?_,h6⟩
  rw[zeq h n6,zgt h hk k3,h1,Rd.bind_ok,h0]
  simp only
  rw[h3]
  simp only
  rw[h5,Rd.map_ok]
theorem zk0 {b:Bool}{ks:List Tok}{ts:List (Int×List UInt8)}(h:ks.map Tok.kt=(3,if b then zni else zix)::ts):zhh (zr ks) (if b then zzp else ztj) ts:=by
 have ha:=zeq h (fun w hw=>by simp[sg]at hw)
 obtain⟨t,r,rfl,h1,h2⟩:=zdh h
 have hk:t.kind=3:=congrArg Prod.fst h1
 refine⟨r,?_,h2⟩
 rw[ha]
 unfold za3
 cases b with
 |true =>
  have ht:t.text=zmm:=zae (congrArg Prod.snd h1)
  rw[if_pos (by simp[hk,ht])];rfl
 |false =>
  have ht:t.text=zgk:=zae (congrArg Prod.snd h1)
  rw[if_neg (by simp[hk,ht];decide),if_pos (by simp[hk,ht])];rfl
theorem z2k (f:Fm):f.may=true→zm1 f∧zs1 f:=by
 induction f using Fm.ind with
 |h o v t l ih =>
  intro hm
  simp only[Fm.may,Bool.and_eq_true]at hm
  obtain⟨hm,hms⟩:=hm
  rw[Fm.mays_all,List.all_eq_true]at hms
  obtain⟨hv,ht,ht3,hc⟩:=za6 hm
  have ihU:∀e∈l,zm1 e:=fun e he=>(ih e he (hms e he)).1
  have both:(¬(6≤o∧o≤10))→(∀(ks:List Tok) (ts:List (Int×List UInt8)),ks.map Tok.kt=(Fm.mk o v t l).toks++ts→zfd ts→zhh (zr ks) (.mk o v t l) ts)→zm1 (.mk o v t l)∧zs1 (.mk o v t l):=fun ho hu=>by
   refine⟨fun ks ts h hs=>?_,fun ks ts h hs=>zpp (hu ks ts h hs.1) hs⟩
   rw[show zkw (Fm.mk o v t l).op (Fm.mk o v t l).toks=(Fm.mk o v t l).toks from if_neg ho]at h
   exact hu ks ts h hs
  have brack:(6≤o∧o≤10)→zs1 (.mk o v t l)→zm1 (.mk o v t l)∧zs1 (.mk o v t l):=fun ho hf=>by
   refine⟨fun ks ts h hs=>?_,hf⟩
   rw[show zkw (Fm.mk o v t l).op (Fm.mk o v t l).toks=sg [40]::((Fm.mk o v t l).toks++[sg [41]])from if_pos ho,List.cons_append,List.append_assoc]at h
   obtain⟨r1,h1,h2⟩:=zdy (s:=zbp) h
   obtain⟨r2,h3,h4⟩:=hf r1 _ h2 ⟨by simp[zfd,sg],fun w hw=>by simp[sg]at hw;subst hw;decide⟩
   obtain⟨r3,h5,h6⟩:=zec (s:=zcx) h4
   refine⟨r3,?_,h6⟩
   rw[zdc]
   unfold zan
   rw[zag (s:=sNot) h (by simp[sg,sNot]),zag (s:=sAll) h (by simp[sg,sAll]),zag (s:=zj0) h (by simp[sg,zj0]),h1]
   simp only
   have h3':zh zr r1=.ok (.mk o v t l) r2:=h3
   rw[h3',Rd.bind_ok,h5,Rd.map_ok]
  rcases hc with ⟨ho,rfl,rfl,hn⟩|⟨rfl,rfl,h1,hn⟩|⟨rfl,rfl,h1,hn⟩|⟨rfl,rfl,rfl,hn⟩|⟨ho,rfl,rfl,hn⟩|⟨ho,rfl,rfl,hn⟩|⟨ho,h1,rfl,hn⟩
  ·have hl:=List.eq_nil_of_length_eq_zero hn
   subst hl
   rcases ho with rfl|rfl
   ·exact both (by omega) fun ks ts h hs=>zk0 (b:=true) (by simpa[Fm.toks]using h)
   ·exact both (by omega) fun ks ts h hs=>zk0 (b:=false) (by simpa[Fm.toks]using h)
  ·have hl:=List.eq_nil_of_length_eq_zero hn
   subst hl
   match t,h1 with
   |[x],_ =>
   refine both (by omega) fun ks ts h hs=>?_
   have h:ks.map Tok.kt=x.toks++ts:=by simpa[Fm.toks,zv1]using h
   obtain⟨n6,k,hk,k3⟩:=zky (x:=x) (ts:=ts)
   obtain⟨r1,h1,h2⟩:=zv6 x (ht x (by simp)) ks _ h hs.1
   refine⟨r1,?_,h2⟩
   rw[zeq h n6,zgt h hk k3,h1,Rd.bind_ok,zag (s:=sEq) h2 hs.2.1]
   simp only
   rw[zag (s:=sNe) h2 hs.2.2]
   simp only
   rw[ht3 rfl x (by simp)]
   rfl
  ·have hl:=List.eq_nil_of_length_eq_zero hn
   subst hl
   match t,h1 with
   |[x,y],_ =>
   refine both (by omega) fun ks ts h hs=>?_
   exact(zs2 (zv6 x (ht x (by simp))) (zv6 y (ht y (by simp))) hs).1 (by simpa[Fm.toks,eqKT,List.append_assoc]using h)
  ·match l,hn with
   |[g],_ =>
   refine both (by omega) fun ks ts h hs=>?_
   rw[Fm.text5.2]at h
   by_cases hg:(List.head? [g]).map Fm.op=some 4
   ·rw[if_pos hg]at h
    have hgm:=hms g (by simp)
    obtain⟨og,vg,tg,lg⟩:=g
    simp only[List.head?_cons,Option.map_some,Option.some.injEq,Fm.op]at hg
    subst hg
    simp only[Fm.may,Bool.and_eq_true]at hgm
    obtain⟨-,ht',-,hc'⟩:=za6 hgm.1
    have hc2:vg=[]∧tg.length=2∧lg.length=0:=by
     rcases hc' with h|h|h|h|h|h|h<;>first|omega|exact⟨h.2.1,h.2.2⟩
    obtain⟨rfl,ht2,hl0⟩:=hc2
    have hl:=List.eq_nil_of_length_eq_zero hl0
    subst hl
    match tg,ht2 with
    |[x,y],_ =>
    simp only[List.head?_cons,Option.map_some,Fm.terms,Option.getD_some,eqKT,List.append_assoc,List.cons_append,List.nil_append]at h
    exact(zs2 (zv6 x (ht' x (by simp))) (zv6 y (ht' y (by simp))) hs).2 h
   ·rw[if_neg hg]at h
    simp only[Fm.unitsKT,if_true,List.nil_append,List.append_nil,List.cons_append]at h
    obtain⟨r1,h1,h2⟩:=zdy (s:=sNot) h
    obtain⟨r2,h3,h4⟩:=ihU g (by simp) r1 ts h2 hs
    refine⟨r2,?_,h4⟩
    rw[zdc]
    unfold zan
    rw[h1]
    simp only
    rw[h3,Rd.map_ok]
    rfl
  ·refine brack (by omega) fun ks ts h hs=>?_
   match l,hn with
   |e::l,hn =>
   simp only[List.length_cons]at hn
   have hl:1≤l.length:=by omega
   rw[(Fm.text6 (by omega) (by omega)).2]at h
   obtain⟨e2,l,rfl⟩:∃e2 l',l=e2::l':=by cases l with
    |nil=>simp at hl
    |cons a b=>exact⟨a,b,rfl⟩
   rcases ho with rfl|rfl
   ·have hk:zfb 6=[sg [38]]:=rfl
    rw[hk,Fm.unitsKT,if_pos rfl,List.nil_append,List.append_assoc]at h
    obtain⟨r1,h1,h2⟩:=ihU e (by simp) ks _ h (by simp[Fm.unitsKT,zfd,sg])
    have h2':=h2
    simp only[Fm.unitsKT,Bool.false_eq_true,if_false,List.cons_append,List.nil_append]at h2'
    obtain⟨t,r,rfl,h3,h4⟩:=zdh h2'
    have hkd:t.kind=6:=congrArg Prod.fst h3
    have htx:t.text=sAnd:=zae (congrArg Prod.snd h3)
    obtain⟨r3,h5,h6⟩:=zio (sep:=sAnd) (e2::l) (fun x hx=>ihU x (by simp at hx;simp[hx])) (t::r) ts h2 hs.1 (fun hh=>hs.2 _ hh (by decide)) (by simp[zfd,sg,sAnd])
    refine⟨r3,?_,h6⟩
    unfold zex zh
    rw[h1,Rd.bind_ok,zl,if_neg (fun h=>h hkd),if_pos htx,h5,Rd.map_ok]
    rfl
   ·have hk:zfb 7=[sg [124]]:=rfl
    rw[hk,Fm.unitsKT,if_pos rfl,List.nil_append,List.append_assoc]at h
    obtain⟨r1,h1,h2⟩:=ihU e (by simp) ks _ h (by simp[Fm.unitsKT,zfd,sg])
    have h2':=h2
    simp only[Fm.unitsKT,Bool.false_eq_true,if_false,List.cons_append,List.nil_append]at h2'
    obtain⟨t,r,rfl,h3,h4⟩:=zdh h2'
    have hkd:t.kind=6:=congrArg Prod.fst h3
    have htx:t.text=sOr:=zae (congrArg Prod.snd h3)
    obtain⟨r3,h5,h6⟩:=zio (sep:=sOr) (e2::l) (fun x hx=>ihU x (by simp at hx;simp[hx])) (t::r) ts h2 hs.1 (fun hh=>hs.2 _ hh (by decide)) (by simp[zfd,sg,sOr])
    refine⟨r3,?_,h6⟩
    unfold zex zh
    rw[h1,Rd.bind_ok,zl,if_neg (fun h=>h hkd),if_neg (by rw[htx];decide),if_pos htx,h5,Rd.map_ok]
    rfl
  ·refine brack (by omega) fun ks ts h hs=>?_
   match l,hn with
   |[e,e2],_ =>
   rw[(Fm.text6 (by omega) (by omega)).2]at h
   have go:∀(s:ByteArray) (b:Fm→Fm→Fm),zfb o=[sg s.data.toList]→s≠sAnd→s≠sOr→zdl s=some b→b e e2=.mk o [] [] [e,e2]→zfd [sg s.data.toList]→zhh (zex ks) (.mk o [] [] [e,e2]) ts:=fun s b hk hA hO hb hbe hst=>by
    rw[hk]at h
    simp only[Fm.unitsKT,if_true,Bool.false_eq_true,if_false,List.nil_append,List.append_nil,List.cons_append,List.append_assoc]at h
    obtain⟨r1,h1,h2⟩:=ihU e (by simp) ks _ h hst
    obtain⟨t,r,rfl,h3,h4⟩:=zdh h2
    have hkd:t.kind=6:=congrArg Prod.fst h3
    have htx:t.text=s:=zae (congrArg Prod.snd h3)
    obtain⟨r2,h5,h6⟩:=ihU e2 (by simp) r ts h4 hs.1
    refine⟨r2,?_,h6⟩
    unfold zex zh
    rw[h1,Rd.bind_ok,zl,if_neg (fun h=>h hkd),htx,if_neg hA,if_neg hO,hb]
    simp only
    rw[h5,Rd.map_ok,hbe]
   rcases ho with rfl|rfl|rfl
   ·exact go sImp _ rfl (by decide) (by decide) (by unfold zdl;rw[if_pos rfl]) rfl (by simp[zfd,sg,sImp])
   ·exact go sIff _ rfl (by decide) (by decide) (by unfold zdl;rw[if_neg (by decide),if_neg (by decide),if_pos rfl]) rfl (by simp[zfd,sg,sIff])
   ·exact go sXor _ rfl (by decide) (by decide) (by unfold zdl;rw[if_neg (by decide),if_neg (by decide),if_neg (by decide),if_pos rfl]) rfl (by simp[zfd,sg,sXor])
  ·match l,hn with
   |[g],_ =>
   refine both (by omega) fun ks ts h hs=>?_
   rw[(Fm.text11 (by omega)).2]at h
   simp only[Fm.unitsKT,if_true,List.nil_append,List.append_nil]at h
   rcases ho with rfl|rfl
   ·have hk:zfb 11=[sg [33],sg [91]]:=rfl
    rw[hk]at h
    simp only[List.cons_append,List.nil_append,List.append_assoc]at h
    obtain⟨r1,h2,h3⟩:=zdy (s:=sAll) h
    obtain⟨r2,h4,h5⟩:=zkz (op:=11) (ihU g (by simp)) h1 h3 hs
    refine⟨r2,?_,h5⟩
    rw[zdc]
    unfold zan
    rw[zag (s:=sNot) h (by simp[sg,sNot]),h2]
    exact h4
   ·have hk:zfb 12=[sg [63],sg [91]]:=rfl
    rw[hk]at h
    simp only[List.cons_append,List.nil_append,List.append_assoc]at h
    obtain⟨r1,h2,h3⟩:=zdy (s:=zj0) h
    obtain⟨r2,h4,h5⟩:=zkz (op:=12) (ihU g (by simp)) h1 h3 hs
    refine⟨r2,?_,h5⟩
    rw[zdc]
    unfold zan
    rw[zag (s:=sNot) h (by simp[sg,sNot]),zag (s:=sAll) h (by simp[sg,sAll]),h2]
    exact h4
open Go.ChangeShapes Go.WideShapes Go.ChangeAt Go.RowKit
theorem Ex.same_false {a b:Ex}(h:a≠b):Ex.same a b=false:=by
 cases hs:Ex.same a b with
 |false=>rfl
 |true=>exact absurd ((Ex.same_iff a b).1 hs) h
theorem Ex.same_true {a b:Ex}(h:a=b):Ex.same a b=true:=(Ex.same_iff a b).2 h
theorem zk1 (t:Ex):∀(u:Ex) (P Q:Nat→Prop) (w:World) (x y z x' y' z':Value),IsEx P w x y z t→IsEx Q w x' y' z' u→t.size≤4194304 →
  Calls Tryz.prog 42 #[.agg #[x,y,z],.agg #[x',y',z']] w fun e w'=>e=.returned (.bool (Ex.same t u))∧Ext w w':=by
 induction t using Ex.ind with
 |h v nm l ih =>
  intro u P Q w x y z x' y' z' ht hu hs
  obtain⟨v',nm',l'⟩:=u
  obtain⟨a,c,rfl,rfl,rfl,hn,hc1,hk⟩:=ht.form
  obtain⟨a',c',rfl,rfl,rfl,hn',hc1',hk'⟩:=hu.form
  simp only[Ex.var,Ex.name,Ex.args]at hn hc1 hk hn' hc1' hk' ⊢
  simp only[Ex.size]at hs
  have hkl:=Ex.length_le_sizes l
  have HIH:=Lib.hid ih
  clear ih ht hu
  by_cases hv:v=v'
  case neg =>
   have q1:(v != v')=true:=by rw[bne_iff_ne];exact hv
   have HR:=Lib.hid (Ex.same_false (a:=.mk v nm l) (b:=.mk v' nm' l') (fun h=>hv (by injection h)))
   have hvf:(v==v')=false:=by rw[beq_eq_false_iff_ne];exact hv
   go_enter Tryz.func42,Tryz.ntmps42
   go_wp2_with fail
   go_ret
   exact⟨ze (by rw[HR.out]),(zb _ _).alloc _⟩
  subst hv
  by_cases hnm:nm=nm'
  case neg =>
   have q2:(nm.toList==nm'.toList)=false:=zko hnm
   have HR:=Lib.hid (Ex.same_false (a:=.mk v nm l) (b:=.mk v nm' l') (fun h=>hnm (by injection h)))
   clear hnm
   go_enter Tryz.func42,Tryz.ntmps42
   go_wp2_with fail
   go_ret
   exact⟨ze (by rw[HR.out]),(zb _ _).alloc _⟩
  subst hnm
  have q2:(nm.toList==nm.toList)=true:=zkp rfl
  by_cases hll:l.length=l'.length
  case neg =>
   have q3:((l.length:Int) != (l'.length:Nat))=true:=by rw[bne_iff_ne];omega
   have HR:=Lib.hid (Ex.same_false (a:=.mk v nm l) (b:=.mk v nm l') (fun h=>hll (by injection h with _ _ h;rw[h])))
   clear hll
   go_enter Tryz.func42,Tryz.ntmps42
   go_wp2_with fail
   go_ret
   exact⟨ze (by rw[HR.out]),(zb _ _).alloc _⟩
  have q3:((l.length:Int) != (l'.length:Nat))=false:=by rw[bne_eq_false_iff_eq];omega
  have HLL:=Lib.hid hll
  have hle:l.length≤l'.length:=by omega
  clear hll
  go_enter Tryz.func42,Tryz.ntmps42
  go_wp2_with fail
  obtain⟨W,hW⟩:∃W,W=(w.alloc (.cells #[.bool v,.string nm,.slice a l.length c] 73)).alloc (.cells #[.bool v,.string nm,.slice a' l'.length c'] 73):=⟨_,rfl⟩
  have hx:Ext w W:=by rw[hW];exact(zb _ _).alloc _
  have b2:W.cell? ⟨w.heap.size,2,none⟩=some (.slice a l.length c):=by rw[hW];exact(zb _ _).cell (own3 w _ _ _ _ 2 _ rfl).1
  have d2:W.cell? ⟨w.heap.size+1,2,none⟩=some (.slice a' l'.length c'):=by
   rw[hW]
   have:=(own3 (w.alloc (.cells #[.bool v,.string nm,.slice a l.length c] 73)) (.bool v) (.string nm) (.slice a' l'.length c') 73 2 _ rfl).1
   rw[World.size_alloc]at this;exact this
  rw[←hW]
  clear hW
  go_loopw [5] (fun i wr=>∃k:Nat,k≤l.length∧i=.int .i64 k∧Ext W wr∧l.take k=l'.take k) (fun i _=>l.length-(intOf i).toNat)
  case atStart=>exact⟨0,Nat.zero_le _,rfl,Below.refl _ _,rfl⟩
  case round =>
   obtain⟨k,hkk,rfl,hxr,hm⟩:=hrel
   have HM:=Lib.hid hm
   clear hm
   replace b2:=hxr.cell b2
   replace d2:=hxr.cell d2
   by_cases hlt:k<l.length
   ·obtain⟨b,o,aa,cc,rfl,hb,g1,g2,g3,hi⟩:=(IsExs.ext hk (hx.trans hxr)).look hlt
    have hlt2:k<l'.length:=by omega
    obtain⟨bb,oo,aa',cc',rfl,hbb,j1,j2,j3,hi'⟩:=(IsExs.ext hk' (hx.trans hxr)).look hlt2
    have hlt':(k:Int)<l.length:=by omega
    have hlt2':(k:Int)<l'.length:=by omega
    have HE:=Lib.hid (fun w' (hx:Ext wr w')=>HIH.out _ (List.getElem_mem hlt) l'[k] P Q w' _ _ _ _ _ _ (hi.ext hx) (hi'.ext hx) (by have:=Ex.size_le_sizes hlt;omega))
    have HST:=Lib.hid (show l.take (k+1)=l.take k++[l[k]]from List.take_succ_eq_append_getElem hlt)
    have HST':=Lib.hid (show l'.take (k+1)=l'.take k++[l'[k]]from List.take_succ_eq_append_getElem hlt2)
    go_wp2_with fail
    go_still_tail 10,(by kernel_rfl)
    change wpList _ _ _ _ _ wr.drew
    by_cases he:l[k]=l'[k]
    ·have HS:=Lib.hid (Ex.same_true he)
     rw[HS.out]at HE
     have HEQ:=Lib.hid he
     clear he
     go_wp2_with (go_at_call 42;refine(HE.out _ (Ext.drew (Below.refl _ _))).mono ?_;rintro e w1 ⟨rfl,hx1⟩)
     go_roundw
     case rel=>exact⟨k+1,by omega,by go_num,hxr.trans ((Ext.drew (Below.refl _ wr)).trans hx1),by rw[HST.out,HST'.out,HM.out,HEQ.out]⟩
     case measure=>simp[intOf];omega
    ·have HS:=Lib.hid (Ex.same_false he)
     rw[HS.out]at HE
     have HR:=Lib.hid (Ex.same_false (a:=.mk v nm l) (b:=.mk v nm l') (fun h=>he (by injection h with _ _ h;subst h;rfl)))
     clear he
     go_wp2_with (go_at_call 42;refine(HE.out _ (Ext.drew (Below.refl _ _))).mono ?_;rintro e w1 ⟨rfl,hx1⟩)
     go_ret
     exact⟨ze (by rw[HR.out]),(hx.trans hxr).trans ((Ext.drew (Below.refl _ wr)).trans hx1)⟩
   ·have hlt':¬(k:Int)<l.length:=by omega
    have hke:k=l.length:=by omega
    have HR:=Lib.hid (Ex.same_true (a:=.mk v nm l) (b:=.mk v nm l') (by
     have h1:=HM.out
     rw[hke,List.take_length,HLL.out,List.take_length]at h1
     rw[h1]))
    clear hke
    go_wp2_with fail
    go_ret
    exact⟨ze (by rw[HR.out]),hx.trans hxr⟩
theorem Fm.same_false {a b:Fm}(h:a≠b):Fm.same a b=false:=by
 cases hs:Fm.same a b with
 |false=>rfl
 |true=>exact absurd ((Fm.same_iff a b).1 hs) h
theorem Fm.same_true {a b:Fm}(h:a=b):Fm.same a b=true:=(Fm.same_iff a b).2 h
theorem zrt (f:Fm):∀(g:Fm) (P Q:Nat→Prop) (w:World) (x y z u x' y' z' u':Value),IsFm P w x y z u f→IsFm Q w x' y' z' u' g→f.size≤4194304 →
  Calls Tryz.prog 14 #[.agg #[x,y,z,u],.agg #[x',y',z',u']] w fun e w'=>e=.returned (.bool (Fm.same f g))∧Ext w w':=by
 induction f using Fm.ind with
 |h op v t l ih =>
  intro g P Q w x y z u x' y' z' u' hf hg hs
  obtain⟨op',v',t',l'⟩:=g
  obtain⟨va,vc,ta,tc,a,c,rfl,rfl,rfl,rfl,ho1,ho2,hvl,htl,hll0,hvs,hts,hls⟩:=hf.form
  obtain⟨va',vc',ta',tc',a',c',rfl,rfl,rfl,rfl,ho1',ho2',hvl',htl',hll0',hvs',hts',hls'⟩:=hg.form
  simp only[Fm.op,Fm.vars,Fm.terms,Fm.args]at *
  simp only[Fm.size]at hs
  have hkl:=Fm.length_le_sizes l
  have hkt:=Ex.length_le_sizes t
  have HIH:=Lib.hid ih
  clear ih hf hg
  by_cases hop:op=op'
  case neg =>
   have q1:(op != op')=true:=by rw[bne_iff_ne];exact hop
   have HR:=Lib.hid (Fm.same_false (a:=.mk op v t l) (b:=.mk op' v' t' l') (fun h=>hop (by injection h)))
   clear hop
   go_enter Tryz.func14,Tryz.ntmps14
   go_wp2_with fail
   go_ret
   exact⟨ze (by rw[HR.out]),(zb _ _).alloc _⟩
  subst hop
  have q1:(op != op)=false:=by rw[bne_eq_false_iff_eq]
  by_cases hvv:v.length=v'.length
  case neg =>
   have q2:((v.length:Int) != (v'.length:Nat))=true:=by rw[bne_iff_ne];omega
   have HR:=Lib.hid (Fm.same_false (a:=.mk op v t l) (b:=.mk op v' t' l') (fun h=>hvv (by injection h with _ h;rw[h])))
   clear hvv
   go_enter Tryz.func14,Tryz.ntmps14
   go_wp2_with fail
   go_ret
   exact⟨ze (by rw[HR.out]),(zb _ _).alloc _⟩
  have q2:((v.length:Int) != (v'.length:Nat))=false:=by rw[bne_eq_false_iff_eq];omega
  have HL2:=Lib.hid hvv
  have hle2:v.length≤v'.length:=by omega
  clear hvv
  by_cases htt:t.length=t'.length
  case neg =>
   have q3:((t.length:Int) != (t'.length:Nat))=true:=by rw[bne_iff_ne];omega
   have HR:=Lib.hid (Fm.same_false (a:=.mk op v t l) (b:=.mk op v' t' l') (fun h=>htt (by injection h with _ _ h;rw[h])))
   clear htt
   go_enter Tryz.func14,Tryz.ntmps14
   go_wp2_with fail
   go_ret
   exact⟨ze (by rw[HR.out]),(zb _ _).alloc _⟩
  have q3:((t.length:Int) != (t'.length:Nat))=false:=by rw[bne_eq_false_iff_eq];omega
  have HL3:=Lib.hid htt
  have hle3:t.length≤t'.length:=by omega
  clear htt
  by_cases hll:l.length=l'.length
  case neg =>
   have q4:((l.length:Int) != (l'.length:Nat))=true:=by rw[bne_iff_ne];omega
   have HR:=Lib.hid (Fm.same_false (a:=.mk op v t l) (b:=.mk op v' t' l') (fun h=>hll (by injection h with _ _ _ h;rw[h])))
   clear hll
   go_enter Tryz.func14,Tryz.ntmps14
   go_wp2_with fail
   go_ret
   exact⟨ze (by rw[HR.out]),(zb _ _).alloc _⟩
  have q4:((l.length:Int) != (l'.length:Nat))=false:=by rw[bne_eq_false_iff_eq];omega
  have HL4:=Lib.hid hll
  have hle4:l.length≤l'.length:=by omega
  clear hll
  go_enter Tryz.func14,Tryz.ntmps14
  go_wp2_with fail
  obtain⟨W,hW⟩:∃W,W=(w.alloc (.cells #[.int .i64 op,.slice va v.length vc,.slice ta t.length tc,.slice a l.length c] 29)).alloc (.cells #[.int .i64 op,.slice va' v'.length vc',.slice ta' t'.length tc',.slice a' l'.length c'] 29):=⟨_,rfl⟩
  have hx:Ext w W:=by rw[hW];exact(zb _ _).alloc _
  have hO1:Own W w.heap.size [.int .i64 op,.slice va v.length vc,.slice ta t.length tc,.slice a l.length c]:=by rw[hW];exact(own4 w _ _ _ _ _).ext (zb _ _)
  have hO2:Own W (w.heap.size+1) [.int .i64 op,.slice va' v'.length vc',.slice ta' t'.length tc',.slice a' l'.length c']:=by
   rw[hW]
   have:=own4 (w.alloc (.cells #[.int .i64 op,.slice va v.length vc,.slice ta t.length tc,.slice a l.length c] 29)) (.int .i64 op) (.slice va' v'.length vc') (.slice ta' t'.length tc') (.slice a' l'.length c') 29
   rw[World.size_alloc]at this;exact this
  rw[←hW]
  clear hW
  go_loopw [5] (fun i wr=>∃k:Nat,k≤v.length∧i=.int .i64 k∧Ext W wr∧v.take k=v'.take k) (fun i _=>v.length-(intOf i).toNat)
  case atStart=>exact⟨0,Nat.zero_le _,rfl,Below.refl _ _,rfl⟩
  case round =>
   obtain⟨k,hkk,rfl,hxr,hm⟩:=hrel
   have HM:=Lib.hid hm
   clear hm
   have b1:=(hO1.ext hxr 1 _ rfl).1
   have d1:=(hO2.ext hxr 1 _ rfl).1
   by_cases hlt:k<v.length
   ·obtain⟨b,o,rfl,hb,g1,-⟩:=IsStrs.look (hvs.ext (hx.trans hxr)) hlt
    have hlt2:k<v'.length:=by omega
    obtain⟨bb,oo,rfl,hbb,j1,-⟩:=IsStrs.look (hvs'.ext (hx.trans hxr)) hlt2
    have hlt':(k:Int)<v.length:=by omega
    have hlt2':(k:Int)<v'.length:=by omega
    have HST:=Lib.hid (show v.take (k+1)=v.take k++[v[k]]from List.take_succ_eq_append_getElem hlt)
    have HST':=Lib.hid (show v'.take (k+1)=v'.take k++[v'[k]]from List.take_succ_eq_append_getElem hlt2)
    by_cases he:v[k]=v'[k]
    ·have p1:(v[k].toList==v'[k].toList)=true:=zkp he
     have HEQ:=Lib.hid he
     clear he
     go_wp2_with fail
     go_quiet (fail)
     go_wp2_with fail
     go_roundw
     case rel=>exact⟨k+1,by omega,by go_num,Ext.drewN hxr _,by rw[HST.out,HST'.out,HM.out,HEQ.out]⟩
     case measure=>simp[intOf];omega
    ·have p1:(v[k].toList==v'[k].toList)=false:=zko he
     have HR:=Lib.hid (Fm.same_false (a:=.mk op v t l) (b:=.mk op v' t' l') (fun h=>he (by injection h with _ h;subst h;rfl)))
     clear he
     go_wp2_with fail
     go_quiet (fail)
     go_wp2_with fail
     go_ret
     exact⟨ze (by rw[HR.out]),Ext.drewN (hx.trans hxr) _⟩
   ·have hlt':¬(k:Int)<v.length:=by omega
    have HV:=Lib.hid (show v=v' by
     have h1:=HM.out
     have hke:k=v.length:=by omega
     rw[hke,List.take_length,HL2.out,List.take_length]at h1
     exact h1)
    go_wp2_with fail
    obtain⟨wo,rfl⟩:∃wo:World,wo=wr:=⟨_,rfl⟩
    have hO1':=hO1.ext hxr
    have hO2':=hO2.ext hxr
    have hxx:=hx.trans hxr
    clear b1 d1 hO1 hO2 hvs hvs' HM
    go_loopw [6] (fun i wr=>∃k:Nat,k≤t.length∧i=.int .i64 k∧Ext wo wr∧t.take k=t'.take k) (fun i _=>t.length-(intOf i).toNat)
    case atStart=>exact⟨0,Nat.zero_le _,rfl,Below.refl _ _,rfl⟩
    case round =>
     obtain⟨k,hkk,rfl,hxr2,hm⟩:=hrel
     have HM:=Lib.hid hm
     clear hm
     have b2:=(hO1'.ext hxr2 2 _ rfl).1
     have d2:=(hO2'.ext hxr2 2 _ rfl).1
     by_cases hlt:k<t.length
     ·obtain⟨b,o,aa,cc,rfl,hb,g1,g2,g3,hi⟩:=(IsExs.ext hts (hxx.trans hxr2)).look hlt
      have hlt2:k<t'.length:=by omega
      obtain⟨bb,oo,aa',cc',rfl,hbb,j1,j2,j3,hi'⟩:=(IsExs.ext hts' (hxx.trans hxr2)).look hlt2
      have hlt':(k:Int)<t.length:=by omega
      have hlt2':(k:Int)<t'.length:=by omega
      have HE:=Lib.hid (fun w' (hx:Ext wr w')=>zk1 t[k] t'[k] P Q w' _ _ _ _ _ _ (hi.ext hx) (hi'.ext hx) (by have:=Ex.size_le_sizes hlt;omega))
      have HST:=Lib.hid (show t.take (k+1)=t.take k++[t[k]]from List.take_succ_eq_append_getElem hlt)
      have HST':=Lib.hid (show t'.take (k+1)=t'.take k++[t'[k]]from List.take_succ_eq_append_getElem hlt2)
      go_wp2_with fail
      go_still_tail 10,(by kernel_rfl)
      change wpList _ _ _ _ _ wr.drew
      by_cases he:t[k]=t'[k]
      ·have HS:=Lib.hid (Ex.same_true he)
       rw[HS.out]at HE
       have HEQ:=Lib.hid he
       clear he
       go_wp2_with (go_at_call 42;refine(HE.out _ (Ext.drew (Below.refl _ _))).mono ?_;rintro e w1 ⟨rfl,hx1⟩)
       go_roundw
       case rel=>exact⟨k+1,by omega,by go_num,hxr2.trans ((Ext.drew (Below.refl _ wr)).trans hx1),by rw[HST.out,HST'.out,HM.out,HEQ.out]⟩
       case measure=>simp[intOf];omega
      ·have HS:=Lib.hid (Ex.same_false he)
       rw[HS.out]at HE
       have HR:=Lib.hid (Fm.same_false (a:=.mk op v t l) (b:=.mk op v' t' l') (fun h=>he (by injection h with _ _ h;subst h;rfl)))
       clear he
       go_wp2_with (go_at_call 42;refine(HE.out _ (Ext.drew (Below.refl _ _))).mono ?_;rintro e w1 ⟨rfl,hx1⟩)
       go_ret
       exact⟨ze (by rw[HR.out]),(hxx.trans hxr2).trans ((Ext.drew (Below.refl _ wr)).trans hx1)⟩
     ·have hlt':¬(k:Int)<t.length:=by omega
      have HTT:=Lib.hid (show t=t' by
       have h1:=HM.out
       have hke:k=t.length:=by omega
       rw[hke,List.take_length,HL3.out,List.take_length]at h1
       exact h1)
      go_wp2_with fail
      obtain⟨wp,rfl⟩:∃wp:World,wp=wr:=⟨_,rfl⟩
      have hO1'':=hO1'.ext hxr2
      have hO2'':=hO2'.ext hxr2
      have hxy:=hxx.trans hxr2
      clear b2 d2 hO1' hO2' hts hts' HM
      go_loopw [7] (fun i wr=>∃k:Nat,k≤l.length∧i=.int .i64 k∧Ext wp wr∧l.take k=l'.take k) (fun i _=>l.length-(intOf i).toNat)
      case atStart=>exact⟨0,Nat.zero_le _,rfl,Below.refl _ _,rfl⟩
      case round =>
       obtain⟨k,hkk,rfl,hxr3,hm⟩:=hrel
       have HM:=Lib.hid hm
       clear hm
       have b3:=(hO1''.ext hxr3 3 _ rfl).1
       have d3:=(hO2''.ext hxr3 3 _ rfl).1
       by_cases hlt:k<l.length
       ·obtain⟨b,o,y1,y2,y3,y4,aa,cc,rfl,hb,g1,g2,g3,g4,hi⟩:=(IsFms.ext hls (hxy.trans hxr3)).look hlt
        have hlt2:k<l'.length:=by omega
        obtain⟨bb,oo,y1',y2',y3',y4',aa',cc',rfl,hbb,j1,j2,j3,j4,hi'⟩:=(IsFms.ext hls' (hxy.trans hxr3)).look hlt2
        have hlt':(k:Int)<l.length:=by omega
        have hlt2':(k:Int)<l'.length:=by omega
        have HE:=Lib.hid (fun w' (hx:Ext wr w')=>HIH.out _ (List.getElem_mem hlt) l'[k] P Q w' _ _ _ _ _ _ _ _ (hi.ext hx) (hi'.ext hx) (by have:=Fm.size_le_sizes hlt;omega))
        have HST:=Lib.hid (show l.take (k+1)=l.take k++[l[k]]from List.take_succ_eq_append_getElem hlt)
        have HST':=Lib.hid (show l'.take (k+1)=l'.take k++[l'[k]]from List.take_succ_eq_append_getElem hlt2)
        go_wp2_with fail
        go_still_tail 10,(by kernel_rfl)
        change wpList _ _ _ _ _ wr.drew
        by_cases he:l[k]=l'[k]
        ·have HS:=Lib.hid (Fm.same_true he)
         rw[HS.out]at HE
         have HEQ:=Lib.hid he
         clear he
         go_wp2_with (go_at_call 14;refine(HE.out _ (Ext.drew (Below.refl _ _))).mono ?_;rintro e w1 ⟨rfl,hx1⟩)
         go_roundw
         case rel=>exact⟨k+1,by omega,by go_num,hxr3.trans ((Ext.drew (Below.refl _ wr)).trans hx1),by rw[HST.out,HST'.out,HM.out,HEQ.out]⟩
         case measure=>simp[intOf];omega
        ·have HS:=Lib.hid (Fm.same_false he)
         rw[HS.out]at HE
         have HR:=Lib.hid (Fm.same_false (a:=.mk op v t l) (b:=.mk op v' t' l') (fun h=>he (by injection h with _ _ _ h;subst h;rfl)))
         clear he
         go_wp2_with (go_at_call 14;refine(HE.out _ (Ext.drew (Below.refl _ _))).mono ?_;rintro e w1 ⟨rfl,hx1⟩)
         go_ret
         exact⟨ze (by rw[HR.out]),(hxy.trans hxr3).trans ((Ext.drew (Below.refl _ wr)).trans hx1)⟩
       ·have hlt':¬(k:Int)<l.length:=by omega
        have HR:=Lib.hid (Fm.same_true (a:=.mk op v t l) (b:=.mk op v' t' l') (by
         have h1:=HM.out
         have hke:k=l.length:=by omega
         rw[hke,List.take_length,HL4.out,List.take_length]at h1
         rw[h1,HV.out,HTT.out]))
        go_wp2_with fail
        go_ret
        exact⟨ze (by rw[HR.out]),hxy.trans hxr3⟩
end Go.Proofs.YtnclgkdpafhogaaGreat
