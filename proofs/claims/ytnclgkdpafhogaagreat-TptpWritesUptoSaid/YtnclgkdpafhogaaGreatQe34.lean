/- The program's Text of entries. Condition: at most 1048576 entries, each with a formula of at most 1048576 parts.
Plain: what is read is small. No condition.
Plain: entries that are written are read as they were; what is read of a text may be written. No condition.
The law's Same on two rows that hold the same entries; long. Condition: at most 1048576 entries, each with a formula of at most 4194304 parts.
Plain: a text that is put into a file, and included, is read as the text itself. No condition. -/
import Derived.Test.YtnclgkdpafhogaaGreatQe22
import Derived.Test.YtnclgkdpafhogaaGreatQe31
import Derived.Test.YtnclgkdpafhogaaGreatQe33
import Derived.Test.YtnclgkdpafhogaaGreatQe32
import Derived.Test.YtnclgkdpafhogaaGreatQe16
import Derived.Test.YtnclgkdpafhogaaGreatQe20
set_option maxHeartbeats 16000000
set_option maxRecDepth 100000
namespace Go.Proofs.YtnclgkdpafhogaaGreat
open Go.ChangeShapes Go.WideShapes Go.ChangeAt Go.RowKit
def zde (x:Ent) (q f:ByteArray):List ByteArray:=[ziq x.cnf++⟨#[40]⟩,q,⟨#[44,32]⟩,x.role,⟨#[44,32]⟩,f,⟨#[41,46,10]⟩]
def zbi (l:List ByteArray):List UInt8:=l.flatMap fun s=>s.data.toList
theorem zia {l:List ByteArray}{k:Nat}(h:k<l.length):zbi (l.take (k+1))=zbi (l.take k)++l[k].data.toList:=by
 unfold zbi
 rw[List.take_succ_eq_append_getElem h,List.flatMap_append];simp
theorem zow {x:Ent}(hf:x.form.check=0):zbi (zde x (zay x.name).1 (zek x.form).1)=x.text:=by
 have h1:(zek x.form).1=⟨x.form.text.toArray⟩:=by unfold zek;rw[if_neg (fun h=>h hf)]
 rw[h1]
 simp[zbi,zde,Ent.text]
theorem zl0 {l:List ByteArray}{n:Nat}(h:∀s∈l,s.size≤n) (k:Nat):(zbi (l.take k)).length≤l.length * n:=by
 have:∀m:List ByteArray,(∀s∈m,s.size≤n)→(zbi m).length≤m.length * n:=by
  intro m hm
  induction m with
  |nil=>simp[zbi]
  |cons a m ih =>
   have h1:=ih fun s hs=>hm s (by simp[hs])
   have h2:=hm a (by simp)
   have h3:a.data.toList.length=a.size:=by simp
   unfold zbi at h1 ⊢
   rw[List.flatMap_cons,List.length_append,h3,List.length_cons,Nat.succ_mul]
   omega
 have h1:=this (l.take k) fun s hs=>h s (List.mem_of_mem_take hs)
 have h2:(l.take k).length≤l.length:=by rw[List.length_take];omega
 exact Nat.le_trans h1 (Nat.mul_le_mul_right n h2)
theorem zib {l:List Ent}(hl:l.length≤1048576) (hs:∀x∈l,x.form.size≤1048576){P:Nat→Prop}{w:World}{a:Option Addr}{c:Nat}(h:IsEnts P w a l) :
  Calls Tryz.prog 36 #[.slice a l.length c] w fun e w'=>e=.returned (.tuple #[.string (zcd l).1,.int .i64 (zcd l).2])∧Ext w w':=by
 have HI:=Lib.hid h
 clear h
 by_cases hlong:200<l.length
 ·have hlong':(200:Int)<(l.length:Nat):=by omega
  rw[zna hlong]
  go_enter Tryz.func36,Tryz.ntmps36
  go_wp2_with fail
  go_ret2
  exact⟨rfl,Below.refl _ _⟩
 have hlong':¬(200:Int)<(l.length:Nat):=by omega
 have hl200:l.length≤200:=by omega
 have HLO:=Lib.hid hlong
 clear hlong
 obtain⟨W,hW⟩:∃W,W=w.alloc (.cells #[.pointer none,.slice none 0 0] 82):=⟨_,rfl⟩
 have eW:Ext w W:=by rw[hW];exact zb _ _
 have hbW:BldT 82 w.heap.size [] W:=by rw[hW];exact ztq _ _ _ (zal w _)
 have hsW:w.heap.size<W.heap.size:=by rw[hW];simp
 go_enter Tryz.func36,Tryz.ntmps36
 go_upto_region 4 with fail
 rw[←hW]
 clear hW
 obtain⟨bb,hbb⟩:∃bb,bb=w.heap.size:=⟨_,rfl⟩
 rw[←hbb]at hbW hsW ⊢
 have hbw:w.heap.size≤bb:=by omega
 have HBB:=Lib.hid hbb
 clear hbb
 go_wp2_with fail
 go_loopw [20] (fun i wr=>∃k:Nat,k≤l.length∧i=.int .i64 k∧BldT 82 bb (zb0 (l.take k)) wr∧BFr bb W wr∧zaq (l.take k)=none∧(zb0 (l.take k)).length≤k * 70000000) (fun i _=>l.length-(intOf i).toNat)
 case atStart=>exact⟨0,Nat.zero_le _,rfl,by simpa[zb0]using hbW,BFr.refl _ _,rfl,by simp[zb0]⟩
 case round =>
  obtain⟨k,hkk,rfl,hbr,hfr,hfb,hln⟩:=hrel
  have HFB:=Lib.hid hfb
  clear hfb
  have hxr:Ext w wr:=hfr.ext' eW (by omega)
  have hsr:bb<wr.heap.size:=by have:=hfr.below.size;omega
  by_cases hkl:k<l.length
  ·have hkl':(k:Int)<l.length:=by omega
   obtain⟨b,o,x0,x1,x2,x3,rfl,-,⟨m0,m1,m2⟩,⟨m3,m4,m5,m6⟩,hi⟩:=(HI.out.ext hxr).look hkl
   have hz:=hs _ (List.getElem_mem hkl)
   have HST:=Lib.hid (zm9 hkl)
   have HBS:=Lib.hid (zeu hkl HFB.out)
   have HBA:=Lib.hid (fun h=>zp6 HLO.out hkl HFB.out h)
   have HC:=Lib.hid (fun w' (hx:Ext wr w')=>zqn l[k] _ w' _ _ _ _ (hi.ext hx) (by omega))
   have HT:=Lib.hid (fun w' (hx:Ext wr w')=>zu5 l[k].form (by omega) _ w' _ _ _ _ (hi.2.2.ext hx))
   have HQ:=Lib.hid (zi9 l[k].name hi.1)
   obtain⟨p1,c1,p2,c2,p3,c3,rfl,rfl,rfl,rfl,-⟩:=hi.2.2.form
   unfold entV at HC
   clear hi
   generalize l[k]=x at *
   obtain⟨V,hV⟩:∃V,V=wr.alloc (.cells #[.bool x.cnf,.string x.name,.string x.role,.int .i64 x.form.op,.slice p1 x.form.vars.length c1,.slice p2 x.form.terms.length c2,.slice p3 x.form.args.length c3] 53):=⟨_,rfl⟩
   have eV:Ext wr V:=by rw[hV];exact zb _ _
   have hoV:Own V wr.heap.size [.bool x.cnf,.string x.name,.string x.role,.int .i64 x.form.op,.slice p1 x.form.vars.length c1,.slice p2 x.form.terms.length c2,.slice p3 x.form.args.length c3]:=by rw[hV];exact zcr wr _ _
   have HBLD:=Lib.hid (fun w' (hx:Ext wr w')=>BldT.ext hbr hx)
   have HFRM:=Lib.hid (fun w' (hx:Ext wr w')=>hfr.trans (BFr.of_ext hx (by omega)))
   by_cases hck:x.check=0
   ·have HCK:=Lib.hid hck
    obtain⟨z1,z2,z3,-⟩:=zb1 hck
    have HJ:=Lib.hid (zow z3)
    have hzn:=zgw x.name
    have hzm:x.name.size≤40:=by unfold named at z1;rw[Bool.and_eq_true,decide_eq_true_eq]at z1;exact z1.1.2
    have hzr:x.role.size≤18:=zir (by unfold zbx at z2;rw[Bool.and_eq_true]at z2;exact z2.1)
    have hzf:=znb z3
    have hxl:=zwl hck hz
    rw[hck]at HC
    rw[show(zek x.form).2=0 by unfold zek;rw[if_neg (fun h=>h z3)]]at HT
    obtain⟨qt,hqt⟩:∃qt,qt=zay x.name:=⟨_,rfl⟩
    obtain⟨ft,hft⟩:∃ft,ft=(zek x.form).1:=⟨_,rfl⟩
    rw[←hqt]at HQ HJ hzn
    rw[←hft]at HT HJ hzf
    have hckz:(x.check != 0)=false:=by rw[hck];rfl
    have hps:∀s∈zde x qt.1 ft,s.size≤70000000:=by
     intro s hs
     have hk4:(ziq x.cnf++⟨#[40]⟩:ByteArray).size≤4:=by cases x.cnf<;>decide
     simp only[zde,List.mem_cons,List.not_mem_nil,or_false]at hs
     rcases hs with rfl|rfl|rfl|rfl|rfl|rfl|rfl
     ·omega
     ·omega
     ·decide
     ·omega
     ·decide
     ·omega
     ·decide
    have HPS:=Lib.hid hps
    clear hck z1 z2 z3 hzf hzn hzm hqt hft hps hbr hfr
    obtain⟨⟨k0,k1,k2⟩,⟨k3,k4,k5,k6⟩,hlV⟩:=zbd hoV
    have hTk:(zb0 (l.take k)).length≤14000000000:=by omega
    cases hcn:x.cnf with
    |true =>
     rw[hcn]at m0 hV k0 HC
     have hk4:(ziq x.cnf++⟨#[40]⟩:ByteArray)=⟨#[99,110,102,40]⟩:=by rw[hcn];apply ByteArray.ext;rfl
     clear hcn
     go_upto_region 7 with fail
     rw[←hV]
     clear hV
     go_upto_region 15 with (first
      |(go_at_call 18;refine(HT.out _ (eV.trans hx3)).mono ?_;rintro e w5 ⟨rfl,hx5⟩;replace k2:=hx5.cell k2;have lk2:=zf k2)
      |(go_at_call 75;refine(HQ.out _).mono ?_;rintro e w4 ⟨rfl,hw4⟩;subst hw4)
      |(go_at_call 33;refine(HC.out _ eV).mono ?_;rintro e w3 ⟨rfl,hx3⟩;replace k0:=hx3.cell k0;replace k1:=hx3.cell k1;replace k2:=hx3.cell k2;replace k3:=hx3.cell k3;replace k4:=hx3.cell k4;replace k5:=hx3.cell k5;replace k6:=hx3.cell k6;have lk0:=zf k0))
     obtain⟨Y,hY⟩:∃Y,Y=w5.alloc (.cells #[.string ⟨#[99,110,102,40]⟩,.string qt.1,.string ⟨#[44,32]⟩,.string x.role,.string ⟨#[44,32]⟩,.string ft,.string ⟨#[41,46,10]⟩] 9):=⟨_,rfl⟩
     have hoY:Y.heap[w5.heap.size]?=some (.cells #[.string ⟨#[99,110,102,40]⟩,.string qt.1,.string ⟨#[44,32]⟩,.string x.role,.string ⟨#[44,32]⟩,.string ft,.string ⟨#[41,46,10]⟩] 9 (0,0)):=by rw[hY];exact zal _ _
     have eY:Ext wr Y:=by rw[hY];exact((eV.trans hx3).trans hx5).alloc _
     have hsY:=eY.size
     have hw5:wr.heap.size<w5.heap.size:=by have:=hx3.size;have:=hx5.size;omega
     obtain⟨PT,hPT⟩:∃PT,PT=zde x qt.1 ft:=⟨_,rfl⟩
     have hP7:PT.length=7:=by rw[hPT];rfl
     have HPJ:=Lib.hid (show ∀j (h:j<PT.length),(#[.string ⟨#[99,110,102,40]⟩,.string qt.1,.string ⟨#[44,32]⟩,.string x.role,.string ⟨#[44,32]⟩,.string ft,.string ⟨#[41,46,10]⟩]:Array Value)[j]?=some (.string PT[j])from fun j h=>by
      subst hPT
      match j,h with
      |0,_=>simp only[zde,List.getElem_cons_zero,hk4];rfl
      |1,_=>rfl
      |2,_=>rfl
      |3,_=>rfl
      |4,_=>rfl
      |5,_=>rfl
      |6,_=>rfl
      |n+7,h=>exact absurd h (by simp[zde]))
     rw[←hPT]at HJ HPS
     have HP7:=Lib.hid hP7
     clear hPT hk4 hP7
     go_wp2_with fail
     rw[←hY]
     clear hY
     obtain⟨yb,hyb⟩:∃yb,yb=w5.heap.size:=⟨_,rfl⟩
     rw[←hyb]at hoY hw5 ⊢
     clear hyb k0 k1 k2 k3 k4 k5 k6
     have hbY:=HBLD.out _ eY
     have hfY:=HFRM.out _ eY
     go_loopw [50] (fun y wr2=>∃j:Nat,j≤7∧y=.int .i64 j∧BldT 82 bb (zb0 (l.take k)++zbi (PT.take j)) wr2∧BFr bb Y wr2) (fun y _=>7-(intOf y).toNat)
     case atStart=>exact⟨0,Nat.zero_le _,rfl,by simpa[zbi]using hbY,BFr.refl _ _⟩
     case round =>
      obtain⟨j,hj,rfl,hb2,hf2⟩:=hrel
      have hor:=hf2.obj hoY (by omega) (by decide)
      have hs2:=hf2.below.size
      have hlen2:(zb0 (l.take k)++zbi (PT.take j)).length≤14500000000:=by
       have:=zl0 HPS.out j
       rw[HP7.out]at this
       rw[List.length_append];omega
      by_cases hj7:j<7
      ·have hj1:(j:Int)<7:=by omega
       have hjP:j<PT.length:=by have:=HP7.out;omega
       have g1:=zd hor j
       rw[HPJ.out j (by have:=HP7.out;omega)]at g1
       have lg:=zf g1
       have hps:=HPS.out _ (List.getElem_mem (show j<PT.length by have:=HP7.out;omega))
       have HSP:=Lib.hid (zia (l:=PT) (k:=j) (by have:=HP7.out;omega))
       have HWS:=Lib.hid (zn zm8 bb _ PT[j] _ hb2 (by omega) (by omega))
       generalize PT[j]=pj at *
       go_wp2_with (go_at_call 76;refine(HWS.out).mono ?_;rintro e w6 ⟨rfl,hb6,hf6⟩)
       go_roundw
       case rel=>exact⟨j+1,by omega,by go_num,by rw[HSP.out,←List.append_assoc];exact hb6,hf2.trans hf6⟩
       case measure=>simp[intOf];omega
      ·have hj1:¬(j:Int)<7:=by omega
       have hje:j=PT.length:=by have:=HP7.out;omega
       rw[hje,List.take_length,HJ.out]at hb2
       clear hje hor
       go_wp2_with fail
       go_roundw
       case rel=>exact⟨k+1,by omega,by go_num,by rw[HST.out];exact hb2,hfY.trans hf2,HBS.out HCK.out,by rw[HST.out,List.length_append];omega⟩
       case measure=>simp[intOf];omega
    |false =>
     rw[hcn]at m0 hV k0 HC
     have hk4:(ziq x.cnf++⟨#[40]⟩:ByteArray)=⟨#[102,111,102,40]⟩:=by rw[hcn];apply ByteArray.ext;rfl
     clear hcn
     go_upto_region 7 with fail
     rw[←hV]
     clear hV
     go_upto_region 15 with (first
      |(go_at_call 18;refine(HT.out _ (eV.trans hx3)).mono ?_;rintro e w5 ⟨rfl,hx5⟩;replace k2:=hx5.cell k2;have lk2:=zf k2)
      |(go_at_call 75;refine(HQ.out _).mono ?_;rintro e w4 ⟨rfl,hw4⟩;subst hw4)
      |(go_at_call 33;refine(HC.out _ eV).mono ?_;rintro e w3 ⟨rfl,hx3⟩;replace k0:=hx3.cell k0;replace k1:=hx3.cell k1;replace k2:=hx3.cell k2;replace k3:=hx3.cell k3;replace k4:=hx3.cell k4;replace k5:=hx3.cell k5;replace k6:=hx3.cell k6;have lk0:=zf k0))
     obtain⟨Y,hY⟩:∃Y,Y=w5.alloc (.cells #[.string ⟨#[102,111,102,40]⟩,.string qt.1,.string ⟨#[44,32]⟩,.string x.role,.string ⟨#[44,32]⟩,.string ft,.string ⟨#[41,46,10]⟩] 9):=⟨_,rfl⟩
     have hoY:Y.heap[w5.heap.size]?=some (.cells #[.string ⟨#[102,111,102,40]⟩,.string qt.1,.string ⟨#[44,32]⟩,.string x.role,.string ⟨#[44,32]⟩,.string ft,.string ⟨#[41,46,10]⟩] 9 (0,0)):=by rw[hY];exact zal _ _
     have eY:Ext wr Y:=by rw[hY];exact((eV.trans hx3).trans hx5).alloc _
     have hsY:=eY.size
     have hw5:wr.heap.size<w5.heap.size:=by have:=hx3.size;have:=hx5.size;omega
     obtain⟨PT,hPT⟩:∃PT,PT=zde x qt.1 ft:=⟨_,rfl⟩
     have hP7:PT.length=7:=by rw[hPT];rfl
     have HPJ:=Lib.hid (show ∀j (h:j<PT.length),(#[.string ⟨#[102,111,102,40]⟩,.string qt.1,.string ⟨#[44,32]⟩,.string x.role,.string ⟨#[44,32]⟩,.string ft,.string ⟨#[41,46,10]⟩]:Array Value)[j]?=some (.string PT[j])from fun j h=>by
      subst hPT
      match j,h with
      |0,_=>simp only[zde,List.getElem_cons_zero,hk4];rfl
      |1,_=>rfl
      |2,_=>rfl
      |3,_=>rfl
      |4,_=>rfl
      |5,_=>rfl
      |6,_=>rfl
      |n+7,h=>exact absurd h (by simp[zde]))
     rw[←hPT]at HJ HPS
     have HP7:=Lib.hid hP7
     clear hPT hk4 hP7
     go_wp2_with fail
     rw[←hY]
     clear hY
     obtain⟨yb,hyb⟩:∃yb,yb=w5.heap.size:=⟨_,rfl⟩
     rw[←hyb]at hoY hw5 ⊢
     clear hyb k0 k1 k2 k3 k4 k5 k6
     have hbY:=HBLD.out _ eY
     have hfY:=HFRM.out _ eY
     go_loopw [50] (fun y wr2=>∃j:Nat,j≤7∧y=.int .i64 j∧BldT 82 bb (zb0 (l.take k)++zbi (PT.take j)) wr2∧BFr bb Y wr2) (fun y _=>7-(intOf y).toNat)
     case atStart=>exact⟨0,Nat.zero_le _,rfl,by simpa[zbi]using hbY,BFr.refl _ _⟩
     case round =>
      obtain⟨j,hj,rfl,hb2,hf2⟩:=hrel
      have hor:=hf2.obj hoY (by omega) (by decide)
      have hs2:=hf2.below.size
      have hlen2:(zb0 (l.take k)++zbi (PT.take j)).length≤14500000000:=by
       have:=zl0 HPS.out j
       rw[HP7.out]at this
       rw[List.length_append];omega
      by_cases hj7:j<7
      ·have hj1:(j:Int)<7:=by omega
       have hjP:j<PT.length:=by have:=HP7.out;omega
       have g1:=zd hor j
       rw[HPJ.out j (by have:=HP7.out;omega)]at g1
       have lg:=zf g1
       have hps:=HPS.out _ (List.getElem_mem (show j<PT.length by have:=HP7.out;omega))
       have HSP:=Lib.hid (zia (l:=PT) (k:=j) (by have:=HP7.out;omega))
       have HWS:=Lib.hid (zn zm8 bb _ PT[j] _ hb2 (by omega) (by omega))
       generalize PT[j]=pj at *
       go_wp2_with (go_at_call 76;refine(HWS.out).mono ?_;rintro e w6 ⟨rfl,hb6,hf6⟩)
       go_roundw
       case rel=>exact⟨j+1,by omega,by go_num,by rw[HSP.out,←List.append_assoc];exact hb6,hf2.trans hf6⟩
       case measure=>simp[intOf];omega
      ·have hj1:¬(j:Int)<7:=by omega
       have hje:j=PT.length:=by have:=HP7.out;omega
       rw[hje,List.take_length,HJ.out]at hb2
       clear hje hor
       go_wp2_with fail
       go_roundw
       case rel=>exact⟨k+1,by omega,by go_num,by rw[HST.out];exact hb2,hfY.trans hf2,HBS.out HCK.out,by rw[HST.out,List.length_append];omega⟩
       case measure=>simp[intOf];omega
   ·have hckz:(x.check != 0)=true:=by rw[bne_iff_ne];exact hck
    have HBB2:=Lib.hid (HBA.out hck)
    clear hck HT HQ
    obtain⟨⟨k0,k1,k2⟩,⟨k3,k4,k5,k6⟩,hlV⟩:=zbd hoV
    go_upto_region 7 with fail
    rw[←hV]
    clear hV
    go_wp2_with (go_at_call 33;refine(HC.out _ eV).mono ?_;rintro e w3 ⟨rfl,hx3⟩)
    go_ret2
    rw[HBB2.out]
    exact⟨rfl,(hxr.trans eV).trans hx3⟩
  ·have hkl':¬(k:Int)<l.length:=by omega
   have hke:k=l.length:=by omega
   have hfb:=HFB.out
   rw[hke,List.take_length]at hfb hbr
   have HEN:=Lib.hid (zlb HLO.out hfb)
   clear hke hln
   obtain⟨T,hT⟩:∃T,T=zb0 l:=⟨_,rfl⟩
   rw[←hT]at hbr HEN
   clear hT hfb
   have HLE:=Lib.hid (Tryz.Builder_Len_f bb bb (Lib.byteCells T) wr hbr)
   rw[Lib.byteCells_length]at HLE
   have HSR:=Lib.hid (Tryz.Builder_String_any_k bb bb T wr hbr (by omega))
   by_cases h8:8000<T.length
   ·have h8':(8000:Int)<(T.length:Nat):=by omega
    have HE2:=Lib.hid (HEN.out.trans (if_pos h8))
    clear h8
    go_wp2_with (go_at_call 77;refine(HLE.out).mono ?_;rintro e w3 ⟨rfl,rfl⟩)
    go_ret2
    rw[HE2.out]
    exact⟨rfl,hxr⟩
   ·have h8':¬(8000:Int)<(T.length:Nat):=by omega
    have HE2:=Lib.hid (HEN.out.trans (if_neg h8))
    clear h8
    go_wp2_with (first
     |(go_at_call 47;refine(HSR.out).mono ?_;rintro e w4 ⟨rfl,-,hx4,-⟩)
     |(go_at_call 77;refine(HLE.out).mono ?_;rintro e w3 ⟨rfl,rfl⟩))
    go_ret2
    rw[HE2.out]
    exact⟨rfl,Below.trans hxr (hx4.mono (by omega))⟩
theorem zxo {l:List Tok}{file:Int}{cnf:Bool}{fr:Int}{n:Nat}{ks r:List Tok}{x:Ent}(hk:ks <:+ l) (h:entR l file cnf fr n ks=.ok (x,r)):x.form.size≤2 * l.length:=by
 unfold entR at h
 cases hh:zat ks with
 |bad q=>rw[hh]at h;cases h
 |ok y q =>
  rw[hh,Rd.out_ok]at h
  have hq:q <:+ l:=(zeh (zgu ks) hh).trans hk
  split at h
  ·cases h
  ·split at h
   ·cases h
   ·rename_i h0
    cases hen:zcz (l.drop (zbo l (l.length-q.length:Nat)).2.1.toNat) with
    |bad z=>rw[hen]at h;cases h
    |ok u z =>
     rw[hen,Rd.out_ok]at h
     split at h
     ·cases h
     ·split at h
      ·cases h
      ·injection h with h
       injection h with h _
       subst h
       refine znl hq (nx:=(zbo l (l.length-q.length:Nat)).2.1) ?_
       have h1:(zbo l (l.length-q.length:Nat)).2.2=0:=Decidable.not_not.1 h0
       rw[←h1]
def Small (l:List Ent):Prop:=∀x∈l,x.form.size≤16002
theorem znn {file:Int}{ns:Option (List (ByteArray×Int))}{l l':List Ent}(h:zhi file ns l=.ok l'):∀x∈l',x∈l:=by
 unfold zhi at h
 split at h
 ·injection h with h;subst h;exact fun x hx=>hx
 ·split at h
  ·cases h
  ·injection h with h;subst h
   exact fun x hx=>(List.mem_filter.1 hx).1
theorem zu6 {rd:Nat→Nat→Nat→Out (List Ent×Nat)}{files:List (ByteArray×ByteArray)}{opn:Nat→Bool}{l:List Tok}{file:Int}{n cnt:Nat}(hrd:∀(i n c:Nat) (x:List Ent×Nat),rd i n c=.ok x→Small x.1){l':List Ent}{c':Nat}{r r':List Tok}(hy:incR rd files opn l file n cnt r=.ok ((l',c'),r')):Small l':=by
 unfold incR at hy
 cases hh:zau r with
 |bad k=>rw[hh]at hy;cases hy
 |ok z k =>
  rw[hh,Rd.out_ok]at hy
  split at hy
  ·cases hy
  ·split at hy
   ·cases hy
   ·split at hy
    ·cases hy
    ·obtain⟨q,hq,hy⟩:=Out.bind_eq_ok hy
     obtain⟨m,hm,hy⟩:=Out.bind_eq_ok hy
     injection hy with hy
     injection hy with hy _
     injection hy with hy _
     subst hy
     exact fun x hx=>hrd _ _ _ _ hq x (znn hm x hx)
theorem Small.append {a b:List Ent}(h:Small a) (k:Small b):Small (a++b):=fun x hx=>(List.mem_append.1 hx).elim (h x) (k x)
theorem zfs {rd:Nat→Nat→Nat→Out (List Ent×Nat)}{files:List (ByteArray×ByteArray)}{opn:Nat→Bool}{l:List Tok}{file:Int}{ahead:Nat}(hE:Ends l) (hl:l.length≤8001) (hrd:∀(i n c:Nat) (x:List Ent×Nat),rd i n c=.ok x→Small x.1) :
  ∀(f:Nat) (ks:List Tok) (out:List Ent) (cnt:Nat) (x:List Ent×Nat),ks <:+ l→Ends ks→Small out→zap rd files opn l file ahead f ks out cnt=.ok x→Small x.1
 |0,_,_,_,_,_,_,_,h=>by cases h
 |f+1,ks,out,cnt,x,hks,hke,ho,h=>by
  unfold zap at h
  split at h
  ·injection h with h;subst h;exact ho
  ·rename_i h7
   obtain⟨t,r,rfl,her⟩:∃t r,ks=t::r∧Ends r:=by
    cases ks with
    |nil=>exact absurd rfl h7
    |cons t r=>exact⟨t,r,rfl,hke.tail h7⟩
   have hr:r <:+ l:=(List.suffix_cons t r).trans hks
   split at h
   ·obtain⟨y,hy,h⟩:=Out.bind_eq_ok h
    obtain⟨e,r'⟩:=y
    obtain⟨h1,h2,h3,h4⟩:=zgv hE hr her hy
    refine zfs hE hl hrd f r' (out++[e]) cnt x (h1.trans hr) h3 (ho.append fun z hz=>?_) h
    rw[List.mem_singleton]at hz
    subst hz
    have:=zxo hr hy
    omega
   ·split at h
    ·obtain⟨y,hy,h⟩:=Out.bind_eq_ok h
     obtain⟨⟨l',c'⟩,r'⟩:=y
     obtain⟨h1,h2,h3⟩:=zn8 her hy
     exact zfs hE hl hrd f r' (out++l') c' x (h1.trans hr) h3 (ho.append (zu6 hrd hy)) h
    ·cases h
theorem zl1 {files:List (ByteArray×ByteArray)}:∀(d:Nat) (opn:Nat→Bool) (file:Int) (s:ByteArray) (ahead cnt:Nat) (x:List Ent×Nat),zb8 files d opn file s ahead cnt=.ok x→Small x.1
 |0,_,_,_,_,_,_,h=>by cases h
 |d+1,opn,file,s,ahead,cnt,x,h=>by
  have hlen:=zs3 s
  unfold zb8 at h
  split at h
  ·cases h
  ·rename_i h0
   have hE:=zfe (s:=s) (Decidable.not_not.1 h0)
   exact zfs hE (by omega) (fun i n c x hx=>zl1 d _ _ _ n c x hx) _ _ [] cnt x (List.suffix_refl _) hE (fun _ h=>by cases h) h
theorem zgz {files:List (ByteArray×ByteArray)}{s:ByteArray}{l:List Ent}(h:zcw files s=.ok l):(∀x∈l,x.form.size≤16002)∧l.length≤200:=by
 obtain⟨x,hx,h⟩:=Out.bind_eq_ok (show(zb8 files (files.length+1) (fun _=>false) (-1) s 0 0).bind (fun x=>Out.ok x.1)=.ok l from h)
 injection h with h
 subst h
 have:=zlz (files.length+1) _ _ _ 0 0 x (by omega) hx
 exact⟨zl1 _ _ _ _ _ _ _ hx,by omega⟩
def Ent.toksA (x:Ent):List (Int×List UInt8):=sg [40]::zcy false x.name::sg [44]::(1,x.role.data.toList)::sg [44]::(x.form.toks++[sg [41],sg [46]])
def Ent.toks (x:Ent):List (Int×List UInt8):=(1,(ziq x.cnf).data.toList)::x.toksA
def zxp (l:List Ent):List (Int×List UInt8):=l.flatMap Ent.toks
def lowW:List UInt8→Bool
 |[]=>false
 |c::w=>decide (97≤c.toNat∧c.toNat≤122)&&w.all zp&&decide (w.length+1≤40)
theorem zxq {l:List UInt8}(h:lowW l=true){rest:List UInt8}{ts:List (Int×List UInt8)}(hs:zdp rest) (hr:Lex rest ts):Lex (l++rest) ((1,l)::ts):=by
 cases l with
 |nil=>cases h
 |cons c w =>
  unfold lowW at h
  rw[Bool.and_eq_true,Bool.and_eq_true,decide_eq_true_eq,decide_eq_true_eq]at h
  exact Lex.low h.1.1 (fun x hx=>List.all_eq_true.1 h.1.2 x hx) h.2 hs hr
theorem zz0 {s:ByteArray}(h:zbl s=true):lowW s.data.toList=true:=by
 unfold zbl at h
 obtain⟨r,hr,he⟩:=List.any_eq_true.1 h
 have he:=of_decide_eq_true he
 subst he
 have hc:∀r∈zj4,lowW r.data.toList=true:=by decide +kernel
 exact hc _ hr
theorem zz1 (c:Bool):lowW (ziq c).data.toList=true:=by cases c<;>decide +kernel
theorem z1m {c:Bool}{s:ByteArray}(h:zbx c s=true):zbl s=true:=by unfold zbx at h;rw[Bool.and_eq_true]at h;exact h.1
theorem z1n {x:Ent}(hc:x.check=0){rest:List UInt8}{ts:List (Int×List UInt8)}(hr:Lex rest ts):Lex (x.text++rest) (x.toks++ts):=by
 obtain⟨h1,h2,h3,-⟩:=zb1 hc
 have e1:x.text++rest=(ziq x.cnf).data.toList++(40::((zay x.name).1.data.toList++(44::32::(x.role.data.toList++(44::32::(x.form.text++(41::46::10::rest))))))):=by simp[Ent.text]
 have e2:x.toks++ts=(1,(ziq x.cnf).data.toList)::sg [40]::zcy false x.name::sg [44]::(1,x.role.data.toList)::sg [44]::(x.form.toks++(sg [41]::sg [46]::ts)):=by simp[Ent.toks,Ent.toksA]
 rw[e1,e2]
 have s1:∀(c:UInt8) (l:List UInt8),zp c=false→zdp (c::l):=fun c l h=>zbb h
 have hq:=zn2 (v:=false) (n:=x.name) (by simpa using h1) (rest:=44::32::(x.role.data.toList++(44::32::(x.form.text++(41::46::10::rest))))) (s1 _ _ (by decide)) (zyw (.blank (zxq (zz0 (z1m h2)) (s1 _ _ (by decide)) (zyw (.blank (z13 x.form (zel h3) _ _ (s1 _ _ (by decide)) (z09 (z2g (.line hr)))))))))
 exact zxq (zz1 _) (s1 _ _ (by decide)) (z08 hq)
theorem ztr:∀(l:List Ent),(∀x∈l,x.check=0)→Lex (zb0 l) (zxp l)
 |[],_=>.nil
 |x::l,h=>by
  have:=z1n (h x (by simp)) (ztr l fun y hy=>h y (by simp[hy]))
  simpa[zb0,zxp]using this
theorem zic:∀ {l:List Ent},zaq l=none→∀x∈l,x.check=0
 |x::l,h,y,hy=>by
  unfold zaq at h
  split at h
  ·cases h
  ·rename_i h1
   rcases List.mem_cons.1 hy with rfl|hy
   ·exact Decidable.not_not.1 h1
   ·exact zic h y hy
theorem zl2:∀ {l:List Ent}{e:Int},zaq l=some e→e≠0
 |x::l,e,h=>by
  unfold zaq at h
  split at h
  ·rename_i h1;injection h with h;subst h;exact h1
  ·exact zl2 h
theorem zl3:∀ {l:List Ent},(∀x∈l,x.check=0)→zaq l=none
 |[],_=>rfl
 |x::l,h=>by
  unfold zaq
  rw[if_neg (fun h1=>h1 (h x (by simp)))]
  exact zl3 fun y hy=>h y (by simp[hy])
theorem zz2 {l ks:List Tok}(hks:ks <:+ l){x:Ent}(hc:x.check=0){file fr:Int}{n:Nat}(hn:n<200){ts:List (Int×List UInt8)}(h:ks.map Tok.kt=x.toksA++ts):∃r,entR l file x.cnf fr n ks=.ok (x,r)∧r.map Tok.kt=ts:=by
 obtain⟨z1,z2,z3,z4⟩:=zb1 hc
 unfold Ent.toksA at h
 simp only[List.cons_append,List.append_assoc,List.nil_append]at h
 obtain⟨r1,m1,h1⟩:=zec (s:=zbp) h
 obtain⟨t,r2,rfl,ht,h2⟩:=zdh h1
 obtain⟨-,-,-,hkn⟩:=zgs false x.name
 have htx:t.text=x.name:=zae (by have:=congrArg Prod.snd ht;rw[hkn]at this;exact this)
 have htk:t.kind=1∨t.kind=4:=by
  have h5:=congrArg Prod.fst ht
  unfold zcy at h5
  simp only[Bool.false_eq_true,if_false]at h5
  split at h5
  ·exact .inl h5
  ·exact .inr h5
 have hnk:zes (t::r2)=.ok x.name r2:=by
  rw[zc2,if_pos,htx]
  unfold Tok.named
  rw[htx,z1]
  rcases htk with h5|h5<;>rw[h5]<;>decide
 obtain⟨r3,m3,h3⟩:=zec (s:=zj) h2
 obtain⟨t4,r4,rfl,ht4,h4⟩:=zdh h3
 have hk4:za5 1 (t4::r4)=.ok x.role r4:=by
  have hk1:t4.kind=1:=congrArg Prod.fst ht4
  rw[zcf,if_pos hk1]
  rw[show t4.text=x.role from zae (congrArg Prod.snd ht4)]
 obtain⟨r5,m5,h5⟩:=zec (s:=zj) h4
 have hhead:=zm5 m1 hnk m3 hk4 m5
 obtain⟨r6,f6,h6⟩:=(z2k x.form (zel z3)).2 r5 (sg [41]::sg [46]::ts) h5 ⟨by simp[zfd,sg],fun w hw=>by simp[sg]at hw;subst hw;decide⟩
 have hr5:r5 <:+ l:=(zeh (zgu ks) hhead).trans hks
 have hr6:r6 <:+ l:=(zeh (zqj r5) f6).trans hr5
 have hne:0<r5.length:=by
  have:=congrArg List.length h5
  simp at this;omega
 have hle:=hr5.length_le
 have hd5:l.drop (l.length-r5.length)=r5:=(List.suffix_iff_eq_drop.1 hr5).symm
 have hd6:l.drop (l.length-r6.length)=r6:=(List.suffix_iff_eq_drop.1 hr6).symm
 have hrs:zbo l (l.length-r5.length:Nat)=(x.form,((l.length-r6.length:Nat):Int),0):=by
  unfold zbo
  rw[if_neg (by omega),Int.toNat_natCast,hd5,f6]
  simp only
  rw[if_neg (fun h=>h z3)]
 obtain⟨r7,m7,h7⟩:=zec (s:=zcx) h6
 obtain⟨r8,m8,h8⟩:=zec (s:=sDot) h7
 refine⟨r8,?_,h8⟩
 rw[zp2 (cnf:=x.cnf) hhead z2 hrs (by rw[Int.toNat_natCast,hd6];exact zp3 m7 m8),if_neg (fun h=>h z4),if_neg (by omega)]
theorem zno {l:List Tok}(hE:Ends l){rd:Nat→Nat→Nat→Out (List Ent×Nat)}{files:List (ByteArray×ByteArray)}{opn:Nat→Bool}{file:Int}{cnt:Nat}:∀(es:List Ent) (f:Nat) (ks:List Tok) (out:List Ent),(∀x∈es,x.check=0)→ks <:+ l→Ends ks→ks.length<f→ks.map Tok.kt=zxp es++[(7,[])]→out.length+es.length≤200→zap rd files opn l file 0 f ks out cnt=.ok (out++es,cnt)
 |_,0,_,_,_,_,_,hf,_,_=>absurd hf (Nat.not_lt_zero _)
 |[],f+1,ks,out,_,_,_,_,h,_=>by
  obtain⟨t,r,rfl,ht,-⟩:=zdh (show ks.map Tok.kt=(7,[])::[]from h)
  have h7:(zt (t::r)).kind=7:=congrArg Prod.fst ht
  unfold zap
  rw[if_pos h7,List.append_nil]
 |x::es,f+1,ks,out,hc,hks,hke,hf,h,hl=>by
  obtain⟨t,r,rfl,ht,hr⟩:=zdh (show ks.map Tok.kt=(1,(ziq x.cnf).data.toList)::(x.toksA++(zxp es++[(7,[])])) by rw[h];simp[zxp,Ent.toks])
  have hk:t.kind=1:=congrArg Prod.fst ht
  have htx:t.text=ziq x.cnf:=zae (congrArg Prod.snd ht)
  have h7:¬(zt (t::r)).kind=7:=by show ¬t.kind=7;rw[hk];decide
  have hw:(zt (t::r)).kind=1∧((zt (t::r)).text=sFof∨(zt (t::r)).text=sCnf):=by
   refine⟨hk,?_⟩
   show t.text=sFof∨t.text=sCnf
   rw[htx]
   cases x.cnf
   ·exact .inl rfl
   ·exact .inr rfl
  have hdc:decide ((zt (t::r)).text=sCnf)=x.cnf:=by
   show decide (t.text=sCnf)=x.cnf
   rw[htx]
   cases x.cnf<;>decide
  have her:Ends r:=hke.tail (by rw[hk];decide)
  have hrl:r <:+ l:=(List.suffix_cons t r).trans hks
  obtain⟨r',e1,e2⟩:=zz2 hrl (hc x (by simp)) (file:=file) (fr:=(zt (t::r)).at') (n:=0+out.length) (by simp at hl;omega) hr
  obtain⟨k1,k2,k3,-⟩:=zgv hE hrl her e1
  have hstep:zap rd files opn l file 0 (f+1) (t::r) out cnt=(entR l file (decide ((zt (t::r)).text=sCnf)) (zt (t::r)).at' (0+out.length) r).bind fun x=>zap rd files opn l file 0 f x.2 (out++[x.1]) cnt:=by
   rw[zap,if_neg h7,if_pos hw];rfl
  rw[hstep,hdc,e1,Out.bind_ok,zno hE es f r' (out++[x]) (fun y hy=>hc y (by simp[hy])) (k1.trans hrl) k3 (by simp at hf;omega) e2 (by simp at hl ⊢;omega)]
  simp
theorem zu7 {l:List Ent}(hc:∀x∈l,x.check=0) (h200:l.length≤200) (h8:¬ 8000<(zb0 l).length):zcw [] ⟨(zb0 l).toArray⟩=.ok l:=by
 obtain⟨s,hs⟩:∃s:ByteArray,s=⟨(zb0 l).toArray⟩:=⟨_,rfl⟩
 have hsl:s.data.toList=zb0 l:=by rw[hs]
 have hsz:s.size=(zb0 l).length:=by rw[hs];show(zb0 l).toArray.size=_;simp
 rw[←hs]
 obtain⟨h1,h2⟩:=z07 (ztr l hc) s 0 (Nat.zero_le _) (by rw[List.drop_zero];exact hsl)
 have hcut:cutS s=((zq s 0).1,0,0):=by
  unfold cutS zfa
  rw[if_neg (by omega),if_pos h1]
 have he:=zjd (s:=s) (Nat.zero_le _) h1
 have e1:zcw [] s=(zb8 [] 1 (fun _=>false) (-1) s 0 0).bind fun x=>.ok x.1:=rfl
 rw[e1,zb8,hcut,if_neg (fun h=>h rfl)]
 simp only
 rw[zno he l _ _ [] hc (List.suffix_refl _) he (by omega) h2 (by simpa using h200)]
 rfl
theorem z1o {l:List Ent}(h:(zcd l).2=0):zcw [] (zcd l).1=.ok l:=by
 unfold zcd at h ⊢
 split at h
 ·cases h
 ·rename_i h1
  rw[if_neg h1]
  cases hb:zaq l with
  |some e=>rw[hb]at h;exact absurd h (zl2 hb)
  |none =>
   rw[hb]at h
   simp only at h ⊢
   split at h
   ·cases h
   ·rename_i h2
    rw[if_neg h2]
    exact zu7 (zic hb) (by omega) h2
def zu8 (t:Tok):Prop:=t.kind=1∨t.kind=5→named t.text=true
theorem zgo {α:Type}(p:α→Bool):∀l:List α,l.take (l.takeWhile p).length=l.takeWhile p
 |[]=>rfl
 |a::l=>by
  by_cases h:p a=true
  ·simp[h,zgo p l]
  ·simp[h]
theorem zid {α:Type}{p:α→Bool}:∀ {l:List α}{x:α},x∈l.takeWhile p→p x=true
 |a::l,x,h=>by
  by_cases hp:p a=true
  ·rw[List.takeWhile_cons,if_pos hp]at h
   rcases List.mem_cons.1 h with rfl|h
   ·exact hp
   ·exact zid h
  ·rw[List.takeWhile_cons,if_neg hp]at h;cases h
theorem zqv {p:UInt8→Bool}(hp:∀c,p c=true→zp c=true){s:ByteArray}{k:Nat}(h0:zaj p s k≠k) (h40:¬ 40<(s.extract k (zaj p s k)).size):named (s.extract k (zaj p s k))=true:=by
 have hd:(s.extract k (zaj p s k)).data.toList=(s.data.toList.drop k).takeWhile p:=by
  rw[Lib.extract_data]
  unfold zaj
  rw[Nat.add_sub_cancel_left,zgo]
 have hsz:(s.extract k (zaj p s k)).size=((s.data.toList.drop k).takeWhile p).length:=by
  have hz:∀b:ByteArray,b.data.toList.length=b.size:=fun b=>by simp
  rw[←hd,hz]
 have hpos:1≤((s.data.toList.drop k).takeWhile p).length:=by unfold zaj at h0;omega
 unfold named zfx
 rw[Bool.and_eq_true,decide_eq_true_eq,hd]
 exact⟨⟨by omega,by omega⟩,List.all_eq_true.2 fun c hc=>hp c (zid hc)⟩
theorem zz3 {s:ByteArray}{k:Nat}(h0:zbk s k≠k) (h:¬((za1 s k).kind≠6∧40<(za1 s k).text.size)):zu8 (za1 s k):=by
 intro hk
 have hkk:(za1 s k).kind=(z8 s k).1:=rfl
 have hn4:(z8 s k).1≠4:=by rw[←hkk];rcases hk with h|h<;>rw[h]<;>decide
 have htx:(za1 s k).text=s.extract k (zbk s k):=by unfold za1;rw[if_neg hn4]
 have h40:¬ 40<(za1 s k).text.size:=fun h2=>h ⟨by rcases hk with h|h<;>rw[h]<;>decide,h2⟩
 rw[hkk]at hk
 rw[htx]at h40 ⊢
 unfold zbk at h0 h40 ⊢
 unfold z8 at hk h0 h40 ⊢
 split
 ·rename_i h1
  rw[if_pos h1]at h0 h40
  exact zqv (fun c hc=>hc) h0 h40
 ·rename_i h1
  rw[if_neg h1]at hk h0 h40
  split
  ·rename_i h2
   rw[if_pos h2]at hk;simp at hk
  ·rename_i h2
   rw[if_neg h2]at hk h0 h40
   split
   ·rename_i h3
    rw[if_pos h3]at h0 h40
    exact zqv (fun c hc=>by unfold zcl at hc;unfold zp;rw[decide_eq_true_eq]at hc ⊢;omega) h0 h40
   ·rename_i h3
    rw[if_neg h3]at hk
    split at hk
    ·simp at hk
    ·split at hk<;>simp at hk
theorem zg0 {s:ByteArray}:∀(f k:Nat),∀t∈(zgc s f k).1,zu8 t
 |0,_,t,h=>by cases h
 |f+1,k,t,h=>by
  unfold zgc at h
  cases hc:zac s k with
  |done =>
   rw[hc]at h
   simp only[List.mem_singleton]at h
   subst h
   intro hk
   unfold ze8 at hk;simp at hk
  |skip k'=>rw[hc]at h;exact zg0 f k' t h
  |bad e=>rw[hc]at h;cases h
  |tok t' k' =>
   rw[hc]at h
   simp only at h
   rcases List.mem_cons.1 h with rfl|h
   ·unfold zac at hc
    split at hc
    ·cases hc
    ·split at hc
     ·cases hc
     ·split at hc
      ·cases hc
      ·split at hc
       ·cases hc
       ·split at hc
        ·cases hc
        ·rename_i h1 h2
         injection hc with hc _
         subst hc
         exact zz3 h1 h2
   ·exact zg0 f k' t h
theorem zxr (s:ByteArray):∀t∈(cutS s).1,zu8 t:=by
 unfold cutS
 split
 ·intro t h;cases h
 ·unfold zfa
  split
  ·exact zg0 _ _
  ·intro t h;cases h
theorem zxs {ks r:List Tok}{x:ByteArray}(hg:∀t∈ks,zu8 t) (h:zes ks=.ok x r):named x=true:=by
 cases ks with
 |nil=>cases h
 |cons t ks =>
  rw[zc2]at h
  split at h
  ·rename_i hc
   injection h with h _
   subst h
   rw[Bool.or_eq_true,decide_eq_true_eq]at hc
   rcases hc with hc|hc
   ·unfold Tok.named at hc
    rw[Bool.or_eq_true,Bool.and_eq_true,decide_eq_true_eq,decide_eq_true_eq]at hc
    rcases hc with hc|hc
    ·exact hg t (by simp) (.inl hc)
    ·exact hc.2
   ·exact hg t (by simp) (.inr hc)
  ·cases h
theorem zso {l:List Tok}{k:Int}(h:(zbo l k).2.2=0):(zbo l k).1.check=0:=by
 unfold zbo at h ⊢
 split at h
 ·cases h
 ·rename_i h1
  rw[if_neg h1]
  split at h
  ·cases h
  ·split at h
   ·rename_i h2;exact absurd h h2
   ·rename_i f r _ h2
    rw[if_neg h2]
    exact Decidable.not_not.1 h2
theorem zu9 {l:List Tok}{file:Int}{cnf:Bool}{fr:Int}{n:Nat}{ks r:List Tok}{x:Ent}(hg:∀t∈l,zu8 t) (hk:ks <:+ l) (h:entR l file cnf fr n ks=.ok (x,r)):x.check=0:=by
 unfold entR at h
 cases hh:zat ks with
 |bad q=>rw[hh]at h;cases h
 |ok y q =>
  obtain⟨nm,role,rat⟩:=y
  have hnm:named nm=true:=by
   obtain⟨_,r1,h1,h2⟩:=bind_ok hh
   obtain⟨nm',r2,h3,h4⟩:=bind_ok h2
   obtain⟨_,r3,h5,h6⟩:=bind_ok h4
   obtain⟨role',r4,h7,h8⟩:=bind_ok h6
   obtain⟨_,h9,h10⟩:=map_ok h8
   injection h10 with h10 _
   subst h10
   exact zxs (fun t ht=>hg t (((zeh (z7 _ _) h1).trans hk).subset ht)) h3
  rw[hh,Rd.out_ok]at h
  split at h
  ·cases h
  ·rename_i hro
   split at h
   ·cases h
   ·rename_i h0
    cases hen:zcz (l.drop (zbo l (l.length-q.length:Nat)).2.1.toNat) with
    |bad z=>rw[hen]at h;cases h
    |ok u z =>
     rw[hen,Rd.out_ok]at h
     split at h
     ·cases h
     ·rename_i hsh
      split at h
      ·cases h
      ·injection h with h
       injection h with h _
       subst h
       unfold Ent.check
       rw[if_neg (by simp[hnm]),if_neg hro,if_neg (fun h1=>h1 (zso (Decidable.not_not.1 h0)))]
       exact Decidable.not_not.1 hsh
def Good (l:List Ent):Prop:=∀x∈l,x.check=0
theorem Good.append {a b:List Ent}(h:Good a) (k:Good b):Good (a++b):=fun x hx=>(List.mem_append.1 hx).elim (h x) (k x)
theorem zxt {rd:Nat→Nat→Nat→Out (List Ent×Nat)}{files:List (ByteArray×ByteArray)}{opn:Nat→Bool}{l:List Tok}{file:Int}{n cnt:Nat}(hrd:∀(i n c:Nat) (x:List Ent×Nat),rd i n c=.ok x→Good x.1){l':List Ent}{c':Nat}{r r':List Tok}(hy:incR rd files opn l file n cnt r=.ok ((l',c'),r')):Good l':=by
 unfold incR at hy
 cases hh:zau r with
 |bad k=>rw[hh]at hy;cases hy
 |ok z k =>
  rw[hh,Rd.out_ok]at hy
  split at hy
  ·cases hy
  ·split at hy
   ·cases hy
   ·split at hy
    ·cases hy
    ·obtain⟨q,hq,hy⟩:=Out.bind_eq_ok hy
     obtain⟨m,hm,hy⟩:=Out.bind_eq_ok hy
     injection hy with hy
     injection hy with hy _
     injection hy with hy _
     subst hy
     exact fun x hx=>hrd _ _ _ _ hq x (znn hm x hx)
theorem zg1 {rd:Nat→Nat→Nat→Out (List Ent×Nat)}{files:List (ByteArray×ByteArray)}{opn:Nat→Bool}{l:List Tok}{file:Int}{ahead:Nat}(hE:Ends l) (hg:∀t∈l,zu8 t) (hrd:∀(i n c:Nat) (x:List Ent×Nat),rd i n c=.ok x→Good x.1) :
  ∀(f:Nat) (ks:List Tok) (out:List Ent) (cnt:Nat) (x:List Ent×Nat),ks <:+ l→Ends ks→Good out→zap rd files opn l file ahead f ks out cnt=.ok x→Good x.1
 |0,_,_,_,_,_,_,_,h=>by cases h
 |f+1,ks,out,cnt,x,hks,hke,ho,h=>by
  unfold zap at h
  split at h
  ·injection h with h;subst h;exact ho
  ·rename_i h7
   obtain⟨t,r,rfl,her⟩:∃t r,ks=t::r∧Ends r:=by
    cases ks with
    |nil=>exact absurd rfl h7
    |cons t r=>exact⟨t,r,rfl,hke.tail h7⟩
   have hr:r <:+ l:=(List.suffix_cons t r).trans hks
   split at h
   ·obtain⟨y,hy,h⟩:=Out.bind_eq_ok h
    obtain⟨e,r'⟩:=y
    obtain⟨h1,h2,h3,h4⟩:=zgv hE hr her hy
    refine zg1 hE hg hrd f r' (out++[e]) cnt x (h1.trans hr) h3 (ho.append fun z hz=>?_) h
    rw[List.mem_singleton]at hz
    subst hz
    exact zu9 hg hr hy
   ·split at h
    ·obtain⟨y,hy,h⟩:=Out.bind_eq_ok h
     obtain⟨⟨l',c'⟩,r'⟩:=y
     obtain⟨h1,h2,h3⟩:=zn8 her hy
     exact zg1 hE hg hrd f r' (out++l') c' x (h1.trans hr) h3 (ho.append (zxt hrd hy)) h
    ·cases h
theorem znp {files:List (ByteArray×ByteArray)}:∀(d:Nat) (opn:Nat→Bool) (file:Int) (s:ByteArray) (ahead cnt:Nat) (x:List Ent×Nat),zb8 files d opn file s ahead cnt=.ok x→Good x.1
 |0,_,_,_,_,_,_,h=>by cases h
 |d+1,opn,file,s,ahead,cnt,x,h=>by
  have hg:=zxr s
  unfold zb8 at h
  split at h
  ·cases h
  ·rename_i h0
   have hE:=zfe (s:=s) (Decidable.not_not.1 h0)
   exact zg1 hE hg (fun i n c x hx=>znp d _ _ _ n c x hx) _ _ [] cnt x (List.suffix_refl _) hE (fun _ h=>by cases h) h
theorem z19 {files:List (ByteArray×ByteArray)}{s:ByteArray}{m:List Ent}(h:zcw files s=.ok m):(zcd m).2=3∨(zcd m).2=0:=by
 obtain⟨x,hx,h1⟩:=Out.bind_eq_ok (show(zb8 files (files.length+1) (fun _=>false) (-1) s 0 0).bind (fun x=>Out.ok x.1)=.ok m from h)
 injection h1 with h1
 subst h1
 have hgd:=znp _ _ _ _ _ _ _ hx
 have h200:=(zgz h).2
 rw[zlb (by omega) (zl3 hgd)]
 split
 ·exact .inl rfl
 ·exact .inr rfl
theorem ziz {l:List Ent}(hl:l.length≤1048576) (hs:∀x∈l,x.form.size≤4194304){P Q:Nat→Prop}{w:World}{a b:Option Addr}{c d:Nat}(ha:IsEnts P w a l) (hb:IsEnts Q w b l) :
  Calls Tryz.prog 30 #[.slice a l.length c,.slice b l.length d] w fun e w'=>e=.returned (.bool true)∧Ext w w':=by
 have HA:=Lib.hid ha
 have HB:=Lib.hid hb
 clear ha hb
 go_enter Tryz.func30,Tryz.ntmps30
 go_wp2_with fail
 go_loopw [5] (fun i wr=>∃k:Nat,k≤l.length∧i=.int .i64 k∧Ext w wr) (fun i _=>l.length-(intOf i).toNat)
 case atStart=>exact⟨0,Nat.zero_le _,rfl,Below.refl _ _⟩
 case round =>
  obtain⟨k,hkk,rfl,hxr⟩:=hrel
  by_cases hlt:k<l.length
  ·obtain⟨b1,o1,x0,x1,x2,x3,rfl,-,⟨m0,m1,m2⟩,⟨m3,m4,m5,m6⟩,hi⟩:=(HA.out.ext hxr).look hlt
   obtain⟨b2,o2,y0,y1,y2,y3,rfl,-,⟨n0,n1,n2⟩,⟨n3,n4,n5,n6⟩,hi'⟩:=(HB.out.ext hxr).look hlt
   have hlt':(k:Int)<l.length:=by omega
   have HS:=Lib.hid (fun w' (hx:Ext wr w')=>zrt l[k].form l[k].form _ _ w' _ _ _ _ _ _ _ _ (hi.2.2.ext hx) (hi'.2.2.ext hx) (hs _ (List.getElem_mem hlt)))
   rw[Fm.same_refl]at HS
   obtain⟨p1,c1,p2,c2,p3,c3,rfl,rfl,rfl,rfl,-⟩:=hi.2.2.form
   obtain⟨p1',c1',p2',c2',p3',c3',rfl,rfl,rfl,rfl,-⟩:=hi'.2.2.form
   clear hi hi'
   generalize l[k]=x at *
   go_wp2_with fail
   go_still_tail 48,(by kernel_rfl)
   change wpList _ _ _ _ _ wr.drew
   go_wp2_with (go_at_call 14;refine(HS.out _ (Ext.drew (Below.refl _ _))).mono ?_;rintro e w4 ⟨rfl,hx4⟩)
   go_roundw
   case rel=>exact⟨k+1,by omega,by go_num,hxr.trans ((Ext.drew (Below.refl _ wr)).trans hx4)⟩
   case measure=>simp[intOf];omega
  ·have hlt':¬(k:Int)<l.length:=by omega
   go_wp2_with fail
   go_ret
   exact⟨rfl,hxr⟩
def Out.to {α:Type}(g:Int):Out α→Out α
 |.ok x=>.ok x
 |.flt t=>.flt ⟨g,t.at',t.e⟩
theorem zxu (l:List Tok) (file g:Int) (cnf:Bool) (fr:Int) (n:Nat) (ks:List Tok):entR l g cnf fr n ks=(entR l file cnf fr n ks).to g:=by
 unfold entR
 cases zat ks with
 |bad r=>rfl
 |ok h r =>
  simp only[Rd.out_ok]
  split
  ·rfl
  ·split
   ·rfl
   ·generalize zcz _=z
    cases z with
    |bad r=>rfl
    |ok u r =>
     simp only[Rd.out_ok]
     split
     ·rfl
     ·split<;>rfl
theorem zxv {l:List Tok}{file:Int}{cnf:Bool}{fr:Int}{n:Nat}{ks:List Tok}{t:Flt}(h:entR l file cnf fr n ks=.flt t):t.file=file:=by
 have h1:=zxu l file file cnf fr n ks
 rw[h]at h1
 injection h1 with h1
 rw[h1]
theorem z1p {l:List Tok}{file:Int}{cnf:Bool}{fr:Int}{n:Nat}{ks:List Tok}{t:Flt}(h:entR l file cnf fr n ks=.flt t):t.e≠0:=by
 unfold entR at h
 cases hh:zat ks with
 |bad r=>rw[hh]at h;injection h with h;subst h;exact(by decide:(240:Int)≠0)
 |ok y r =>
  rw[hh,Rd.out_ok]at h
  split at h
  ·injection h with h;subst h;exact(by decide:(241:Int)≠0)
  ·split at h
   ·rename_i h0;injection h with h;subst h;exact h0
   ·generalize zcz _=z at h
    cases z with
    |bad r=>injection h with h;subst h;exact(by decide:(240:Int)≠0)
    |ok u r =>
     rw[Rd.out_ok]at h
     split at h
     ·rename_i h0;injection h with h;subst h;exact h0
     ·split at h
      ·injection h with h;subst h;exact(by decide:(3:Int)≠0)
      ·cases h
section
variable {l:List Tok}{rd rd':Nat→Nat→Nat→Out (List Ent×Nat)}{opn opn':Nat→Bool}{files':List (ByteArray×ByteArray)}
theorem zxw (file:Int) (n:Nat) (ks:List Tok):∃t,incR rd [] opn l file n 0 ks=.flt t∧(t.e=244∨(t.file=file∧t.e≠0)∧∀g n' c',incR rd' files' opn' l g n' c' ks=.flt ⟨g,t.at',t.e⟩):=by
 cases h:zau ks with
 |bad r=>exact⟨_,zcs h,.inr ⟨⟨rfl,(by decide:(240:Int)≠0)⟩,fun g n' c'=>zcs h⟩⟩
 |ok x r =>
  obtain⟨fn,qat,ns⟩:=x
  exact⟨_,zqp h (by omega) rfl,.inl rfl⟩
theorem zgp (hE:Ends l):∀(f:Nat) (ks:List Tok) (out:List Ent),ks <:+ l→Ends ks→ks.length<f →
  (∃o,zap rd [] opn l (-1) 0 f ks out 0=.ok (o,0)∧zap rd' files' opn' l 0 0 f ks out 1=.ok (o,1)) ∨
  (∃t,zap rd [] opn l (-1) 0 f ks out 0=.flt t∧(t.e=244∨(t.file=-1∧t.e≠0)∧zap rd' files' opn' l 0 0 f ks out 1=.flt ⟨0,t.at',t.e⟩))
 |0,_,_,_,_,hf=>absurd hf (Nat.not_lt_zero _)
 |f+1,ks,out,hks,hke,hf=>by
  by_cases h7:(zt ks).kind=7
  ·exact .inl ⟨out,by unfold zap;rw[if_pos h7],by unfold zap;rw[if_pos h7]⟩
  ·obtain⟨t,r,rfl,her⟩:∃t r,ks=t::r∧Ends r:=by
    cases ks with
    |nil=>exact absurd rfl h7
    |cons t r=>exact⟨t,r,rfl,hke.tail h7⟩
   have hr:r <:+ l:=(List.suffix_cons t r).trans hks
   have hlen:r.length<f:=by simp at hf;omega
   by_cases h1:(zt (t::r)).kind=1∧((zt (t::r)).text=sFof∨(zt (t::r)).text=sCnf)
   ·have e1:∀rd files opn file cnt,zap rd files opn l file 0 (f+1) (t::r) out cnt=(entR l file (decide ((zt (t::r)).text=sCnf)) (zt (t::r)).at' (0+out.length) r).bind fun x=>zap rd files opn l file 0 f x.2 (out++[x.1]) cnt:=fun rd files opn file cnt=>by
     rw[zap,if_neg h7,if_pos h1];rfl
    rw[e1,e1,zxu l (-1) 0]
    cases hx:entR l (-1) (decide ((zt (t::r)).text=sCnf)) (zt (t::r)).at' (0+out.length) r with
    |flt q=>exact .inr ⟨q,rfl,.inr ⟨⟨zxv hx,z1p hx⟩,rfl⟩⟩
    |ok x =>
     obtain⟨x,r'⟩:=x
     obtain⟨k1,k2,k3,-⟩:=zgv hE hr her hx
     exact zgp hE f r' (out++[x]) (k1.trans hr) k3 (by omega)
   ·by_cases h2:(zt (t::r)).kind=1∧(zt (t::r)).text=zn4
    ·have e1:∀rd files opn file cnt,zap rd files opn l file 0 (f+1) (t::r) out cnt=(incR rd files opn l file (0+out.length) cnt r).bind fun x=>zap rd files opn l file 0 f x.2 (out++x.1.1) x.1.2:=fun rd files opn file cnt=>by
      rw[zap,if_neg h7,if_neg h1,if_pos h2];rfl
     rw[e1,e1]
     obtain⟨q,h3,h4⟩:=zxw (l:=l) (rd:=rd) (rd':=rd') (opn:=opn) (opn':=opn') (files':=files') (-1) (0+out.length) r
     rw[h3]
     refine .inr ⟨q,rfl,h4.imp_right fun h4=>⟨h4.1,?_⟩⟩
     rw[h4.2];rfl
    ·have e1:∀rd files opn file cnt,zap rd files opn l file 0 (f+1) (t::r) out cnt=.flt (ze0 l file (t::r)):=fun rd files opn file cnt=>by
      rw[zap,if_neg h7,if_neg h1,if_neg h2]
     rw[e1,e1]
     exact .inr ⟨_,rfl,.inr ⟨⟨rfl,(by decide:(240:Int)≠0)⟩,rfl⟩⟩
end
def zct:ByteArray:=⟨#[116,104,101,114,101]⟩
def incT:ByteArray:=⟨#[105,110,99,108,117,100,101,40,39,116,104,101,114,101,39,41,46]⟩
def zox:List Tok:=[⟨1,zn4,0⟩,⟨6,zbp,7⟩,⟨4,zct,8⟩,⟨6,zcx,15⟩,⟨6,sDot,16⟩,⟨7,⟨#[]⟩,17⟩]
theorem zz4:cutS incT=(zox,0,0):=by kernel_rfl
theorem zxx:zau zox.tail=.ok (zct,8,none) [⟨7,⟨#[]⟩,17⟩]:=by kernel_rfl
theorem zva (s:ByteArray):zcw [(zct,s)] incT=(zb8 [(zct,s)] 1 (fun k=>decide (k=0) || false) 0 s 0 1).bind fun x=>.ok x.1:=by
 have hf:zn5 [(zct,s)] zct=some 0:=by simp[zn5]
 have e1:zb8 [(zct,s)] 2 (fun _=>false) (-1) incT 0 0=zap (fun i n c=>zb8 [(zct,s)] 1 (fun k=>decide (k=i) || false) i (ze1 [(zct,s)] i) n c) [(zct,s)] (fun _=>false) zox (-1) 0 7 zox [] 0:=by
  rw[zb8,zz4,if_neg (fun h=>h rfl)];rfl
 have e2:zcw [(zct,s)] incT=(zb8 [(zct,s)] 2 (fun _=>false) (-1) incT 0 0).bind fun x=>.ok x.1:=rfl
 rw[e2,e1,zap,if_neg (by decide),if_neg (by decide),if_pos (by decide),zqq (i:=0) zxx (by omega) hf rfl]
 show Out.bind (Out.bind (Out.bind (zb8 [(zct,s)] 1 (fun k=>decide (k=0) || false) 0 s 0 1) _) _) _=_
 cases zb8 [(zct,s)] 1 (fun k=>decide (k=0) || false) 0 s 0 1 with
 |flt t=>rfl
 |ok x=>rfl
theorem zz5 (s:ByteArray):(∃l,zcw [] s=.ok l∧zcw [(zct,s)] incT=.ok l)∨(∃t,zcw [] s=.flt t∧(t.e=244∨(t.file=-1∧t.e≠0)∧zcw [(zct,s)] incT=.flt ⟨0,t.at',t.e⟩)):=by
 rw[zva]
 have e1:zcw [] s=(zb8 [] 1 (fun _=>false) (-1) s 0 0).bind fun x=>.ok x.1:=rfl
 rw[e1,zb8,zb8]
 by_cases h0:(cutS s).2.2=0
 ·rw[if_neg (fun h=>h h0),if_neg (fun h=>h h0)]
  have hE:=zfe (s:=s) h0
  rcases zgp (l:=(cutS s).1) (rd:=fun i n c=>zb8 [] 0 (fun k=>decide (k=i) || (fun _=>false) k) i (ze1 [] i) n c) (opn:=fun _=>false) (files':=[(zct,s)]) (opn':=fun k=>decide (k=0) || false) (rd':=fun i n c=>zb8 [(zct,s)] 0 (fun k=>decide (k=i) || (fun k=>decide (k=0) || false) k) i (ze1 [(zct,s)] i) n c) hE ((cutS s).1.length+1) (cutS s).1 [] (List.suffix_refl _) hE (by omega)with ⟨o,h1,h2⟩|⟨t,h1,h2⟩
  ·rw[h1,h2]
   exact .inl ⟨o,rfl,rfl⟩
  ·rw[h1]
   refine .inr ⟨t,rfl,h2.imp_right fun h2=>⟨h2.1,?_⟩⟩
   rw[h2.2];rfl
 ·rw[if_pos h0,if_pos h0]
  exact .inr ⟨_,rfl,.inr ⟨⟨rfl,h0⟩,rfl⟩⟩
end Go.Proofs.YtnclgkdpafhogaaGreat
