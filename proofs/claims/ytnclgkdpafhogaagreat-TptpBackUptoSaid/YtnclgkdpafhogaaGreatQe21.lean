/- What strings.Builder's WriteString does with a builder of the call's own, and term.joined. (After the shelf's proofs, whose closure this translation cuts shorter.)
strings.Builder's methods on a builder that is the one field of a struct (or a variable of its own): WriteString, WriteByte, String. Condition: the bytes are fewer than 2^47. (After the shelf's proofs.) -/
import Derived.Test.YtnclgkdpafhogaaGreatQe0
import Derived.Test.YtnclgkdpafhogaaGreatQe12
import Derived.Lib.OthersKept
import Derived.Shelf.Strings.BuilderK
set_option maxHeartbeats 16000000
set_option maxRecDepth 100000
namespace Go.Proofs.YtnclgkdpafhogaaGreat
open Go.ChangeShapes Go.WideShapes Go.ChangeAt Go.RowKit
def Bld (b:Nat) (l:List UInt8) (w:World):Prop:=Lib.IsBuilderF 82 5 b b (Lib.byteCells l) w
structure BFr (b:Nat) (w w':World):Prop where
 below:Below b w w'
 kept:Lib.OthersKept 5 (some b) w w'
theorem BFr.refl (b:Nat) (w:World):BFr b w w:=⟨Below.refl _ _,Lib.OthersKept.refl _ _ _⟩
theorem BFr.trans {b:Nat}{w w' w'':World}(h:BFr b w w') (k:BFr b w' w''):BFr b w w'':=⟨h.below.trans k.below,h.kept.trans k.kept⟩
theorem sizeBuilder:((Tryz.prog).info? 82).map (·.size)=some 2:=by kernel_rfl
theorem zmk (b:Nat) (w:World) (h0:w.cell? ⟨b,0,none⟩=some (.pointer (some ⟨b,0,none⟩))) :
  Calls Tryz.prog 128 #[.pointer (some ⟨b,0,none⟩)] w fun e w'=>e=.returned (.tuple #[])∧w'=w:=by
 obtain⟨j,hj,_⟩:=Option.map_eq_some_iff.1 sizeBuilder
 go_enter Tryz.func128,Tryz.ntmps128
 go_wp2
 rw[Lib.run_neq_ptr_same w _ Tryz.underlying79 hj]
 go_wp2
 go_end0
 exact⟨rfl,rfl⟩
theorem infoByte:((Tryz.prog).info? 5).map (fun i=>(i.zero,i.size,i.bytes))=some (some (.int .u8 0),1,1):=by kernel_rfl
theorem zjy (l:List UInt8) (s:ByteArray):Lib.byteCells l++Lib.strCells s=Lib.byteCells (l++s.data.toList):=by
 simp[Lib.byteCells,Lib.strCells]
theorem zbg {w:World}{g:Nat}{o:Obj}(h:w.heap[g]?=some o):g<w.heap.size:=by
 rcases Nat.lt_or_ge g w.heap.size with h'|h'
 ·exact h'
 ·simp[Array.getElem?_eq_none h']at h
theorem BFr.obj {b:Nat}{w w':World}(h:BFr b w w'){k:Nat}{c:Array Value}{t:TypeId}{fz:Nat×Nat}(hk:w.heap[k]?=some (.cells c t fz)) (hb:k≠b) (ht:t≠5):w'.heap[k]?=some (.cells c t fz) :=
 h.kept k _ hk (fun e=>hb (Option.some.inj e)) (fun c' fz' e=>by cases e;exact ht rfl)
theorem zal (w:World) (o:Obj):(w.alloc o).heap[w.heap.size]?=some o:=by
 show(w.heap.push o)[w.heap.size]?=some o
 simp
theorem zej {w:World}{k:Nat}{x:Obj}(h:w.heap[k]?=some x) (o:Obj):(w.alloc o).heap[k]?=some x:=by
 have hk:=zbg h
 show(w.heap.push o)[k]?=some x
 rw[Array.getElem?_push,if_neg (by omega)];exact h
theorem Ext.obj {w w':World}(hx:Ext w w'){k:Nat}{x:Obj}(h:w.heap[k]?=some x):w'.heap[k]?=some x:=(hx.block k (zbg h)).trans h
theorem Bld.ext {b:Nat}{l:List UInt8}{w w':World}(h:Bld b l w) (hx:Ext w w'):Bld b l w':=by
 have row:∀ {v:Value},w.ownsRowF b 5 1 v (Lib.byteCells l).length (Lib.byteCells l)→w'.ownsRowF b 5 1 v (Lib.byteCells l).length (Lib.byteCells l):=by
  intro v h
  obtain⟨h1,h2⟩:=h
  refine⟨h1,?_⟩
  rcases h2 with h2|⟨g,cap,cur,fz,h3,h4,h5,h6⟩
  ·exact .inl h2
  ·exact .inr ⟨g,cap,cur,fz,h3,h4,hx.obj h5,h6⟩
 rcases h with ⟨h1,v,h2,h3,h4⟩|⟨h1,v,h2,h3,h4⟩
 ·exact .inl ⟨h1,v,hx.obj h2,row h3,h4⟩
 ·exact .inr ⟨h1,v,hx.obj h2,row h3,h4⟩
structure WB (T:TypeId):Prop where
 ne:T≠5
 lies:liesAt Tryz.prog (Tryz.prog).depth T (2 / (Tryz.prog).cellsOf T) 0 82 1=true
theorem zm8:WB 82:=⟨by decide,by kernel_rfl⟩
theorem zah:WB 84:=⟨by decide,by kernel_rfl⟩
def BldT (T:TypeId) (b:Nat) (l:List UInt8) (w:World):Prop:=Lib.IsBuilderF T 5 b b (Lib.byteCells l) w
theorem zjz {T:TypeId}(hT:WB T) (b:Nat) (w:World) (h0:w.cell? ⟨b,0,none⟩=some (.pointer none)) (hsh:w.shape? b=some (T,2)) (hfz:w.frozen? ⟨b,0,none⟩=false) :
  Calls Tryz.prog 128 #[.pointer (some ⟨b,0,none⟩)] w fun e w'=>e=.returned (.tuple #[])∧w'=w.setCell ⟨b,0,none⟩ (.pointer (some ⟨b,0,none⟩)):=by
 obtain⟨j,hj,hjs⟩:=Option.map_eq_some_iff.1 sizeBuilder
 have hl:=hT.lies
 go_enter Tryz.func128,Tryz.ntmps128
 go_wp2
 rw[Lib.run_to_unsafe w ⟨b,0,none⟩ Tryz.underlying79 Tryz.underlying190 hj (by rw[hjs];decide) hsh (Nat.zero_lt_succ 1)]
 simp only[Result.andThen]
 rw[Oper.upon_value]
 go_wp2
 rw[run_callFunc_extern Tryz.func165 (by kernel_rfl) (by kernel_rfl) (by kernel_rfl) (e:=Extern.AbiNoEscape.same) (by kernel_rfl)]
 rw[Lib.run_noEscape]
 simp only[Result.andThen]
 rw[Oper.upon_value]
 go_wp2
 rw[Lib.run_from_unsafe w ⟨b,0,none⟩ Tryz.underlying190 Tryz.underlying79 hj hsh hl]
 simp only[Result.andThen]
 rw[Oper.upon_value]
 go_wp2
 go_end0
 exact⟨rfl,rfl⟩
theorem zgi {T:TypeId}(hT:WB T) (b:Nat) (bs:List Value) (w:World) (h:Lib.IsBuilderF T 5 b b bs w) :
  Calls Tryz.prog 128 #[.pointer (some ⟨b,0,none⟩)] w fun e w'=>e=.returned (.tuple #[])∧(Lib.BuilderAtF T 5 b b (.pointer (some ⟨b,0,none⟩)) bs w'∧BFr b w w'):=by
 rcases h with h|h
 ·refine(zjz hT b w h.cell0 h.shape h.frozen0).mono ?_
  rintro e w' ⟨rfl,rfl⟩
  exact⟨rfl,h.used _,(Below.refl b w).setCell (p:=⟨b,0,none⟩) h.1 _,(Lib.OthersKept.refl _ _ w).setCell ⟨b,0,none⟩ rfl _⟩
 ·refine(zmk b w h.cell0).mono ?_
  rintro e w' ⟨rfl,rfl⟩
  exact⟨rfl,h,BFr.refl _ _⟩
theorem zhn {T:TypeId}(hT:WB T) (b:Nat) (bs:List Value) (s:ByteArray) (w:World) (h:Lib.IsBuilderF T 5 b b bs w) (hlen:bs.length+s.size≤140737488355328) (hBw:b≤w.heap.size) :
  Calls Tryz.prog 76 #[.pointer (some ⟨b,0,none⟩),.string s] w fun e w'=>e=.returned (.tuple #[.int .i64 s.size,.nilIface])∧(Lib.BuilderAtF T 5 b b (.pointer (some ⟨b,0,none⟩)) (bs++Lib.strCells s) w'∧BFr b w w'):=by
 obtain⟨i0,hi,hz0,hz1,hz2⟩:=info_parts infoByte
 go_enter Tryz.func76,Tryz.ntmps76
 go_wp2_with (go_at_call 128;refine(zgi hT b bs _ h).mono ?_)
 rintro e w1 ⟨rfl,h1,hb1,hk1⟩
 obtain⟨hB,v,hbk,hown,hne⟩:=h1
 have c0:w1.cell? ⟨b,0,none⟩=some (.pointer (some ⟨b,0,none⟩)):=by rw[Lib.cell_of_heap hbk];rfl
 have c1:w1.cell? ⟨b,1,none⟩=some v:=by rw[Lib.cell_of_heap hbk];rfl
 go_wp2_with (at_builtin;refine Lib.wpList_append_own_stringF _ rfl _ _ 80 9 rfl b 5 i0 Tryz.underlying80 Tryz.underlying9 hi hz0 hz1 hz2 _ _ _ rfl hown s rfl ?c3 ?c4 ?c5 ?_)
 case c3=>unfold maxLen;omega
 case c4=>omega
 case c5=>have:=hb1.size;omega
 intro v' w2 hown' hgrow _
 have hlt:b<w1.heap.size:=zbg hbk
 have hb2:w2.heap[b]?=some (.cells #[.pointer (some ⟨b,0,none⟩),v] T (0,0)):=by
  rw[hgrow.block b hlt (fun e=>hne e.symm)]
  exact hbk
 have d0:w2.cell? ⟨b,0,none⟩=some (.pointer (some ⟨b,0,none⟩)):=by rw[Lib.cell_of_heap hb2];rfl
 have d1:w2.cell? ⟨b,1,none⟩=some v:=by rw[Lib.cell_of_heap hb2];rfl
 have f1:w2.frozen? ⟨b,1,none⟩=false:=Lib.frozen_of_heap hb2 1
 obtain⟨ao,n',cap,rfl⟩:∃ao n' cap,v'=.slice ao n' cap:=by
  rcases hown'.2 with ⟨hv,_⟩|⟨g,cap,cur,fz,hv,_⟩
  ·exact⟨_,_,_,hv⟩
  ·exact⟨_,_,_,hv⟩
 go_wp2
 go_ret2
 refine⟨rfl,?_,?_,(hk1.grown hgrow (Lib.ownsRowF_kind hown)).setCell ⟨b,1,none⟩ rfl _⟩
 ·exact Lib.BuilderAtF.put (T:=T) (e:=5) hB hb2 (bs':=bs++Lib.strCells s) (by simpa[Lib.strCells_length]using hown') hT.ne
 ·exact(hb1.grown hgrow (by have:=hb1.size;omega) (fun k hk=>(hown.lt k hk).1)).setCell (p:=⟨b,1,none⟩) hB _
theorem zn {T:TypeId}(hT:WB T) (b:Nat) (l:List UInt8) (s:ByteArray) (w:World) (h:BldT T b l w) (hlen:l.length+s.size≤140737488355328) (hBw:b≤w.heap.size) :
  Calls Tryz.prog 76 #[.pointer (some ⟨b,0,none⟩),.string s] w fun e w'=>e=.returned (.tuple #[.int .i64 s.size,.nilIface])∧BldT T b (l++s.data.toList) w'∧BFr b w w':=by
 refine(zhn hT b (Lib.byteCells l) s w h (by rw[Lib.byteCells_length];exact hlen) hBw).mono ?_
 rintro e w' ⟨rfl,h1,h2⟩
 rw[zjy]at h1
 exact⟨rfl,.inr h1,h2⟩
theorem zda {T:TypeId}(hT:WB T) (b:Nat) (l:List UInt8) (c:UInt8) (w:World) (h:BldT T b l w) (hlen:l.length+1≤140737488355328) (hBw:b≤w.heap.size) :
  Calls Tryz.prog 140 #[.pointer (some ⟨b,0,none⟩),.int .u8 c.toNat] w fun e w'=>e=.returned .nilIface∧BldT T b (l++[c]) w'∧BFr b w w':=by
 obtain⟨i0,hi,hz0,hz1,hz2⟩:=info_parts infoByte
 have hbl:(Lib.byteCells l).length=l.length:=Lib.byteCells_length l
 have HE:=Lib.hid (show Lib.byteCells (l++[c])=Lib.byteCells l++[.int .u8 (c.toNat:Int)] by simp[Lib.byteCells])
 unfold BldT at h ⊢
 generalize Lib.byteCells (l++[c])=bs' at HE ⊢
 generalize Lib.byteCells l=bs at h HE hbl
 generalize (c.toNat:Int)=ci at HE ⊢
 obtain rfl:=HE.out
 clear HE
 rw[←hbl]at hlen
 clear hbl
 go_enter Tryz.func140,Tryz.ntmps140
 go_wp2_with (go_at_call 128;refine(zgi hT b bs _ h).mono ?_)
 rintro e w1 ⟨rfl,h1,hb1,hk1⟩
 obtain⟨hB,v,hbk,hown,hne⟩:=h1
 have c0:w1.cell? ⟨b,0,none⟩=some (.pointer (some ⟨b,0,none⟩)):=by rw[Lib.cell_of_heap hbk];rfl
 have c1:w1.cell? ⟨b,1,none⟩=some v:=by rw[Lib.cell_of_heap hbk];rfl
 go_wp2_with (at_builtin;refine wpList_append_ownF _ rfl _ _ 80 rfl b 5 i0 (.int .u8 0) 1 1 Tryz.underlying80 hi hz0 hz1 hz2 rfl (by decide) _ _ _ rfl (hown.alloc _) ⟨w1.heap.size,0,none⟩ 1 1 [.int .u8 ci] rfl rfl ?c1 ?c2 ?c3 ?c4 ?c5 ?_)
 case c1 =>
  intro j u hj
  match j,hj with
  |0,hj=>simp at hj;subst hj;simp[Addr.add]
 case c2=>intro u hu;simp at hu;subst hu;rfl
 case c3=>unfold maxLen;omega
 case c4=>omega
 case c5=>have:=hb1.size;simp;omega
 intro v' w2 hown' hgrow _
 have hlt:b<w1.heap.size:=zbg hbk
 have hb2:w2.heap[b]?=some (.cells #[.pointer (some ⟨b,0,none⟩),v] T (0,0)):=by
  rw[hgrow.block b (by simp;omega) (fun e=>hne e.symm),Lib.alloc_old w1 _ b hlt]
  exact hbk
 have d0:w2.cell? ⟨b,0,none⟩=some (.pointer (some ⟨b,0,none⟩)):=by rw[Lib.cell_of_heap hb2];rfl
 have d1:w2.cell? ⟨b,1,none⟩=some v:=by rw[Lib.cell_of_heap hb2];rfl
 have f1:w2.frozen? ⟨b,1,none⟩=false:=Lib.frozen_of_heap hb2 1
 obtain⟨g,cap,rfl⟩:∃g cap,v'=.slice (some ⟨g,0,none⟩) (bs.length+1) cap:=by
  rcases hown'.2 with ⟨_,h0⟩|⟨g,cap,cur,fz,hv,_⟩
  ·omega
  ·exact⟨g,cap,hv⟩
 go_wp2
 go_ret
 refine⟨rfl,.inr ?_,?_,((hk1.alloc _).grown hgrow (Lib.ownsRowF_kind (hown.alloc _))).setCell ⟨b,1,none⟩ rfl _⟩
 ·exact Lib.BuilderAtF.put (T:=T) (e:=5) hB hb2 (bs':=bs++[.int .u8 ci]) (by simpa using hown') hT.ne
 ·exact((hb1.alloc (by have:=hb1.size;omega) _).grown hgrow (by have:=hb1.size;simp;omega) (fun k hk=>(hown.lt k hk).1)).setCell (p:=⟨b,1,none⟩) hB _
theorem zr2:(Tryz.prog).cellsOf 5=1:=by kernel_rfl
theorem zr3 {T:TypeId}(b:Nat) (l:List UInt8) (w:World) (h:BldT T b l w) (h0:l≠[]) :
  Calls Tryz.prog 47 #[.pointer (some ⟨b,0,none⟩)] w fun e w'=>e=.returned (.string ⟨l.toArray⟩)∧BldT T b l w'∧BFr b w w':=by
 obtain⟨p,hp,hAt⟩:∃p,(p=.pointer none∨p=.pointer (some ⟨b,0,none⟩))∧Lib.BuilderAtF T 5 b b p (Lib.byteCells l) w:=by
  rcases h with h|h
  ·exact⟨_,.inl rfl,h⟩
  ·exact⟨_,.inr rfl,h⟩
 obtain⟨hB,v,hbk,hown,hne⟩:=hAt
 have hl0:l.length≠0:=by simpa using h0
 rw[Lib.byteCells_length]at hown
 obtain⟨g,cap,cur,fz,rfl,hbg,hg,hfz,hnc,hcm,hcs,htake⟩:∃g cap cur fz,v=.slice (some ⟨g,0,none⟩) l.length cap∧b≤g∧w.heap[g]?=some (.cells cur 5 fz)∧fz.2≤l.length * 1∧l.length≤cap∧cap≤maxLen∧cur.size=cap * 1∧cur.toList.take (l.length * 1)=Lib.byteCells l:=by
  rcases hown.2 with ⟨_,hz⟩|⟨g,cap,cur,fz,hv,r⟩
  ·exact absurd hz hl0
  ·exact⟨g,cap,cur,fz,hv,r⟩
 have c1:w.drew.cell? ⟨b,1,none⟩=some (.slice (some ⟨g,0,none⟩) l.length cap):=by
  have:w.drew.heap[b]?=some (.cells #[p,.slice (some ⟨g,0,none⟩) l.length cap] T (0,0)):=hbk
  rw[Lib.cell_of_heap this];rfl
 have hSD:(Builtin.unsafeSliceData_ #[80] 130 #[.slice (some ⟨g,0,none⟩) l.length cap]).run Tryz.prog w.drew=.ok (.pointer (some ⟨g,0,none⟩)) w.drew :=
  Lib.run_unsafeSliceData_row _ _ _ _ _ _ (by omega)
 have hUS:(Builtin.unsafeString_ #[130,3] 9 #[.pointer (some ⟨g,0,none⟩),.int .i64 l.length]).run Tryz.prog w.drew=.ok (.string ⟨l.toArray⟩) (w.drew.freeze ⟨g,0,none⟩ l.length):=by
  refine Lib.run_unsafeString_row w.drew 130 3 9 5 Tryz.underlying130 zr2 g cur.size (by have hg':w.drew.heap[g]?=some (.cells cur 5 fz):=hg;simp[World.shape?,hg']) l h0 (by omega) (by unfold maxLen at hcm;omega) ?_
  intro j x hx
  have:=hown.cells (g:=g) rfl j (.int .u8 x.toNat) (by simp[Lib.byteCells,hx])
  exact this
 have hkeep:BldT T b l (w.drew.freeze ⟨g,0,none⟩ l.length):=by
  have hA:Lib.BuilderAtF T 5 b b p (Lib.byteCells l) w.drew:=⟨hB,_,hbk,by rw[Lib.byteCells_length];exact hown,hne⟩
  have hF:=hA.froze (g:=g) (cap:=cap) (by rw[Lib.byteCells_length];exact c1)
  rw[Lib.byteCells_length]at hF
  rcases hp with rfl|rfl
  ·exact .inl hF
  ·exact .inr hF
 have mixed:(Tryz.prog).follows Departure.mixedOrders=true:=by kernel_rfl
 go_enter Tryz.func47,Tryz.ntmps47
 go_wp2
 go_region_o
 all_goals (go_wp2;go_ret;exact⟨rfl,hkeep,Lib.below_freeze (Below.drew (Below.refl b w)) (p:=⟨g,0,none⟩) hbg _,((Lib.OthersKept.refl _ _ w).drew).freeze ⟨g,0,none⟩ _ ⟨cur,fz,hg⟩⟩)
end Go.Proofs.YtnclgkdpafhogaaGreat
