/- What strings.Builder's WriteString does with a builder of the call's own, and term.joined. (After the shelf's proofs, whose closure this translation cuts shorter.) -/
import Derived.Test.YtoidhdcbemmfhaaDoorBase
import Derived.Test.YtoidhdcbemmfhaaDoorShelf
import Derived.Lib.OthersKept
import Derived.Shelf.Strings.BuilderK
namespace Go.Proofs.YtoidhdcbemmfhaaDoor
open Go.ChangeShapes Go.WideShapes Go.ChangeAt Go.RowKit

/-- a builder at block b holds these bytes -/
def Bld (b : Nat) (l : List UInt8) (w : World) : Prop := Lib.IsBuilderF 78 5 b b (Lib.byteCells l) w
/-- the world is as it was, but for the builder at block b, and rows of bytes behind it -/
structure BFr (b : Nat) (w w' : World) : Prop where
  below : Below b w w'
  kept : Lib.OthersKept 5 (some b) w w'
theorem BFr.refl (b : Nat) (w : World) : BFr b w w := ⟨Below.refl _ _, Lib.OthersKept.refl _ _ _⟩
theorem BFr.trans {b : Nat} {w w' w'' : World} (h : BFr b w w') (k : BFr b w' w'') : BFr b w w'' := ⟨h.below.trans k.below, h.kept.trans k.kept⟩

theorem sizeBuilder : ((Tryd.prog).info? 78).map (·.size) = some 2 := by kernel_rfl

set_option maxHeartbeats 1000000 in
set_option maxRecDepth 100000 in
theorem copyCheck_used (b : Nat) (w : World) (h0 : w.cell? ⟨b, 0, none⟩ = some (.pointer (some ⟨b, 0, none⟩))) :
    Calls Tryd.prog 113 #[.pointer (some ⟨b, 0, none⟩)] w fun e w' => e = .returned (.tuple #[]) ∧ w' = w := by
  obtain ⟨j, hj, _⟩ := Option.map_eq_some_iff.1 sizeBuilder
  go_enter Tryd.func113, Tryd.ntmps113
  go_wp2
  rw [Lib.run_neq_ptr_same w _ Tryd.underlying75 hj]
  go_wp2
  go_end0
  exact ⟨rfl, rfl⟩

set_option maxHeartbeats 1000000 in
set_option maxRecDepth 100000 in
theorem copyCheck_fresh (b : Nat) (w : World) (h0 : w.cell? ⟨b, 0, none⟩ = some (.pointer none)) (hsh : w.shape? b = some (78, 2)) (hfz : w.frozen? ⟨b, 0, none⟩ = false) :
    Calls Tryd.prog 113 #[.pointer (some ⟨b, 0, none⟩)] w fun e w' => e = .returned (.tuple #[]) ∧ w' = w.setCell ⟨b, 0, none⟩ (.pointer (some ⟨b, 0, none⟩)) := by
  obtain ⟨j, hj, hjs⟩ := Option.map_eq_some_iff.1 sizeBuilder
  go_enter Tryd.func113, Tryd.ntmps113
  go_wp2
  rw [Lib.run_to_unsafe w ⟨b, 0, none⟩ Tryd.underlying75 Tryd.underlying170 hj (by rw [hjs]; decide) hsh (Nat.zero_lt_succ 1)]
  simp only [Result.andThen]
  rw [Oper.upon_value]
  go_wp2
  rw [run_callFunc_extern Tryd.func139 (by kernel_rfl) (by kernel_rfl) (by kernel_rfl) (e := Extern.AbiNoEscape.same) (by kernel_rfl)]
  rw [Lib.run_noEscape]
  simp only [Result.andThen]
  rw [Oper.upon_value]
  go_wp2
  rw [Lib.run_from_unsafe w ⟨b, 0, none⟩ Tryd.underlying170 Tryd.underlying75 hj hsh (by kernel_rfl)]
  simp only [Result.andThen]
  rw [Oper.upon_value]
  go_wp2
  go_end0
  exact ⟨rfl, rfl⟩

theorem copyCheck_any (b : Nat) (bs : List Value) (w : World) (h : Lib.IsBuilderF 78 5 b b bs w) :
    Calls Tryd.prog 113 #[.pointer (some ⟨b, 0, none⟩)] w fun e w' => e = .returned (.tuple #[]) ∧ (Lib.BuilderAtF 78 5 b b (.pointer (some ⟨b, 0, none⟩)) bs w' ∧ BFr b w w') := by
  rcases h with h | h
  · refine (copyCheck_fresh b w h.cell0 h.shape h.frozen0).mono ?_
    rintro e w' ⟨rfl, rfl⟩
    exact ⟨rfl, h.used _, (Below.refl b w).setCell (p := ⟨b, 0, none⟩) h.1 _, (Lib.OthersKept.refl _ _ w).setCell ⟨b, 0, none⟩ rfl _⟩
  · refine (copyCheck_used b w h.cell0).mono ?_
    rintro e w' ⟨rfl, rfl⟩
    exact ⟨rfl, h, BFr.refl _ _⟩

theorem infoByte : ((Tryd.prog).info? 5).map (fun i => (i.zero, i.size, i.bytes)) = some (some (.int .u8 0), 1, 1) := by kernel_rfl

set_option maxHeartbeats 2000000 in
set_option maxRecDepth 100000 in
theorem writeString_cells (b : Nat) (bs : List Value) (s : ByteArray) (w : World) (h : Lib.IsBuilderF 78 5 b b bs w) (hlen : bs.length + s.size ≤ 140737488355328) (hBw : b ≤ w.heap.size) :
    Calls Tryd.prog 94 #[.pointer (some ⟨b, 0, none⟩), .string s] w fun e w' => e = .returned (.tuple #[.int .i64 s.size, .nilIface]) ∧ (Lib.BuilderAtF 78 5 b b (.pointer (some ⟨b, 0, none⟩)) (bs ++ Lib.strCells s) w' ∧ BFr b w w') := by
  obtain ⟨i0, hi, hz0, hz1, hz2⟩ := info_parts infoByte
  go_enter Tryd.func94, Tryd.ntmps94
  go_wp2_with (go_at_call 113; refine (copyCheck_any b bs _ h).mono ?_)
  rintro e w1 ⟨rfl, h1, hb1, hk1⟩
  obtain ⟨hB, v, hbk, hown, hne⟩ := h1
  have c0 : w1.cell? ⟨b, 0, none⟩ = some (.pointer (some ⟨b, 0, none⟩)) := by rw [Lib.cell_of_heap hbk]; rfl
  have c1 : w1.cell? ⟨b, 1, none⟩ = some v := by rw [Lib.cell_of_heap hbk]; rfl
  go_wp2_with (at_builtin; refine Lib.wpList_append_own_stringF _ rfl _ _ 76 9 rfl b 5 i0 Tryd.underlying76 Tryd.underlying9 hi hz0 hz1 hz2 _ _ _ rfl hown s rfl ?c3 ?c4 ?c5 ?_)
  case c3 => unfold maxLen; omega
  case c4 => omega
  case c5 => have := hb1.size; omega
  intro v' w2 hown' hgrow _
  have hlt : b < w1.heap.size := by
    rcases Nat.lt_or_ge b w1.heap.size with h' | h'
    · exact h'
    · simp [Array.getElem?_eq_none h'] at hbk
  have hb2 : w2.heap[b]? = some (.cells #[.pointer (some ⟨b, 0, none⟩), v] 78 (0, 0)) := by
    rw [hgrow.block b hlt (fun e => hne e.symm)]
    exact hbk
  have d0 : w2.cell? ⟨b, 0, none⟩ = some (.pointer (some ⟨b, 0, none⟩)) := by rw [Lib.cell_of_heap hb2]; rfl
  have d1 : w2.cell? ⟨b, 1, none⟩ = some v := by rw [Lib.cell_of_heap hb2]; rfl
  have f1 : w2.frozen? ⟨b, 1, none⟩ = false := Lib.frozen_of_heap hb2 1
  obtain ⟨ao, n', cap, rfl⟩ : ∃ ao n' cap, v' = .slice ao n' cap := by
    rcases hown'.2 with ⟨hv, _⟩ | ⟨g, cap, cur, fz, hv, _⟩
    · exact ⟨_, _, _, hv⟩
    · exact ⟨_, _, _, hv⟩
  go_wp2
  go_ret2
  refine ⟨rfl, ?_, ?_, (hk1.grown hgrow (Lib.ownsRowF_kind hown)).setCell ⟨b, 1, none⟩ rfl _⟩
  · exact Lib.BuilderAtF.put (T := 78) (e := 5) hB hb2 (bs' := bs ++ Lib.strCells s) (by simpa [Lib.strCells_length] using hown') (by decide)
  · exact (hb1.grown hgrow (by have := hb1.size; omega) (fun k hk => (hown.lt k hk).1)).setCell (p := ⟨b, 1, none⟩) hB _

theorem byteCells_append (l : List UInt8) (s : ByteArray) : Lib.byteCells l ++ Lib.strCells s = Lib.byteCells (l ++ s.data.toList) := by
  simp [Lib.byteCells, Lib.strCells]

theorem writeString_any (b : Nat) (l : List UInt8) (s : ByteArray) (w : World) (h : Bld b l w) (hlen : l.length + s.size ≤ 140737488355328) (hBw : b ≤ w.heap.size) :
    Calls Tryd.prog 94 #[.pointer (some ⟨b, 0, none⟩), .string s] w fun e w' => e = .returned (.tuple #[.int .i64 s.size, .nilIface]) ∧ Bld b (l ++ s.data.toList) w' ∧ BFr b w w' := by
  refine (writeString_cells b (Lib.byteCells l) s w h (by rw [Lib.byteCells_length]; exact hlen) hBw).mono ?_
  rintro e w' ⟨rfl, h1, h2⟩
  rw [byteCells_append] at h1
  exact ⟨rfl, .inr h1, h2⟩

def bytesOf (ws : List ByteArray) : List UInt8 := ws.flatMap (fun s => s.data.toList)
theorem bytesOf_take {ws : List ByteArray} {k : Nat} (h : k < ws.length) : bytesOf (ws.take (k + 1)) = bytesOf (ws.take k) ++ ws[k].data.toList := by
  unfold bytesOf
  rw [List.take_succ_eq_append_getElem h, List.flatMap_append]
  simp
theorem bytesOf_take_le (ws : List ByteArray) (k : Nat) : (bytesOf (ws.take k)).length ≤ (bytesOf ws).length := by
  unfold bytesOf
  induction ws generalizing k with
  | nil => simp
  | cons a r ih =>
    cases k with
    | zero => simp
    | succ k => simp only [List.take_succ_cons, List.flatMap_cons, List.length_append]; have := ih k; omega

theorem heap_lt' {w : World} {g : Nat} {o : Obj} (h : w.heap[g]? = some o) : g < w.heap.size := by
  rcases Nat.lt_or_ge g w.heap.size with h' | h'
  · exact h'
  · simp [Array.getElem?_eq_none h'] at h
theorem heap_lt {w : World} {g : Nat} {o : Obj} (h : w.heap[g]? = some o) : g < w.heap.size := by
  rcases Nat.lt_or_ge g w.heap.size with h' | h'
  · exact h'
  · simp [Array.getElem?_eq_none h'] at h

/-- a block that is no row of bytes, and not the builder's, stays -/
theorem BFr.obj {b : Nat} {w w' : World} (h : BFr b w w') {k : Nat} {c : Array Value} {t : TypeId} {fz : Nat × Nat} (hk : w.heap[k]? = some (.cells c t fz)) (hb : k ≠ b) (ht : t ≠ 5) : w'.heap[k]? = some (.cells c t fz) :=
  h.kept k _ hk (fun e => hb (Option.some.inj e)) (fun c' fz' e => by cases e; exact ht rfl)

theorem objNew (w : World) (o : Obj) : (w.alloc o).heap[w.heap.size]? = some o := by
  show (w.heap.push o)[w.heap.size]? = some o
  simp
theorem objOld {w : World} {k : Nat} {x : Obj} (h : w.heap[k]? = some x) (o : Obj) : (w.alloc o).heap[k]? = some x := by
  have hk := heap_lt' h
  show (w.heap.push o)[k]? = some x
  rw [Array.getElem?_push, if_neg (by omega)]; exact h
theorem Ext.obj {w w' : World} (hx : Ext w w') {k : Nat} {x : Obj} (h : w.heap[k]? = some x) : w'.heap[k]? = some x := (hx.block k (heap_lt' h)).trans h
theorem Bld.ext {b : Nat} {l : List UInt8} {w w' : World} (h : Bld b l w) (hx : Ext w w') : Bld b l w' := by
  have row : ∀ {v : Value}, w.ownsRowF b 5 1 v (Lib.byteCells l).length (Lib.byteCells l) → w'.ownsRowF b 5 1 v (Lib.byteCells l).length (Lib.byteCells l) := by
    intro v h
    obtain ⟨h1, h2⟩ := h
    refine ⟨h1, ?_⟩
    rcases h2 with h2 | ⟨g, cap, cur, fz, h3, h4, h5, h6⟩
    · exact .inl h2
    · exact .inr ⟨g, cap, cur, fz, h3, h4, hx.obj h5, h6⟩
  rcases h with ⟨h1, v, h2, h3, h4⟩ | ⟨h1, v, h2, h3, h4⟩
  · exact .inl ⟨h1, v, hx.obj h2, row h3, h4⟩
  · exact .inr ⟨h1, v, hx.obj h2, row h3, h4⟩

set_option maxHeartbeats 1000000 in
theorem joined_any (b g : Nat) (t : TypeId) (ht : t ≠ 5) (hgb : g ≠ b) (l : List UInt8) (ws : List ByteArray) (cap : Nat) (w : World) (hws : ws.length ≤ 1000) (h : Bld b l w) (hg : w.heap[g]? = some (.cells (ws.map Value.string).toArray t (0, 0))) (hlen : l.length + (bytesOf ws).length ≤ 140737488355328) (hBw : b ≤ w.heap.size) :
    Calls Tryd.prog 48 #[.pointer (some ⟨b, 0, none⟩), .slice (some ⟨g, 0, none⟩) ws.length cap] w fun e w' => e = .returned (.tuple #[]) ∧ Bld b (l ++ bytesOf ws) w' ∧ BFr b w w' := by
  go_enter Tryd.func48, Tryd.ntmps48
  go_wp2_with fail
  go_loopw [8] (fun i wr => ∃ k : Nat, k ≤ ws.length ∧ i = .int .i64 k ∧ Bld b (l ++ bytesOf (ws.take k)) wr ∧ BFr b w wr) (fun i _ => ws.length - (intOf i).toNat)
  case atStart => exact ⟨0, Nat.zero_le _, rfl, by simpa [bytesOf] using h, BFr.refl _ _⟩
  case round =>
    obtain ⟨k, hk, rfl, hbld, hfr⟩ := hrel
    have hg' := hfr.obj hg hgb ht
    have hsz := hfr.below.size
    have hbytes := bytesOf_take_le ws (k + 1)
    by_cases hlt : k < ws.length
    · have hst := bytesOf_take hlt
      have hc : wr.cell? ⟨g, k, none⟩ = some (.string ws[k]) := by simp [World.cell?, hg', hlt]
      have hl1 : (l ++ bytesOf (ws.take k)).length + ws[k].size ≤ 140737488355328 := by
        rw [hst, List.length_append] at hbytes
        rw [List.length_append]
        have : ws[k].data.toList.length = ws[k].size := by simp
        omega
      have Hst := Lib.hid hst; clear hst
      clear hg hg' h
      go_wp2_with ((with_reducible refine (writeString_any b _ ws[k] _ hbld hl1 (by omega)).mono ?_); rintro e w2 ⟨rfl, hb2, hf2⟩)
      go_roundw
      case rel => exact ⟨k + 1, by omega, by go_num, by rw [Hst.out, ← List.append_assoc]; exact hb2, hfr.trans hf2⟩
      case measure => simp [intOf]; omega
    · go_wp2_with fail
      have : k = ws.length := by omega
      subst this
      go_returns
      rw [List.take_length] at hbld
      exact ⟨rfl, hbld, hfr⟩
end Go.Proofs.YtoidhdcbemmfhaaDoor
