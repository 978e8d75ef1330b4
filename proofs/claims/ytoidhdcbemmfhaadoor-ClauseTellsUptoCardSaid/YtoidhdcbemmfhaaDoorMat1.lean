/- A matcher in memory; what match.New and Mark return, what Back does in the two cases that the law's own clause meets. -/
import Derived.Test.YtoidhdcbemmfhaaDoorRow2
import Derived.Deep.RegionHeld3
import Derived.Laws.EntriesVeiled
import Derived.Maps.OwnSet
import Derived.MapKept
namespace Go.Proofs.YtoidhdcbemmfhaaDoor
open Go.ChangeShapes Go.WideShapes Go.ChangeAt Go.RowKit

/-- block g is a matcher: its map (block bm) holds the entries es, its row, in blocks from B on, the numbers l -/
structure Mt (w : World) (B g bm : Nat) (es : Array MapEntry) (l : List Int) (v : Value) : Prop where
  at0 : w.cell? ⟨g, 0, none⟩ = some (.map (some bm))
  at1 : w.cell? ⟨g, 1, none⟩ = some v
  free : w.frozen? ⟨g, 1, none⟩ = false
  map : ∃ clock, w.heap[bm]? = some (.map es clock)
  row : GRow eltInt 3 B w v l
  low : g < B
  low2 : bm < B
def ownL (v : Value) : List Nat := match v.ownBlock with | some k => [k] | none => []
theorem Mt.chg {w w' : World} {B g bm : Nat} {es : Array MapEntry} {l : List Int} {v : Value} {S : List Nat} (h : Mt w B g bm es l v) (hx : Chg S w w') (h1 : g ∉ S) (h2 : bm ∉ S) (h3 : ∀ k, v.ownBlock = some k → k ∉ S) : Mt w' B g bm es l v := by
  obtain ⟨a0, a1, a2, ⟨ck, a3⟩, a4, a5, a6⟩ := h
  have hlt : bm < w.heap.size := by
    rcases Nat.lt_or_ge bm w.heap.size with h | h
    · exact h
    · rw [Array.getElem?_eq_none h] at a3; cases a3
  refine ⟨hx.cell a0 h1, hx.cell a1 h1, hx.frozen a1 h1 a2, ⟨ck, (hx.block bm hlt h2).trans a3⟩, ?_, a5, a6⟩
  obtain ⟨cs, b1, b2, b3⟩ := a4
  exact ⟨cs, b1, own_keep b2 fun k hk hl => hx.block k hl (h3 k hk), b3⟩
theorem Mt.ext {w w' : World} {B g bm : Nat} {es : Array MapEntry} {l : List Int} {v : Value} (h : Mt w B g bm es l v) (hx : Ext w w') : Mt w' B g bm es l v :=
  h.chg (Chg.of_ext (S := []) hx) (by simp) (by simp) (by simp)

set_option maxHeartbeats 400000 in
theorem new_any (w : World) : Calls Tryd.prog 79 #[] w fun e w' => e = .returned (.pointer (some ⟨w.heap.size + 1, 0, none⟩)) ∧ Mt w' (w.heap.size + 2) (w.heap.size + 1) w.heap.size #[] [] (.slice none 0 0) ∧ Ext w w' ∧ w'.heap.size = w.heap.size + 2 := by
  have hmm := @run_makeMap Tryd.prog
  have hx : Ext w ((w.alloc (.map #[] 0)).alloc (.cells #[.map (some w.heap.size), .slice none 0 0] 139)) := by go_grown
  have k0 : ((w.alloc (.map #[] 0)).alloc (.cells #[.map (some w.heap.size), .slice none 0 0] 139)).cell? ⟨w.heap.size + 1, 0, none⟩ = some (.map (some w.heap.size)) := by go_simp
  have k1 : ((w.alloc (.map #[] 0)).alloc (.cells #[.map (some w.heap.size), .slice none 0 0] 139)).cell? ⟨w.heap.size + 1, 1, none⟩ = some (.slice none 0 0) := by go_simp
  have k2 : ((w.alloc (.map #[] 0)).alloc (.cells #[.map (some w.heap.size), .slice none 0 0] 139)).frozen? ⟨w.heap.size + 1, 1, none⟩ = false := by go_simp
  have k3 : ((w.alloc (.map #[] 0)).alloc (.cells #[.map (some w.heap.size), .slice none 0 0] 139)).heap[w.heap.size]? = some (.map #[] 0) := by
    have := Below.heap_alloc (w.alloc (.map #[] 0)) (.cells #[.map (some w.heap.size), .slice none 0 0] 139) w.heap.size (by simp)
    rw [this]; exact heap_alloc_new _ _
  have H := Lib.hid (And.intro hx (And.intro k0 (And.intro k1 (And.intro k2 k3))))
  clear hx k0 k1 k2 k3
  go_enter Tryd.func79, Tryd.ntmps79
  go_wp2_with fail
  go_ret
  obtain ⟨hx, k0, k1, k2, k3⟩ := H.out
  exact ⟨rfl, ⟨k0, k1, k2, ⟨_, k3⟩, GRow.nil, by omega, by omega⟩, hx, by simp⟩

set_option maxHeartbeats 400000 in
theorem mark_any (w : World) (B g bm : Nat) (es : Array MapEntry) (l : List Int) (v : Value) (h : Mt w B g bm es l v) : Calls Tryd.prog 82 #[.pointer (some ⟨g, 0, none⟩)] w fun e w' => e = .returned (.int .i64 l.length) ∧ w' = w := by
  obtain ⟨a, c, rfl, hc⟩ := h.row.form
  have k1 := h.at1
  go_enter Tryd.func82, Tryd.ntmps82
  go_wp2_with fail
  go_ret
  exact ⟨rfl, rfl⟩

theorem Mt.ne {w : World} {B g bm : Nat} {es : Array MapEntry} {l : List Int} {v : Value} (h : Mt w B g bm es l v) : bm ≠ g := by
  rintro rfl
  obtain ⟨ck, h3⟩ := h.map
  have h0 := h.at0
  unfold World.cell? at h0
  rw [h3] at h0
  cases h0
/-- the row laid anew -/
theorem Mt.put {w : World} {B g bm : Nat} {es : Array MapEntry} {l l' : List Int} {v v' : Value} (h : Mt w B g bm es l v) (hr : GRow eltInt 3 B w v' l') : Mt (w.setCell ⟨g, 1, none⟩ v') B g bm es l' v' := by
  have hne := h.ne
  obtain ⟨a0, a1, a2, ⟨ck, a3⟩, a4, a5, a6⟩ := h
  refine ⟨?_, World.cell?_setCell_same _ _ _ a1, (World.frozen?_setCell _ _ _ _).trans a2, ⟨ck, ?_⟩, ?_, a5, a6⟩
  · rw [World.cell?_setCell_other _ _ _ _ (by intro e; injection e with _ e2; omega)]; exact a0
  · rw [Below.heap_setCell _ _ _ _ hne]; exact a3
  · exact hr.chg ((Chg.refl [g] w).setCell _ (.inl (by simp))) (by simp; omega)
theorem GRow.cut0 {e B : Nat} {w : World} {a : Option Addr} {n c : Nat} {l : List Int} (h : GRow eltInt e B w (.slice a n c) l) : GRow eltInt e B w (.slice a 0 c) [] := by
  obtain ⟨cs, -, ⟨-, h2⟩, -⟩ := h
  refine ⟨[], rfl, ⟨rfl, ?_⟩, fun j h => by simp at h⟩
  rcases h2 with ⟨h2, h3⟩ | ⟨g, cap, cur, h2, h3, h4, h5, h6, h7, h8⟩
  · injection h2 with e1 e2 e3
    subst e1; subst e3
    exact .inl ⟨rfl, rfl⟩
  · injection h2 with e1 e2 e3
    subst e1; subst e3
    exact .inr ⟨g, c, cur, rfl, h3, h4, Nat.zero_le _, h6, h7, by simp⟩

set_option maxHeartbeats 1000000 in
set_option maxRecDepth 100000 in
theorem back_none (w : World) (B g bm : Nat) (es : Array MapEntry) (l : List Int) (v : Value) (h : Mt w B g bm es l v) (hl : l.length ≤ 1000000) :
    Calls Tryd.prog 84 #[.pointer (some ⟨g, 0, none⟩), .int .i64 l.length] w fun e w' => e = .returned (.tuple #[]) ∧ Mt w' B g bm es l v ∧ Chg [g] w w' := by
  obtain ⟨a, c, rfl, hc⟩ := h.row.form
  have k0 := h.at0
  have k1 := h.at1
  have k2 := h.free
  have Hm := Lib.hid h; clear h
  have hli : (l.length : Int) ≤ 1000000 := by omega
  have hn : ¬ (l.length : Int) < 0 := by omega
  have hci : (l.length : Int) ≤ (c : Int) := by omega
  by_cases hcc : c = l.length
  · subst hcc
    go_enter Tryd.func84, Tryd.ntmps84
    go_wp2_with fail
    go_loopw [28] (fun i wr => i = .int .i64 0 ∧ wr = w) (fun _ _ => 0)
    case atStart => exact ⟨rfl, rfl⟩
    case round =>
      obtain ⟨rfl, rfl⟩ := hrel
      go_wp2_with fail
      go_returns
      exact ⟨rfl, Hm.out.put Hm.out.row, (Chg.refl [g] _).setCell _ (.inl (by simp))⟩
  · go_enter Tryd.func84, Tryd.ntmps84
    go_wp2_with fail
    go_loopw [28] (fun i wr => i = .int .i64 0 ∧ wr = w) (fun _ _ => 0)
    case atStart => exact ⟨rfl, rfl⟩
    case round =>
      obtain ⟨rfl, rfl⟩ := hrel
      go_wp2_with fail
      go_returns
      exact ⟨rfl, Hm.out.put Hm.out.row, (Chg.refl [g] _).setCell _ (.inl (by simp))⟩

theorem map_lt {w : World} {r : Nat} {o : Obj} (h : w.heap[r]? = some o) : r < w.heap.size := by
  rcases Nat.lt_or_ge r w.heap.size with h1 | h1
  · exact h1
  · rw [Array.getElem?_eq_none h1] at h; cases h
/-- the world with another object in a block -/
def setO (w : World) (r : Nat) (o : Obj) : World := { w with heap := w.heap.setIfInBounds r o }
theorem setO_same {w : World} {r : Nat} {o : Obj} (h : r < w.heap.size) : (setO w r o).heap[r]? = some o := by simp [setO, h]
theorem setO_chg (w : World) (r : Nat) (o : Obj) : Chg [r] w (setO w r o) :=
  ⟨rfl, rfl, rfl, by simp [setO], fun k _ hk => by
    have hne : r ≠ k := fun e => hk (by simp [e])
    simp [setO, Array.getElem?_setIfInBounds_ne hne]⟩

section
variable {P : Program} {t k e ty : TypeId} {w : World} {r clock : Nat} {x : Int}
/-- delete, lookup, update at small maps of numbers -/
theorem run_delete_one (ht : P.underlying t = some (.map k e)) (hk : P.underlying k = some (.int .i64)) (hx : (Lit.int .i64 x).wf = true) (val : Value) (born : Nat) (hb : w.heap[r]? = some (.map #[⟨.int .i64 x, val, born⟩] clock)) :
    (Builtin.delete_ #[t, k] ty #[.map (some r), .int .i64 x]).run P w = .ok (.tuple #[]) (setO w r (.map #[] clock)) := by
  have hck := fun em => (Maps.int_keyed hk).check w em (Maps.keyOf_int_mk hk hx)
  have hf : (Instr.findKey k (.int .i64 x) [⟨.int .i64 x, val, born⟩]).run P w = .ok (some (0, val)) w := by
    simp [Instr.findKey, run_underlying hk, Instr.findNow, Instr.sameNow]
  simp [Builtin.delete_, run_underlying ht, MapKept.run_getObj_map hb, hck, hf, MapKept.run_setObj_map _ hb, Result.andThen, setO]
theorem run_lookup_empty (ht : P.underlying t = some (.map k e)) (hk : P.underlying k = some (.int .i64)) (hx : (Lit.int .i64 x).wf = true) (hb : w.heap[r]? = some (.map #[] clock)) (z : Value) (hz : ∀ w, (zeroValue e).run P w = .ok z w) :
    (Instr.lookup t (.map (some r)) (.int .i64 x) false).run P w = .ok z w := by
  have hck := fun em => (Maps.int_keyed hk).check w em (Maps.keyOf_int_mk hk hx)
  have hf : (Instr.findKey k (.int .i64 x) []).run P w = .ok none w := by
    simp [Instr.findKey, run_underlying hk, Instr.findNow]
  simp [Instr.lookup, run_underlying ht, MapKept.run_getObj_map hb, hck, hf, hz, Result.andThen]
theorem run_update_empty (ht : P.underlying t = some (.map k e)) (hk : P.underlying k = some (.int .i64)) (hx : (Lit.int .i64 x).wf = true) (hb : w.heap[r]? = some (.map #[] clock)) (val : Value) :
    (Instr.mapUpdate t (.map (some r)) (.int .i64 x) val).run P w = .ok () (setO w r (.map #[⟨.int .i64 x, val, clock⟩] (clock + 1))) := by
  have hck := fun em => (Maps.int_keyed hk).check w em (Maps.keyOf_int_mk hk hx)
  have hf : (Instr.findKey k (.int .i64 x) []).run P w = .ok none w := by
    simp [Instr.findKey, run_underlying hk, Instr.findNow]
  simp [Instr.mapUpdate, run_underlying ht, MapKept.run_getObj_map hb, hck, hf, MapKept.run_setObj_map _ hb, Result.andThen, setO]
end
theorem wf64 {x : Int} (h1 : -9223372036854775808 ≤ x) (h2 : x ≤ 9223372036854775807) : (Lit.int .i64 x).wf = true := by
  simp [Lit.wf, IntKind.min, IntKind.max, IntKind.signed, IntKind.bits]; omega

end Go.Proofs.YtoidhdcbemmfhaaDoor
