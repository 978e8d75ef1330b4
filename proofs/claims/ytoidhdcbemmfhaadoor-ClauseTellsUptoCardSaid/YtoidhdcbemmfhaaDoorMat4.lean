/- What Term of a matcher does with a constant, and a term without arguments. -/
import Derived.Test.YtoidhdcbemmfhaaDoorMat3
import Derived.Deep.QuietTactic
namespace Go.Proofs.YtoidhdcbemmfhaaDoor
open Go.ChangeShapes Go.WideShapes Go.ChangeAt Go.RowKit

set_option maxHeartbeats 2000000 in
set_option maxRecDepth 100000 in
theorem term_ne (w : World) (B g bm : Nat) (es : Array MapEntry) (l : List Int) (v : Value) (h : Mt w B g bm es l v) (hll : l.length ≤ 1000000) (p q : Int) (hp1 : 0 ≤ p) (hp2 : p ≤ 9223372036854775807) (hq1 : -9223372036854775808 ≤ q) (hq2 : q ≤ 9223372036854775807) (hpq : (p != q) = true) (a a2 : Option Addr) (c c2 : Nat) :
    Calls Tryd.prog 180 #[.pointer (some ⟨g, 0, none⟩), .agg #[.int .i64 p, .slice a 0 c], .agg #[.int .i64 q, .slice a2 0 c2]] w fun e w' => e = .returned (.bool false) ∧ Mt w' B g bm es l v ∧ Chg [g] w w' := by
  obtain ⟨W, hW⟩ : ∃ W, W = ((w.alloc (.cells #[.int .i64 p, .slice a 0 c] 27)).alloc (.cells #[.int .i64 q, .slice a2 0 c2] 27)) := ⟨_, rfl⟩
  have hx : Ext w W := by subst hW; go_grown
  have k0 : W.cell? ⟨w.heap.size, 0, none⟩ = some (.int .i64 p) := by subst hW; go_simp
  have k1 : W.cell? ⟨w.heap.size, 1, none⟩ = some (.slice a 0 c) := by subst hW; go_simp
  have k2 : W.cell? ⟨w.heap.size + 1, 0, none⟩ = some (.int .i64 q) := by subst hW; go_simp
  have k3 : W.cell? ⟨w.heap.size + 1, 1, none⟩ = some (.slice a2 0 c2) := by subst hW; go_simp
  have hMW := h.ext hx
  have H0 := Lib.hid (plain_leaf W w.heap.size 0 p a c k0 k1)
  have H1 := Lib.hid (plain_leaf W (w.heap.size + 1) 0 q a2 c2 k2 k3)
  have H2 := Lib.hid (mark_any W B g bm es l v hMW)
  have H3 := Lib.hid (leafCopy W q hq1 hq2 a2 c2)
  have Hw := Lib.hid h
  have HMW := Lib.hid hMW
  clear h hMW
  go_enter Tryd.func180, Tryd.ntmps180
  go_wp2_with fail
  rw [← hW]
  clear hW
  go_step3
  go_wp2_with (first
    | (go_at_call 181; with_reducible refine (H0.out).mono ?_; rintro e w' ⟨rfl, rfl⟩)
    | (go_at_call 181; with_reducible refine (H1.out).mono ?_; rintro e w' ⟨rfl, rfl⟩)
    | (go_at_call 82; with_reducible refine (H2.out).mono ?_; rintro e w' ⟨rfl, rfl⟩)
    | (go_at_call 63; with_reducible refine (H3.out).mono ?_; rintro e w2 ⟨rfl, hx2⟩))
  go_step3
  go_wp2_with fail
  obtain ⟨m, hm⟩ : ∃ m, m = w2.heap.size := ⟨_, rfl⟩
  obtain ⟨n, hn⟩ : ∃ n, n = w.heap.size := ⟨_, rfl⟩
  rw [← hn] at k0 k1
  have hxw2 : Ext w w2 := hx.trans hx2
  have e0 := hx2.cell k0
  have e1 := hx2.cell k1
  have hnm : n < m := by have := cell_lt e0; rw [hm]; exact this
  obtain ⟨W4, hW4⟩ : ∃ W4, W4 = (w2.alloc (.cells #[.int .i64 q, .slice none 0 0] 27)).alloc (.cells #[.pointer (some ⟨n, 0, none⟩), .pointer (some ⟨m, 0, none⟩)] 209) := ⟨_, rfl⟩
  have hx4 : Ext w2 W4 := by subst hW4; go_grown
  have hB4 : Boxes W4 n m p q a c := by
    refine ⟨hx4.cell e0, hx4.cell e1, ?_, ?_, ?_, ?_⟩ <;> (subst hW4; subst hm; go_simp)
  have hs4 : W4.heap.size = m + 2 := by subst hW4; subst hm; simp
  rw [← hm, ← hn, ← hW4]
  have hMW4 := Hw.out.ext (hxw2.trans hx4)
  have hxw4 := hxw2.trans hx4
  clear hW4 hx4 hx2 e0 e1 k0 k1 k2 k3 H0 H1 H2 H3 HMW hx
  have hwm : w.heap.size ≤ m := by rw [hm]; exact hxw2.size
  have Hm := Lib.hid hm
  have Hn := Lib.hid hn
  clear hm hn
  have hgB := Hw.out.low
  have hbB := Hw.out.low2
  have hgw := cell_lt Hw.out.at0
  have hne := Hw.out.ne
  go_loopw [9] (fun v9 wr => v9 = .slice (some ⟨m + 1, 0, none⟩) 1 1 ∧ wr = W4) (fun v9 _ => sliceLen v9)
  case atStart => exact ⟨rfl, rfl⟩
  case round =>
    obtain ⟨rfl, rfl⟩ := hrel
    · obtain ⟨e0, e1, e2, e3, e4, e5⟩ := hB4
      have hA := ext_alloc wr (.cells #[.pointer (some ⟨n, 0, none⟩), .pointer (some ⟨m, 0, none⟩)] 209)
      have f0 := hA.cell e0
      have f1 := hA.cell e1
      have f2 := hA.cell e2
      have f3 := hA.cell e3
      have hMA := hMW4.ext hA
      have hxA := hxw4.trans hA
      have f8 : (wr.alloc (.cells #[.pointer (some ⟨n, 0, none⟩), .pointer (some ⟨m, 0, none⟩)] 209)).cell? ⟨wr.heap.size, 0, none⟩ = some (.pointer (some ⟨n, 0, none⟩)) := by go_simp
      have f9 : (wr.alloc (.cells #[.pointer (some ⟨n, 0, none⟩), .pointer (some ⟨m, 0, none⟩)] 209)).cell? ⟨wr.heap.size, 1, none⟩ = some (.pointer (some ⟨m, 0, none⟩)) := by go_simp
      have hpd : decide (p < 0) = false := decide_eq_false (by omega)
      go_wp2_with fail
      obtain ⟨W5, hW5⟩ : ∃ W5, W5 = wr.alloc (.cells #[.pointer (some ⟨n, 0, none⟩), .pointer (some ⟨m, 0, none⟩)] 209) := ⟨_, rfl⟩
      rw [← hW5] at f0 f1 f2 f3 f8 f9 hMA hxA ⊢
      clear hW5 hA
      rw [hs4] at f8 f9
      go_quiet (fail)
      have hMn := fun nq => (hMA.ext (below_drewN' (Below.refl _ W5) nq))
      go_wp2_with ((refine (back_none _ B g bm es l v (hMn _) hll).mono ?_); rintro e w8 ⟨rfl, hM8, hc8⟩)
      rw [Exit.noGoto_ret]
      go_ret
      exact ⟨rfl, hM8, ((Chg.of_ext hxA).trans (Chg.of_ext (below_drewN' (Below.refl _ W5) _))).trans hc8⟩

set_option maxHeartbeats 2000000 in
set_option maxRecDepth 100000 in
theorem term_eq (w : World) (B g bm : Nat) (es : Array MapEntry) (l : List Int) (v : Value) (h : Mt w B g bm es l v) (hll : l.length ≤ 1000000) (p q : Int) (hp1 : 0 ≤ p) (hp2 : p ≤ 9223372036854775807) (hq1 : -9223372036854775808 ≤ q) (hq2 : q ≤ 9223372036854775807) (hpq : (p != q) = false) (a a2 : Option Addr) (c c2 : Nat) :
    Calls Tryd.prog 180 #[.pointer (some ⟨g, 0, none⟩), .agg #[.int .i64 p, .slice a 0 c], .agg #[.int .i64 q, .slice a2 0 c2]] w fun e w' => e = .returned (.bool true) ∧ Mt w' B g bm es l v ∧ Chg [g] w w' := by
  obtain ⟨W, hW⟩ : ∃ W, W = ((w.alloc (.cells #[.int .i64 p, .slice a 0 c] 27)).alloc (.cells #[.int .i64 q, .slice a2 0 c2] 27)) := ⟨_, rfl⟩
  have hx : Ext w W := by subst hW; go_grown
  have k0 : W.cell? ⟨w.heap.size, 0, none⟩ = some (.int .i64 p) := by subst hW; go_simp
  have k1 : W.cell? ⟨w.heap.size, 1, none⟩ = some (.slice a 0 c) := by subst hW; go_simp
  have k2 : W.cell? ⟨w.heap.size + 1, 0, none⟩ = some (.int .i64 q) := by subst hW; go_simp
  have k3 : W.cell? ⟨w.heap.size + 1, 1, none⟩ = some (.slice a2 0 c2) := by subst hW; go_simp
  have hMW := h.ext hx
  have H0 := Lib.hid (plain_leaf W w.heap.size 0 p a c k0 k1)
  have H1 := Lib.hid (plain_leaf W (w.heap.size + 1) 0 q a2 c2 k2 k3)
  have H2 := Lib.hid (mark_any W B g bm es l v hMW)
  have H3 := Lib.hid (leafCopy W q hq1 hq2 a2 c2)
  have Hw := Lib.hid h
  have HMW := Lib.hid hMW
  clear h hMW
  go_enter Tryd.func180, Tryd.ntmps180
  go_wp2_with fail
  rw [← hW]
  clear hW
  go_step3
  go_wp2_with (first
    | (go_at_call 181; with_reducible refine (H0.out).mono ?_; rintro e w' ⟨rfl, rfl⟩)
    | (go_at_call 181; with_reducible refine (H1.out).mono ?_; rintro e w' ⟨rfl, rfl⟩)
    | (go_at_call 82; with_reducible refine (H2.out).mono ?_; rintro e w' ⟨rfl, rfl⟩)
    | (go_at_call 63; with_reducible refine (H3.out).mono ?_; rintro e w2 ⟨rfl, hx2⟩))
  go_step3
  go_wp2_with fail
  obtain ⟨m, hm⟩ : ∃ m, m = w2.heap.size := ⟨_, rfl⟩
  obtain ⟨n, hn⟩ : ∃ n, n = w.heap.size := ⟨_, rfl⟩
  rw [← hn] at k0 k1
  have hxw2 : Ext w w2 := hx.trans hx2
  have e0 := hx2.cell k0
  have e1 := hx2.cell k1
  have hnm : n < m := by have := cell_lt e0; rw [hm]; exact this
  obtain ⟨W4, hW4⟩ : ∃ W4, W4 = (w2.alloc (.cells #[.int .i64 q, .slice none 0 0] 27)).alloc (.cells #[.pointer (some ⟨n, 0, none⟩), .pointer (some ⟨m, 0, none⟩)] 209) := ⟨_, rfl⟩
  have hx4 : Ext w2 W4 := by subst hW4; go_grown
  have hB4 : Boxes W4 n m p q a c := by
    refine ⟨hx4.cell e0, hx4.cell e1, ?_, ?_, ?_, ?_⟩ <;> (subst hW4; subst hm; go_simp)
  have hs4 : W4.heap.size = m + 2 := by subst hW4; subst hm; simp
  rw [← hm, ← hn, ← hW4]
  have hMW4 := Hw.out.ext (hxw2.trans hx4)
  have hxw4 := hxw2.trans hx4
  clear hW4 hx4 hx2 e0 e1 k0 k1 k2 k3 H0 H1 H2 H3 HMW hx
  have hwm : w.heap.size ≤ m := by rw [hm]; exact hxw2.size
  have Hm := Lib.hid hm
  have Hn := Lib.hid hn
  clear hm hn
  have hgB := Hw.out.low
  have hbB := Hw.out.low2
  have hgw := cell_lt Hw.out.at0
  have hne := Hw.out.ne
  go_loopw [9] (fun v9 wr => (v9 = .slice (some ⟨m + 1, 0, none⟩) 1 1 ∧ wr = W4) ∨ (v9 = .slice (some ⟨m + 1, 0, none⟩) 0 1 ∧ Mt wr B g bm es l v ∧ Chg [g] w wr)) (fun v9 _ => sliceLen v9)
  case atStart => exact .inl ⟨rfl, rfl⟩
  case round =>
    rcases hrel with ⟨rfl, rfl⟩ | ⟨rfl, hD⟩
    · obtain ⟨e0, e1, e2, e3, e4, e5⟩ := hB4
      have hA := ext_alloc wr (.cells #[.pointer (some ⟨n, 0, none⟩), .pointer (some ⟨m, 0, none⟩)] 209)
      have f0 := hA.cell e0
      have f1 := hA.cell e1
      have f2 := hA.cell e2
      have f3 := hA.cell e3
      have hMA := hMW4.ext hA
      have hxA := hxw4.trans hA
      have f8 : (wr.alloc (.cells #[.pointer (some ⟨n, 0, none⟩), .pointer (some ⟨m, 0, none⟩)] 209)).cell? ⟨wr.heap.size, 0, none⟩ = some (.pointer (some ⟨n, 0, none⟩)) := by go_simp
      have f9 : (wr.alloc (.cells #[.pointer (some ⟨n, 0, none⟩), .pointer (some ⟨m, 0, none⟩)] 209)).cell? ⟨wr.heap.size, 1, none⟩ = some (.pointer (some ⟨m, 0, none⟩)) := by go_simp
      have hpd : decide (p < 0) = false := decide_eq_false (by omega)
      go_wp2_with fail
      obtain ⟨W5, hW5⟩ : ∃ W5, W5 = wr.alloc (.cells #[.pointer (some ⟨n, 0, none⟩), .pointer (some ⟨m, 0, none⟩)] 209) := ⟨_, rfl⟩
      rw [← hW5] at f0 f1 f2 f3 f8 f9 hMA hxA ⊢
      clear hW5 hA
      rw [hs4] at f8 f9
      go_quiet (fail)
      have hMn := hMA.ext (below_drewN' (Below.refl _ W5) nq)
      go_wp2_with fail
      go_loopw [9, 13] (fun v9 i wr => v9 = .slice (some ⟨m + 1, 0, none⟩) 0 1 ∧ i = .int .i64 (-1) ∧ wr = W5.drewN nq) (fun _ _ _ => 0)
      case atStart => exact ⟨rfl, rfl, rfl⟩
      case round =>
        obtain ⟨rfl, rfl, rfl⟩ := hrel
        go_wp2_with fail
        go_roundw
        case rel => exact .inr ⟨rfl, hMn, (Chg.of_ext hxA).trans (Chg.of_ext (below_drewN' (Below.refl _ W5) _))⟩
        case measure => simp [sliceLen]
    · go_wp2_with fail
      go_ret
      exact ⟨rfl, hD⟩
end Go.Proofs.YtoidhdcbemmfhaaDoor
