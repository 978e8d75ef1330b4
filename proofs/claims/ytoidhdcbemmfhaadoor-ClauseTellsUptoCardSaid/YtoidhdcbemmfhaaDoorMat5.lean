/- What match.lit does with two literals of a variable and a constant each. -/
import Derived.Test.YtoidhdcbemmfhaaDoorMat4
namespace Go.Proofs.YtoidhdcbemmfhaaDoor
open Go.ChangeShapes Go.WideShapes Go.ChangeAt Go.RowKit

set_option maxHeartbeats 400000 in
set_option maxRecDepth 100000 in
theorem atom_no (w : World) (b : Nat) (lf rf : Int) (v1 v2 : Value) (hl : (lf == 0) = false) (hr : (rf == 0) = false) (h1 : w.cell? ⟨b, 1, none⟩ = some (.int .i64 lf)) (h2 : w.cell? ⟨b, 2, none⟩ = some v1) (h3 : w.cell? ⟨b, 3, none⟩ = some (.int .i64 rf)) (h4 : w.cell? ⟨b, 4, none⟩ = some v2) :
    Calls Tryd.prog 119 #[.pointer (some ⟨b, 0, none⟩)] w fun e w' => e = .returned (.bool false) ∧ w' = w := by
  go_enter Tryd.func119, Tryd.ntmps119
  go_wp2_with fail
  go_ret
  exact ⟨rfl, rfl⟩

set_option maxHeartbeats 2000000 in
set_option maxRecDepth 100000 in
theorem lit_fail (w : World) (B g bm : Nat) (hBw : B ≤ w.heap.size) (v : Value) (h : Mt w B g bm #[] [] v) (p c x d : Int) (hp1 : -9223372036854775808 ≤ p) (hp2 : p < 0) (hc1 : 0 < c) (hc2 : c ≤ 9223372036854775807) (hx1 : -9223372036854775808 ≤ x) (hx2 : x ≤ 9223372036854775807) (hd1 : -9223372036854775808 ≤ d) (hd2 : d ≤ 9223372036854775807)
    (hx0 : (x == 0) = false) (hd0 : (d == 0) = false) (hcd : (c != d) = true) (a1 a2 a3 a4 : Option Addr) (c1 c2 c3 c4 : Nat) :
    Calls Tryd.prog 107 #[.iface 107 (.pointer (some ⟨g, 0, none⟩)), .agg #[.bool false, .int .i64 p, .slice a1 0 c1, .int .i64 c, .slice a2 0 c2], .agg #[.bool false, .int .i64 x, .slice a3 0 c3, .int .i64 d, .slice a4 0 c4], .bool false] w fun e w' => e = .returned (.bool false) ∧
      (∃ v', Mt w' B g bm #[] [] v' ∧ (v'.ownBlock = v.ownBlock ∨ ∀ k, v'.ownBlock = some k → w.heap.size ≤ k)) ∧ Chg ([g, bm] ++ ownL v) w w' := by
  obtain ⟨W, hW⟩ : ∃ W, W = ((w.alloc (.cells #[.bool false, .int .i64 p, .slice a1 0 c1, .int .i64 c, .slice a2 0 c2] 65)).alloc (.cells #[.bool false, .int .i64 x, .slice a3 0 c3, .int .i64 d, .slice a4 0 c4] 65)) := ⟨_, rfl⟩
  have hx : Ext w W := by subst hW; go_grown
  have k0 : W.cell? ⟨w.heap.size, 0, none⟩ = some (.bool false) := by subst hW; go_simp
  have k1 : W.cell? ⟨w.heap.size, 1, none⟩ = some (.int .i64 p) := by subst hW; go_simp
  have k2 : W.cell? ⟨w.heap.size, 2, none⟩ = some (.slice a1 0 c1) := by subst hW; go_simp
  have k3 : W.cell? ⟨w.heap.size, 3, none⟩ = some (.int .i64 c) := by subst hW; go_simp
  have k4 : W.cell? ⟨w.heap.size, 4, none⟩ = some (.slice a2 0 c2) := by subst hW; go_simp
  have q0 : W.cell? ⟨w.heap.size + 1, 0, none⟩ = some (.bool false) := by subst hW; go_simp
  have q1 : W.cell? ⟨w.heap.size + 1, 1, none⟩ = some (.int .i64 x) := by subst hW; go_simp
  have q2 : W.cell? ⟨w.heap.size + 1, 2, none⟩ = some (.slice a3 0 c3) := by subst hW; go_simp
  have q3 : W.cell? ⟨w.heap.size + 1, 3, none⟩ = some (.int .i64 d) := by subst hW; go_simp
  have q4 : W.cell? ⟨w.heap.size + 1, 4, none⟩ = some (.slice a4 0 c4) := by subst hW; go_simp
  have hMW := h.ext hx
  have hp0 : (p == 0) = false := by rw [beq_eq_false_iff_ne]; omega
  have hc0 : (c == 0) = false := by rw [beq_eq_false_iff_ne]; omega
  have H0 := Lib.hid (atom_no W w.heap.size p c _ _ hp0 hc0 k1 k2 k3 k4)
  have H1 := Lib.hid (atom_no W (w.heap.size + 1) x d _ _ hx0 hd0 q1 q2 q3 q4)
  have H2 := Lib.hid (mark_any W B g bm #[] [] v hMW)
  have hBW : B ≤ W.heap.size := Nat.le_trans hBw hx.size
  have H3 := Lib.hid (term_bind W B g bm hBW v hMW p x hp1 hp2 hx1 hx2 a1 a3 c1 c3)
  have Hw := Lib.hid h
  clear h hMW
  have hnot : ∀ j, w.heap.size ≤ j → j ∉ [g, bm] ++ ownL v := by
    intro j hj hm
    have hg := cell_lt Hw.out.at0
    obtain ⟨ck, hmp⟩ := Hw.out.map
    have hb := map_lt hmp
    simp only at hg
    rcases List.mem_append.1 hm with h1 | h1
    · simp at h1; omega
    · unfold ownL at h1
      split at h1
      · rename_i k hk
        have := (Hw.out.row.own_ge hk).2
        simp at h1; omega
      · simp at h1
  go_enter Tryd.func107, Tryd.ntmps107
  go_wp2_with fail
  rw [← hW]
  clear hW
  go_wp2_with (first
    | (go_at_call 119; with_reducible refine (H0.out).mono ?_; rintro e w' ⟨rfl, rfl⟩)
    | (go_at_call 119; with_reducible refine (H1.out).mono ?_; rintro e w' ⟨rfl, rfl⟩)
    | (go_at_call 82; with_reducible refine (H2.out).mono ?_; rintro e w' ⟨rfl, rfl⟩))
  go_wp2_with ((go_at_call 180; with_reducible refine (H3.out).mono ?_); rintro e w3 ⟨rfl, ⟨v3, val, born, hM3, ho3⟩, hc3⟩; have r3 := hc3.cell k3 (hnot _ (by simp)); have r4 := hc3.cell k4 (hnot _ (by simp)); have r5 := hc3.cell q3 (hnot _ (by simp)); have r6 := hc3.cell q4 (hnot _ (by simp)))
  have T2 := Lib.hid (term_ne w3 B g bm _ _ v3 hM3 (by simp) c d (by omega) hc2 hd1 hd2 hcd a2 a4 c2 c4)
  go_wp2_with ((go_at_call 180; with_reducible refine (T2.out).mono ?_); rintro e w4 ⟨rfl, hM4, hc4⟩)
  have B1 := Lib.hid (back_one w4 B g bm (-1 - p) (by omega) (by omega) val born v3 hM4)
  go_wp2_with ((go_at_call 84; with_reducible refine (B1.out).mono ?_); rintro e w5 ⟨rfl, ⟨v5, hM5, ho5⟩, hc5⟩)
  go_ret
  refine ⟨rfl, ⟨v5, hM5, ?_⟩, ((((Chg.of_ext hx).trans hc3).trans (hc4.mono (by simp))).trans (hc5.mono (by simp)))⟩
  rw [ho5]
  rcases ho3 with h1 | h1
  · exact .inl h1
  · right
    intro k hk
    exact Nat.le_trans hx.size (h1 k hk)

set_option maxHeartbeats 2000000 in
set_option maxRecDepth 100000 in
theorem lit_ok (w : World) (B g bm : Nat) (hBw : B ≤ w.heap.size) (v : Value) (h : Mt w B g bm #[] [] v) (p c x : Int) (hp1 : -9223372036854775808 ≤ p) (hp2 : p < 0) (hc1 : 0 < c) (hc2 : c ≤ 9223372036854775807) (hx1 : -9223372036854775808 ≤ x) (hx2 : x ≤ 9223372036854775807)
    (hx0 : (x == 0) = false) (a1 a2 a3 a4 : Option Addr) (c1 c2 c3 c4 : Nat) :
    Calls Tryd.prog 107 #[.iface 107 (.pointer (some ⟨g, 0, none⟩)), .agg #[.bool false, .int .i64 p, .slice a1 0 c1, .int .i64 c, .slice a2 0 c2], .agg #[.bool false, .int .i64 x, .slice a3 0 c3, .int .i64 c, .slice a4 0 c4], .bool false] w fun e w' => e = .returned (.bool true) ∧
      (∃ v' val born, Mt w' B g bm #[⟨.int .i64 (-1 - p), val, born⟩] [-1 - p] v' ∧ (v'.ownBlock = v.ownBlock ∨ ∀ k, v'.ownBlock = some k → w.heap.size ≤ k)) ∧ Chg ([g, bm] ++ ownL v) w w' := by
  obtain ⟨W, hW⟩ : ∃ W, W = ((w.alloc (.cells #[.bool false, .int .i64 p, .slice a1 0 c1, .int .i64 c, .slice a2 0 c2] 65)).alloc (.cells #[.bool false, .int .i64 x, .slice a3 0 c3, .int .i64 c, .slice a4 0 c4] 65)) := ⟨_, rfl⟩
  have hx : Ext w W := by subst hW; go_grown
  have k0 : W.cell? ⟨w.heap.size, 0, none⟩ = some (.bool false) := by subst hW; go_simp
  have k1 : W.cell? ⟨w.heap.size, 1, none⟩ = some (.int .i64 p) := by subst hW; go_simp
  have k2 : W.cell? ⟨w.heap.size, 2, none⟩ = some (.slice a1 0 c1) := by subst hW; go_simp
  have k3 : W.cell? ⟨w.heap.size, 3, none⟩ = some (.int .i64 c) := by subst hW; go_simp
  have k4 : W.cell? ⟨w.heap.size, 4, none⟩ = some (.slice a2 0 c2) := by subst hW; go_simp
  have q0 : W.cell? ⟨w.heap.size + 1, 0, none⟩ = some (.bool false) := by subst hW; go_simp
  have q1 : W.cell? ⟨w.heap.size + 1, 1, none⟩ = some (.int .i64 x) := by subst hW; go_simp
  have q2 : W.cell? ⟨w.heap.size + 1, 2, none⟩ = some (.slice a3 0 c3) := by subst hW; go_simp
  have q3 : W.cell? ⟨w.heap.size + 1, 3, none⟩ = some (.int .i64 c) := by subst hW; go_simp
  have q4 : W.cell? ⟨w.heap.size + 1, 4, none⟩ = some (.slice a4 0 c4) := by subst hW; go_simp
  have hMW := h.ext hx
  have hp0 : (p == 0) = false := by rw [beq_eq_false_iff_ne]; omega
  have hc0 : (c == 0) = false := by rw [beq_eq_false_iff_ne]; omega
  have H0 := Lib.hid (atom_no W w.heap.size p c _ _ hp0 hc0 k1 k2 k3 k4)
  have H1 := Lib.hid (atom_no W (w.heap.size + 1) x c _ _ hx0 hc0 q1 q2 q3 q4)
  have H2 := Lib.hid (mark_any W B g bm #[] [] v hMW)
  have hBW : B ≤ W.heap.size := Nat.le_trans hBw hx.size
  have H3 := Lib.hid (term_bind W B g bm hBW v hMW p x hp1 hp2 hx1 hx2 a1 a3 c1 c3)
  have Hw := Lib.hid h
  clear h hMW
  have hnot : ∀ j, w.heap.size ≤ j → j ∉ [g, bm] ++ ownL v := by
    intro j hj hm
    have hg := cell_lt Hw.out.at0
    obtain ⟨ck, hmp⟩ := Hw.out.map
    have hb := map_lt hmp
    simp only at hg
    rcases List.mem_append.1 hm with h1 | h1
    · simp at h1; omega
    · unfold ownL at h1
      split at h1
      · rename_i k hk
        have := (Hw.out.row.own_ge hk).2
        simp at h1; omega
      · simp at h1
  go_enter Tryd.func107, Tryd.ntmps107
  go_wp2_with fail
  rw [← hW]
  clear hW
  go_wp2_with (first
    | (go_at_call 119; with_reducible refine (H0.out).mono ?_; rintro e w' ⟨rfl, rfl⟩)
    | (go_at_call 119; with_reducible refine (H1.out).mono ?_; rintro e w' ⟨rfl, rfl⟩)
    | (go_at_call 82; with_reducible refine (H2.out).mono ?_; rintro e w' ⟨rfl, rfl⟩))
  go_wp2_with ((go_at_call 180; with_reducible refine (H3.out).mono ?_); rintro e w3 ⟨rfl, ⟨v3, val, born, hM3, ho3⟩, hc3⟩; have r3 := hc3.cell k3 (hnot _ (by simp)); have r4 := hc3.cell k4 (hnot _ (by simp)); have r5 := hc3.cell q3 (hnot _ (by simp)); have r6 := hc3.cell q4 (hnot _ (by simp)))
  have T2 := Lib.hid (term_eq w3 B g bm _ _ v3 hM3 (by simp) c c (by omega) hc2 (by omega) hc2 (by simp) a2 a4 c2 c4)
  go_wp2_with ((go_at_call 180; with_reducible refine (T2.out).mono ?_); rintro e w4 ⟨rfl, hM4, hc4⟩)
  go_ret
  refine ⟨rfl, ⟨v3, val, born, hM4, ?_⟩, ((Chg.of_ext hx).trans hc3).trans (hc4.mono (by simp))⟩
  rcases ho3 with h1 | h1
  · exact .inl h1
  · right
    intro k hk
    exact Nat.le_trans hx.size (h1 k hk)
end Go.Proofs.YtoidhdcbemmfhaaDoor
