/- What (*Matcher).Lit does with two literals of a variable and a constant each; what clause.Turn returns; the innermost call of Alike's function. -/
import Derived.Test.YtoidhdcbemmfhaaDoorMat5
import Derived.Test.YtoidhdcbemmfhaaDoorCl2
namespace Go.Proofs.YtoidhdcbemmfhaaDoor
open Go.ChangeShapes Go.WideShapes Go.ChangeAt Go.RowKit

set_option maxHeartbeats 1000000 in
set_option maxRecDepth 100000 in
theorem Lit_fail (w : World) (B g bm : Nat) (hBw : B ≤ w.heap.size) (v : Value) (h : Mt w B g bm #[] [] v) (p c x d : Int) (hp1 : -9223372036854775808 ≤ p) (hp2 : p < 0) (hc1 : 0 < c) (hc2 : c ≤ 9223372036854775807) (hx1 : -9223372036854775808 ≤ x) (hx2 : x ≤ 9223372036854775807) (hd1 : -9223372036854775808 ≤ d) (hd2 : d ≤ 9223372036854775807) (hx0 : (x == 0) = false) (hd0 : (d == 0) = false) (hcd : (c != d) = true) (a1 a2 a3 a4 : Option Addr) (c1 c2 c3 c4 : Nat) :
    Calls Tryd.prog 83 #[.pointer (some ⟨g, 0, none⟩), .agg #[.bool false, .int .i64 p, .slice a1 0 c1, .int .i64 c, .slice a2 0 c2], .agg #[.bool false, .int .i64 x, .slice a3 0 c3, .int .i64 d, .slice a4 0 c4], .bool false] w fun e w' => e = .returned (.bool false) ∧
      (∃ v', Mt w' B g bm #[] [] v' ∧ (v'.ownBlock = v.ownBlock ∨ ∀ k, v'.ownBlock = some k → w.heap.size ≤ k)) ∧ Chg ([g, bm] ++ ownL v) w w' := by
  obtain ⟨W, hW⟩ : ∃ W, W = ((w.alloc (.cells #[.bool false, .int .i64 p, .slice a1 0 c1, .int .i64 c, .slice a2 0 c2] 65)).alloc (.cells #[.bool false, .int .i64 x, .slice a3 0 c3, .int .i64 d, .slice a4 0 c4] 65)) := ⟨_, rfl⟩
  have hx : Ext w W := by subst hW; go_grown
  have k := cells5 w (.bool false) (.int .i64 p) (.slice a1 0 c1) (.int .i64 c) (.slice a2 0 c2) 65
  have hA := ext_alloc (w.alloc (.cells #[.bool false, .int .i64 p, .slice a1 0 c1, .int .i64 c, .slice a2 0 c2] 65)) (.cells #[.bool false, .int .i64 x, .slice a3 0 c3, .int .i64 d, .slice a4 0 c4] 65)
  rw [← hW] at hA
  obtain ⟨k0, k1, k2, k3, k4⟩ := k
  replace k0 := hA.cell k0
  replace k1 := hA.cell k1
  replace k2 := hA.cell k2
  replace k3 := hA.cell k3
  replace k4 := hA.cell k4
  have q0 : W.cell? ⟨w.heap.size + 1, 0, none⟩ = some (.bool false) := by subst hW; go_simp
  have q1 : W.cell? ⟨w.heap.size + 1, 1, none⟩ = some (.int .i64 x) := by subst hW; go_simp
  have q2 : W.cell? ⟨w.heap.size + 1, 2, none⟩ = some (.slice a3 0 c3) := by subst hW; go_simp
  have q3 : W.cell? ⟨w.heap.size + 1, 3, none⟩ = some (.int .i64 d) := by subst hW; go_simp
  have q4 : W.cell? ⟨w.heap.size + 1, 4, none⟩ = some (.slice a4 0 c4) := by subst hW; go_simp
  have H := Lib.hid (lit_fail W B g bm (Nat.le_trans hBw hx.size) v (h.ext hx) p c x d hp1 hp2 hc1 hc2 hx1 hx2 hd1 hd2 hx0 hd0 hcd a1 a2 a3 a4 c1 c2 c3 c4)
  clear h hA
  go_enter Tryd.func83, Tryd.ntmps83
  go_wp2_with fail
  rw [← hW]
  clear hW
  go_wp2_with ((go_at_call 107; with_reducible refine (H.out).mono ?_); rintro e w3 ⟨rfl, ⟨v3, hM3, ho3⟩, hc3⟩)
  go_ret
  refine ⟨rfl, ⟨v3, hM3, ?_⟩, (Chg.of_ext hx).trans hc3⟩
  rcases ho3 with h1 | h1
  · exact .inl h1
  · right
    intro k hk
    exact Nat.le_trans hx.size (h1 k hk)

set_option maxHeartbeats 1000000 in
set_option maxRecDepth 100000 in
theorem Lit_ok (w : World) (B g bm : Nat) (hBw : B ≤ w.heap.size) (v : Value) (h : Mt w B g bm #[] [] v) (p c x : Int) (hp1 : -9223372036854775808 ≤ p) (hp2 : p < 0) (hc1 : 0 < c) (hc2 : c ≤ 9223372036854775807) (hx1 : -9223372036854775808 ≤ x) (hx2 : x ≤ 9223372036854775807) (hx0 : (x == 0) = false) (a1 a2 a3 a4 : Option Addr) (c1 c2 c3 c4 : Nat) :
    Calls Tryd.prog 83 #[.pointer (some ⟨g, 0, none⟩), .agg #[.bool false, .int .i64 p, .slice a1 0 c1, .int .i64 c, .slice a2 0 c2], .agg #[.bool false, .int .i64 x, .slice a3 0 c3, .int .i64 c, .slice a4 0 c4], .bool false] w fun e w' => e = .returned (.bool true) ∧
      (∃ v' val born, Mt w' B g bm #[⟨.int .i64 (-1 - p), val, born⟩] [-1 - p] v' ∧ (v'.ownBlock = v.ownBlock ∨ ∀ k, v'.ownBlock = some k → w.heap.size ≤ k)) ∧ Chg ([g, bm] ++ ownL v) w w' := by
  obtain ⟨W, hW⟩ : ∃ W, W = ((w.alloc (.cells #[.bool false, .int .i64 p, .slice a1 0 c1, .int .i64 c, .slice a2 0 c2] 65)).alloc (.cells #[.bool false, .int .i64 x, .slice a3 0 c3, .int .i64 c, .slice a4 0 c4] 65)) := ⟨_, rfl⟩
  have hx : Ext w W := by subst hW; go_grown
  have k := cells5 w (.bool false) (.int .i64 p) (.slice a1 0 c1) (.int .i64 c) (.slice a2 0 c2) 65
  have hA := ext_alloc (w.alloc (.cells #[.bool false, .int .i64 p, .slice a1 0 c1, .int .i64 c, .slice a2 0 c2] 65)) (.cells #[.bool false, .int .i64 x, .slice a3 0 c3, .int .i64 c, .slice a4 0 c4] 65)
  rw [← hW] at hA
  obtain ⟨k0, k1, k2, k3, k4⟩ := k
  replace k0 := hA.cell k0
  replace k1 := hA.cell k1
  replace k2 := hA.cell k2
  replace k3 := hA.cell k3
  replace k4 := hA.cell k4
  have q0 : W.cell? ⟨w.heap.size + 1, 0, none⟩ = some (.bool false) := by subst hW; go_simp
  have q1 : W.cell? ⟨w.heap.size + 1, 1, none⟩ = some (.int .i64 x) := by subst hW; go_simp
  have q2 : W.cell? ⟨w.heap.size + 1, 2, none⟩ = some (.slice a3 0 c3) := by subst hW; go_simp
  have q3 : W.cell? ⟨w.heap.size + 1, 3, none⟩ = some (.int .i64 c) := by subst hW; go_simp
  have q4 : W.cell? ⟨w.heap.size + 1, 4, none⟩ = some (.slice a4 0 c4) := by subst hW; go_simp
  have H := Lib.hid (lit_ok W B g bm (Nat.le_trans hBw hx.size) v (h.ext hx) p c x hp1 hp2 hc1 hc2 hx1 hx2 hx0 a1 a2 a3 a4 c1 c2 c3 c4)
  clear h hA
  go_enter Tryd.func83, Tryd.ntmps83
  go_wp2_with fail
  rw [← hW]
  clear hW
  go_wp2_with ((go_at_call 107; with_reducible refine (H.out).mono ?_); rintro e w3 ⟨rfl, ⟨v3, val, born, hM3, ho3⟩, hc3⟩)
  go_ret
  refine ⟨rfl, ⟨v3, val, born, hM3, ?_⟩, (Chg.of_ext hx).trans hc3⟩
  rcases ho3 with h1 | h1
  · exact .inl h1
  · right
    intro k hk
    exact Nat.le_trans hx.size (h1 k hk)

set_option maxHeartbeats 400000 in
set_option maxRecDepth 100000 in
theorem turn_leaf (w : World) (n : Bool) (p c : Int) (a1 a2 : Option Addr) (c1 c2 l1 l2 : Nat) :
    Calls Tryd.prog 81 #[.agg #[.bool n, .int .i64 p, .slice a1 l1 c1, .int .i64 c, .slice a2 l2 c2]] w fun e w' => e = .returned (.agg #[.bool n, .int .i64 c, .slice a2 l2 c2, .int .i64 p, .slice a1 l1 c1]) ∧ Ext w w' := by
  obtain ⟨W, hW⟩ : ∃ W, W = ((w.alloc (.cells #[.bool n, .int .i64 p, .slice a1 l1 c1, .int .i64 c, .slice a2 l2 c2] 65)).alloc (.cells #[.bool n, .int .i64 c, .slice a2 l2 c2, .int .i64 p, .slice a1 l1 c1] 65)) := ⟨_, rfl⟩
  have hx : Ext w W := by subst hW; go_grown
  have q0 : W.cell? ⟨w.heap.size + 1, 0, none⟩ = some (.bool n) := by subst hW; go_simp
  have q1 : W.cell? ⟨w.heap.size + 1, 1, none⟩ = some (.int .i64 c) := by subst hW; go_simp
  have q2 : W.cell? ⟨w.heap.size + 1, 2, none⟩ = some (.slice a2 l2 c2) := by subst hW; go_simp
  have q3 : W.cell? ⟨w.heap.size + 1, 3, none⟩ = some (.int .i64 p) := by subst hW; go_simp
  have q4 : W.cell? ⟨w.heap.size + 1, 4, none⟩ = some (.slice a1 l1 c1) := by subst hW; go_simp
  go_enter Tryd.func81, Tryd.ntmps81
  go_wp2_with fail
  rw [← hW]
  clear hW
  refine bodyPost_ret (v := .agg #[.bool n, .int .i64 c, .slice a2 l2 c2, .int .i64 p, .slice a1 l1 c1]) (by simp [results, Tryd.results81, go_sem, q0, q1, q2, q3, q4]) rfl ?_
  exact ⟨rfl, hx⟩

set_option maxHeartbeats 400000 in
set_option maxRecDepth 100000 in
theorem from_end (w : World) (A : Nat) (a : Option Addr) (n c : Nat) (h : w.cell? ⟨A, 0, none⟩ = some (.slice a n c)) (x2 x3 x4 x5 x6 x7 : Value) :
    Calls Tryd.prog 80 #[.int .i64 n, .pointer (some ⟨A, 0, none⟩), x2, x3, x4, x5, x6, x7] w fun e w' => e = .returned (.bool true) ∧ w' = w := by
  go_enter Tryd.func80, Tryd.ntmps80
  go_wp2_with fail
  go_ret
  exact ⟨rfl, rfl⟩
end Go.Proofs.YtoidhdcbemmfhaaDoor
