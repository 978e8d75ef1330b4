/- What the reference's Make returns. Conditions: at most 100 clauses; lengths and sizes fit. -/
import Derived.Test.YtdmiphdohfcbeaaPrecO
import Derived.Test.YtdmiphdohfcbeaaPrecR2
import Derived.Test.YtdmiphdohfcbeaaPrecR5
namespace Go.Proofs.Ytdmiphdohfcbeaa
open Go.ChangeShapes Go.WideShapes Go.ChangeAt Go.RowKit

set_option maxHeartbeats 4000000 in
set_option maxRecDepth 100000 in
theorem refMake_bad (l : List Sy) (hl : l.length ≤ 1048576) (cs : List (List Lt)) (hcl : cs.length ≤ 100) (hcs : sizedCls cs) (y : Way) (w : World) (a ca : Option Addr) (n cn : Nat) (hsy : IsSyms w a l) (hc : IsCls w ca cs)
    (hm : makeErr l cs y ≠ 0) :
    Calls Try.prog 12 #[.agg #[.slice a l.length n], .slice ca cs.length cn, y.val] w fun e w' => (∃ v, e = .returned v ∧ OrderGiven w' v l cs y) ∧ Ext w w' := by
  obtain ⟨lpo, prec, weight, top⟩ := y
  unfold Way.val
  obtain ⟨W, hW⟩ : ∃ W, W = ((w.alloc (.cells #[.slice a l.length n] 24)).alloc (.cells #[.bool lpo, .int .i64 prec, .int .i64 weight, .bool top] 37)).alloc (.cells #[.bool false, .slice none 0 0, .slice none 0 0, .int .i64 0] 27) := ⟨_, rfl⟩
  have hx : Ext w W := by subst hW; go_grown
  have hsW : W.heap.size = w.heap.size + 3 := by subst hW; simp
  have k1 : W.cell? ⟨w.heap.size + 1, 1, none⟩ = some (.int .i64 prec) := by subst hW; go_simp
  have k2 : W.cell? ⟨w.heap.size + 1, 2, none⟩ = some (.int .i64 weight) := by subst hW; go_simp
  have j0 : W.cell? ⟨w.heap.size + 1 + 1, 0, none⟩ = some (.bool false) := by subst hW; go_simp
  have j1 : W.cell? ⟨w.heap.size + 1 + 1, 1, none⟩ = some (.slice none 0 0) := by subst hW; go_simp
  have j2 : W.cell? ⟨w.heap.size + 1 + 1, 2, none⟩ = some (.slice none 0 0) := by subst hW; go_simp
  have j3 : W.cell? ⟨w.heap.size + 1 + 1, 3, none⟩ = some (.int .i64 0) := by subst hW; go_simp
  have f0 : W.frozen? ⟨w.heap.size + 1 + 1, 0, none⟩ = false := by subst hW; go_simp
  have f1 : W.frozen? ⟨w.heap.size + 1 + 1, 1, none⟩ = false := by subst hW; go_simp
  have f2 : W.frozen? ⟨w.heap.size + 1 + 1, 2, none⟩ = false := by subst hW; go_simp
  have f3 : W.frozen? ⟨w.heap.size + 1 + 1, 3, none⟩ = false := by subst hW; go_simp
  have HC := Lib.hid (refCounts_any l hl cs hcl hcs W a ca n cn (hsy.ext hx) (hc.ext hx))
  have HM := Lib.hid hm
  have hcases : countsErr l cs = 2 ∨ (countsErr l cs = 0 ∧ (decide (prec < 0) = true ∨ (decide (prec < 0) = false ∧ decide (4 < prec) = true) ∨ (decide (prec < 0) = false ∧ decide (4 < prec) = false ∧ decide (weight < 0) = true) ∨ (decide (prec < 0) = false ∧ decide (4 < prec) = false ∧ decide (weight < 0) = false ∧ decide (3 < weight) = true))) := by
    simp only [decide_eq_true_eq, decide_eq_false_iff_not]
    unfold makeErr at hm
    have hc2 : countsErr l cs = 0 ∨ countsErr l cs = 2 := by unfold countsErr; split <;> simp
    rcases hc2 with h | h
    · refine .inr ⟨h, ?_⟩
      have hn : ¬ (countsErr l cs = 0 ∧ 0 ≤ prec ∧ prec ≤ 4 ∧ 0 ≤ weight ∧ weight ≤ 3) := fun h' => hm (if_pos h')
      omega
    · exact .inl h
  clear hm hsy hc
  have HG := Lib.hid (fun (w' : World) => (show OrderGiven w' (.tuple #[.agg #[.bool false, .slice none 0 0, .slice none 0 0, .int .i64 0], .int .i64 2]) l cs ⟨lpo, prec, weight, top⟩ by
    have h2 : makeErr l cs ⟨lpo, prec, weight, top⟩ = 2 := by
      have := HM.out
      unfold makeErr at this ⊢
      split
      · rename_i h; rw [if_pos h] at this; exact absurd rfl this
      · rfl
    refine ⟨.agg #[.bool false, .slice none 0 0, .slice none 0 0, .int .i64 0], by rw [h2], ?_⟩
    unfold madeOrd; rw [if_neg HM.out]; exact IsOrd.zero w'))
  rcases hcases with h2 | ⟨h0, hcases⟩
  · have h2e : ¬ countsErr l cs = 0 := by omega
    have H0 := Lib.hid (And.intro h2 h2e); clear h2 h2e
    go_enter Try.func12, Try.ntmps12
    go_wp2_with ((rw [← hW]; clear hW; go_at_call 14; refine (HC.out).mono ?_; rintro e w1 ⟨⟨v, rfl, hv⟩, hx1⟩; obtain rfl := (hv.resolve_right (fun h => H0.out.2 h.1)).2; clear hv; replace k1 := hx1.cell k1; replace k2 := hx1.cell k2; replace f0 := hx1.frozen j0 f0; replace f1 := hx1.frozen j1 f1; replace f2 := hx1.frozen j2 f2; replace f3 := hx1.frozen j3 f3; replace j0 := hx1.cell j0; replace j1 := hx1.cell j1; replace j2 := hx1.cell j2; replace j3 := hx1.cell j3))
    obtain ⟨c0, c1, c2, c3, hch⟩ := set4 w1 (w.heap.size + 1 + 1) (.bool false) (.slice none 0 0) (.slice none 0 0) (.int .i64 0) _ _ _ _ j0 j1 j2 j3
    refine bodyPost_ret (v := .tuple #[.agg #[.bool false, .slice none 0 0, .slice none 0 0, .int .i64 0], .int .i64 2]) (by simp [results, Try.results12, go_sem, c0, c1, c2, c3]) rfl ?_
    exact ⟨⟨_, rfl, HG.out _⟩, Chg.ext (Ext.trans hx hx1) hch (by simp <;> omega)⟩
  have h0e : ¬ countsErr l cs = 2 := by omega
  have H0 := Lib.hid (And.intro h0 h0e); clear h0 h0e
  rcases hcases with h1 | ⟨h1, h2⟩ | ⟨h1, h2, h3⟩ | ⟨h1, h2, h3, h4⟩
  all_goals
    go_enter Try.func12, Try.ntmps12
    go_wp2_with ((rw [← hW]; clear hW; go_at_call 14; refine (HC.out).mono ?_; rintro e w1 ⟨⟨v, rfl, hv⟩, hx1⟩; obtain ⟨nb, hnb1, hnb2, rfl, hN⟩ := (hv.resolve_left (fun h => H0.out.2 h.1)).2; clear hv hN; replace k1 := hx1.cell k1; replace k2 := hx1.cell k2; replace f0 := hx1.frozen j0 f0; replace f1 := hx1.frozen j1 f1; replace f2 := hx1.frozen j2 f2; replace f3 := hx1.frozen j3 f3; replace j0 := hx1.cell j0; replace j1 := hx1.cell j1; replace j2 := hx1.cell j2; replace j3 := hx1.cell j3))
    obtain ⟨c0, c1, c2, c3, hch⟩ := set4 w1 (w.heap.size + 1 + 1) (.bool false) (.slice none 0 0) (.slice none 0 0) (.int .i64 0) _ _ _ _ j0 j1 j2 j3
    refine bodyPost_ret (v := .tuple #[.agg #[.bool false, .slice none 0 0, .slice none 0 0, .int .i64 0], .int .i64 2]) (by simp [results, Try.results12, go_sem, c0, c1, c2, c3]) rfl ?_
    exact ⟨⟨_, rfl, HG.out _⟩, Chg.ext (Ext.trans hx hx1) hch (by simp <;> omega)⟩
end Go.Proofs.Ytdmiphdohfcbeaa
