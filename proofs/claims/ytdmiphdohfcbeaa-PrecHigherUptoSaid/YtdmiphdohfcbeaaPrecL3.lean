/- The law PrecHigher over an order and numbers, given what prec.Make returns. -/
import Derived.Test.YtdmiphdohfcbeaaPrecW1
import Derived.Test.YtdmiphdohfcbeaaPrecL2
import Derived.Test.YtdmiphdohfcbeaaStepX
import Derived.Deep.RegionHeld3
namespace Go.Proofs.Ytdmiphdohfcbeaa
open Go.ChangeShapes Go.WideShapes Go.ChangeAt Go.RowKit
attribute [local go_sem] undef

set_option maxHeartbeats 1000000 in
set_option maxRecDepth 100000 in
theorem precHigher_any (HMK : MakeSays) (o : Ord) (w : World) (v : Value) (h : IsOrd w v o) (hp : o.prec.length ≤ 1048576) (f g : Int) (hf : -9223372036854775808 ≤ f ∧ f ≤ 9223372036854775807) (hg : -9223372036854775808 ≤ g ∧ g ≤ 9223372036854775807) :
    Calls Try.prog 6 #[v, .int .i64 f, .int .i64 g] w fun e w' => e = .returned (.bool true) ∧ Ext w w' := by
  obtain ⟨lpo, prec, wts, var⟩ := o
  have hv := h
  obtain ⟨pa, pc, wa, wc, rfl, -⟩ := hv
  simp only at *
  obtain ⟨W, hW⟩ : ∃ W, W = w.alloc (.cells #[.bool lpo, .slice pa prec.length pc, .slice wa wts.length wc, .int .i64 var] 27) := ⟨_, rfl⟩
  have hx : Ext w W := by subst hW; go_grown
  have k0 : W.cell? ⟨w.heap.size, 0, none⟩ = some (.bool lpo) := by subst hW; go_simp
  have k1 : W.cell? ⟨w.heap.size, 1, none⟩ = some (.slice pa prec.length pc) := by subst hW; go_simp
  have k2 : W.cell? ⟨w.heap.size, 2, none⟩ = some (.slice wa wts.length wc) := by subst hW; go_simp
  have k3 : W.cell? ⟨w.heap.size, 3, none⟩ = some (.int .i64 var) := by subst hW; go_simp
  have h1 := fun w' (hx' : Ext W w') => higher_any _ w' _ (h.ext (hx.trans hx')) hp f g hf hg
  have h2 := fun w' (hx' : Ext W w') => higher_any _ w' _ (h.ext (hx.trans hx')) hp g f hg hf
  have h3 := fun w' (hx' : Ext W w') => higher_any _ w' _ (h.ext (hx.trans hx')) hp f f hf hf
  have h4 := fun w' (hx' : Ext W w') => refHigher_any _ w' _ (h.ext (hx.trans hx')) hp f g hf hg
  simp only at h1 h2 h3 h4
  rw [hiAbove_irrefl] at h3
  have hasy := hiAbove_asymm prec f g
  have Hw := Lib.hid (wakes07_any HMK)
  generalize hiAbove prec f g = B1 at h1 h4 hasy
  generalize hiAbove prec g f = B2 at h2 hasy
  have H1 := Lib.hid h1
  have H2 := Lib.hid h2
  have H3 := Lib.hid h3
  have H4 := Lib.hid h4
  clear h1 h2 h3 h4 h HMK
  have hcases : (B1 = true ∧ B2 = false) ∨ B1 = false := by cases B1 <;> cases B2 <;> simp_all
  clear hasy
  rcases hcases with ⟨rfl, rfl⟩ | rfl
  all_goals
    go_enter Try.func6, Try.ntmps6
    go_wp2_with fail
    rw [← hW]; clear hW
    refine wp_region_noPanic ?_
    refine wp_region_X (by kernel_rfl) (by kernel_rfl) (fun _ _ _ _ _ h => h) ?_
    iterate 33 (first | (refine wpX_skip (by rfl) ?_; simp only [Act.put, List.setIfInBounds_toArray, List.set_cons_zero, List.set_cons_succ]) | (apply wpX_want; (focus rfl); (focus (intro v1 hv; have g0 := hv.cell k0; have g1 := hv.cell k1; have g2 := hv.cell k2; have g3 := hv.cell k3; go_simp; first | done | rfl | exact ⟨rfl, Below.refl _ _⟩ | exact Below.refl _ _ | (with_reducible exact H1.out _ hv) | (with_reducible exact H2.out _ hv) | (with_reducible exact H3.out _ hv) | (with_reducible exact H4.out _ hv) | (with_reducible exact Hw.out _))); simp only [Act.put, List.setIfInBounds_toArray, List.set_cons_zero, List.set_cons_succ]))
    refine wpX_nil fun w' hE => NoPanic.normal ?_
    go_wp2_with fail
    go_ret
    exact ⟨rfl, hx.trans hE⟩
end Go.Proofs.Ytdmiphdohfcbeaa
