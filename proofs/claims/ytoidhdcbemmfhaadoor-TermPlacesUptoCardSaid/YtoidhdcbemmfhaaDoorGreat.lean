/- What syllogismlaw02.great returns. -/
import Derived.Test.YtoidhdcbemmfhaaDoorSize
namespace Go.Proofs.YtoidhdcbemmfhaaDoor
open Go.ChangeShapes Go.WideShapes Go.ChangeAt Go.RowKit

def Tm.great (t : Tm) : Bool := decide (1000 < t.size) || decide (200 < t.depth)

set_option maxHeartbeats 1000000 in
set_option maxRecDepth 100000 in
theorem great_any (t : Tm) (w : World) (x s : Value) (ht : IsTm w x s t) (hs : t.size ≤ 2097152) :
    Calls Tryd.prog 19 #[.agg #[x, s]] w fun e w' => e = .returned (.bool t.great) ∧ Ext w w' := by
  obtain ⟨W, hW⟩ : ∃ W, W = w.alloc (.cells #[x, s] 27) := ⟨_, rfl⟩
  have hx : Ext w W := by subst hW; go_grown
  have k0 : W.cell? ⟨w.heap.size, 0, none⟩ = some x := by subst hW; go_simp
  have k1 : W.cell? ⟨w.heap.size, 1, none⟩ = some s := by subst hW; go_simp
  have h1 := refSize_any t W _ _ (ht.ext hx) hs
  have h2 := fun w' (hx' : Ext W w') => refDepth_any t w' _ _ (ht.ext (Ext.trans hx hx')) hs
  have H1 := Lib.hid h1; clear h1
  have H2 := Lib.hid h2; clear h2
  by_cases c1 : 1000 < t.size
  · have hg : t.great = true := by unfold Tm.great; rw [decide_eq_true c1]; rfl
    rw [hg]
    have c1' : (1000 : Int) < t.size := by omega
    go_enter Tryd.func19, Tryd.ntmps19
    go_wp2_with ((go_at_call 40; rw [← hW]; refine (H1.out).mono ?_; rintro e w1 ⟨rfl, hx1⟩))
    go_ret
    exact ⟨rfl, Ext.trans hx hx1⟩
  · have hg : t.great = decide (200 < t.depth) := by unfold Tm.great; rw [decide_eq_false c1]; rfl
    rw [hg]
    have c1' : ¬ (1000 : Int) < t.size := by omega
    have e : decide ((200 : Int) < (t.depth : Int)) = decide (200 < t.depth) := by
      by_cases h : 200 < t.depth
      · rw [decide_eq_true h]; exact decide_eq_true (by omega)
      · rw [decide_eq_false h]; exact decide_eq_false (by omega)
    have He := Lib.hid e; clear e hg
    go_enter Tryd.func19, Tryd.ntmps19
    go_wp2_with (first
      | (go_at_call 40; rw [← hW]; refine (H1.out).mono ?_; rintro e w1 ⟨rfl, hx1⟩
         have d0 := hx1.cell k0
         have d1 := hx1.cell k1)
      | (go_at_call 42; refine (H2.out _ hx1).mono ?_; rintro e w2 ⟨rfl, hx2⟩))
    go_ret
    refine ⟨ret_bool ?_, Ext.trans hx (Ext.trans hx1 hx2)⟩
    have e1 : decide ((1000 : Int) < (t.size : Int)) = false := decide_eq_false (by omega)
    rw [e1, He.out]
    rfl
end Go.Proofs.YtoidhdcbemmfhaaDoor
