/- The law TermOrder over three terms that are read from memory. -/
import Derived.Test.YtoidhdcbemmfhaaDoorOrder
import Derived.Test.YtoidhdcbemmfhaaDoorWakes
namespace Go.Proofs.YtoidhdcbemmfhaaDoor
open Go.ChangeShapes Go.WideShapes Go.ChangeAt Go.RowKit

set_option maxHeartbeats 1000000 in
set_option maxRecDepth 100000 in
theorem order_walk (X Y Z : Int) (S : Bool) (w : World) (x0 s0 x1 s1 x2 s2 : Value)
    (hX : X = -1 ∨ X = 0 ∨ X = 1) (hY : Y = -1 ∨ Y = 0 ∨ Y = 1) (hZ : Z = -1 ∨ Z = 0 ∨ Z = 1) (hS : S = decide (X = 0)) (h1 : X ≤ 0 → Y ≤ 0 → Z ≤ 0) (h2 : X < 0 → Y ≤ 0 → Z < 0)
    (c01 : ∀ w', Ext w w' → Calls Tryd.prog 17 #[.agg #[x0, s0], .agg #[x1, s1]] w' fun e w'' => e = .returned (.int .i64 X) ∧ Ext w' w'')
    (c12 : ∀ w', Ext w w' → Calls Tryd.prog 17 #[.agg #[x1, s1], .agg #[x2, s2]] w' fun e w'' => e = .returned (.int .i64 Y) ∧ Ext w' w'')
    (c02 : ∀ w', Ext w w' → Calls Tryd.prog 17 #[.agg #[x0, s0], .agg #[x2, s2]] w' fun e w'' => e = .returned (.int .i64 Z) ∧ Ext w' w'')
    (c10 : ∀ w', Ext w w' → Calls Tryd.prog 17 #[.agg #[x1, s1], .agg #[x0, s0]] w' fun e w'' => e = .returned (.int .i64 (-X)) ∧ Ext w' w'')
    (c00 : ∀ w', Ext w w' → Calls Tryd.prog 17 #[.agg #[x0, s0], .agg #[x0, s0]] w' fun e w'' => e = .returned (.int .i64 0) ∧ Ext w' w'')
    (cs : ∀ w', Ext w w' → Calls Tryd.prog 18 #[.agg #[x0, s0], .agg #[x1, s1]] w' fun e w'' => e = .returned (.bool S) ∧ Ext w' w'') :
    Calls Tryd.prog 4 #[.agg #[x0, s0], .agg #[x1, s1], .agg #[x2, s2]] w fun e w' => e = .returned (.bool true) ∧ Ext w w' := by
  subst hS
  have C01 := Lib.hid c01
  have C12 := Lib.hid c12
  have C02 := Lib.hid c02
  have C10 := Lib.hid c10
  have C00 := Lib.hid c00
  have Cs := Lib.hid cs
  have Hw := Lib.hid wakes_any
  clear c01 c12 c02 c10 c00 cs
  have hx : Ext w (((w.alloc (.cells #[x0, s0] 27)).alloc (.cells #[x1, s1] 27)).alloc (.cells #[x2, s2] 27)) := by go_grown
  obtain ⟨W, hW⟩ : ∃ W, W = (((w.alloc (.cells #[x0, s0] 27)).alloc (.cells #[x1, s1] 27)).alloc (.cells #[x2, s2] 27)) := ⟨_, rfl⟩
  rw [← hW] at hx
  have k0 : W.cell? ⟨w.heap.size, 0, none⟩ = some x0 := by subst hW; go_simp
  have k1 : W.cell? ⟨w.heap.size, 1, none⟩ = some s0 := by subst hW; go_simp
  have k2 : W.cell? ⟨w.heap.size + 1, 0, none⟩ = some x1 := by subst hW; go_simp
  have k3 : W.cell? ⟨w.heap.size + 1, 1, none⟩ = some s1 := by subst hW; go_simp
  have k4 : W.cell? ⟨w.heap.size + 1 + 1, 0, none⟩ = some x2 := by subst hW; go_simp
  have k5 : W.cell? ⟨w.heap.size + 1 + 1, 1, none⟩ = some s2 := by subst hW; go_simp
  have hA := Ext.drew hx
  have Hz := Lib.hid (And.intro h1 h2)
  clear h1 h2
  go_enter Tryd.func4, Tryd.ntmps4
  go_wp2_with fail
  rw [← hW]; clear hW
  go_region_held3 (fun w' => w'.cell? ⟨w.heap.size, 0, none⟩ = some x0 ∧ w'.cell? ⟨w.heap.size, 1, none⟩ = some s0 ∧ w'.cell? ⟨w.heap.size + 1, 0, none⟩ = some x1 ∧ w'.cell? ⟨w.heap.size + 1, 1, none⟩ = some s1 ∧ w'.cell? ⟨w.heap.size + 1 + 1, 0, none⟩ = some x2 ∧ w'.cell? ⟨w.heap.size + 1 + 1, 1, none⟩ = some s2 ∧ Ext w w')
    (((try go_split_ands); refine ⟨?_, ?_, ?_, ?_, ?_, ?_, ?_⟩ <;> first | (with_reducible assumption) | exact Below.drew (Below.refl _ _) | exact Ext.drew (by assumption) | exact Ext.drew (ext_alloc _ _) | (apply Ext.cell hw'; (with_reducible assumption)) | exact Ext.trans (by assumption) hw' | exact Ext.frozen hw' (by (with_reducible assumption)) (by (with_reducible assumption)) | (go_keep; done)))
    ((first
      | (go_at_call 17; go_split_ands; with_reducible refine (C01.out _ (by (with_reducible assumption))).mono ?_; rintro e w' ⟨rfl, hw'⟩)
      | (go_at_call 17; go_split_ands; with_reducible refine (C12.out _ (by (with_reducible assumption))).mono ?_; rintro e w' ⟨rfl, hw'⟩)
      | (go_at_call 17; go_split_ands; with_reducible refine (C02.out _ (by (with_reducible assumption))).mono ?_; rintro e w' ⟨rfl, hw'⟩)))
  go_split_ands
  have b0 : w'.cell? ⟨w.heap.size, 0, none⟩ = some x0 := by with_reducible assumption
  have b1 : w'.cell? ⟨w.heap.size, 1, none⟩ = some s0 := by with_reducible assumption
  have b2 : w'.cell? ⟨w.heap.size + 1, 0, none⟩ = some x1 := by with_reducible assumption
  have b3 : w'.cell? ⟨w.heap.size + 1, 1, none⟩ = some s1 := by with_reducible assumption
  have hE : Ext w w' := by with_reducible assumption
  clear C01 C12 C02 k0 k1 k2 k3 k4 k5 hA hx
  rcases hX with rfl | rfl | rfl <;> rcases hY with rfl | rfl | rfl <;> rcases hZ with rfl | rfl | rfl <;> first
    | (exfalso; obtain ⟨g1, g2⟩ := Hz.out; clear hE b0 b1 b2 b3 C10 C00 Cs Hw Hz; omega)
    | (go_wp2_with (first
        | (go_at_call 17; with_reducible refine (C10.out _ hE).mono ?_; rintro e w1 ⟨rfl, hx1⟩
           have d0 := hx1.cell b0
           have d1 := hx1.cell b1
           have d2 := hx1.cell b2
           have d3 := hx1.cell b3
           have hE1 := Ext.trans hE hx1)
        | (go_at_call 18; with_reducible refine (Cs.out _ hE1).mono ?_; rintro e w2 ⟨rfl, hx2⟩
           have e0 := hx2.cell d0
           have e1 := hx2.cell d1
           have hE2 := Ext.trans hE1 hx2)
        | (go_at_call 17; with_reducible refine (C00.out _ hE2).mono ?_; rintro e w3 ⟨rfl, hx3⟩
           have hE3 := Ext.trans hE2 hx3)
        | (go_at_call 16; with_reducible refine (Hw.out _).mono ?_; rintro e w4 ⟨rfl, hx4⟩))
       go_ret
       exact ⟨rfl, Ext.trans hE3 hx4⟩)

set_option maxRecDepth 100000 in
theorem termOrder_any (t u v : Tm) (h1 : t.size ≤ 2097152) (h2 : u.size ≤ 2097152) (h3 : v.size ≤ 2097152) (w : World) (x0 s0 x1 s1 x2 s2 : Value) (ht : IsTm w x0 s0 t) (hu : IsTm w x1 s1 u) (hv : IsTm w x2 s2 v) :
    Calls Tryd.prog 4 #[.agg #[x0, s0], .agg #[x1, s1], .agg #[x2, s2]] w fun e w' => e = .returned (.bool true) ∧ Ext w w' := by
  obtain ⟨p1, p2⟩ := cmp_three t u v
  refine order_walk (t.cmp u) (u.cmp v) (t.cmp v) (t.same u) w x0 s0 x1 s1 x2 s2 (cmp_range _ _) (cmp_range _ _) (cmp_range _ _) (same_cmp _ _) p1 p2
    (fun w' hx => compare_any t u w' _ _ _ _ (ht.ext hx) (hu.ext hx) h1 h2) (fun w' hx => compare_any u v w' _ _ _ _ (hu.ext hx) (hv.ext hx) h2 h3) (fun w' hx => compare_any t v w' _ _ _ _ (ht.ext hx) (hv.ext hx) h1 h3)
    (fun w' hx => ?_) (fun w' hx => ?_) (fun w' hx => same_any t u w' _ _ _ _ (ht.ext hx) (hu.ext hx) h1 h2)
  · rw [← cmp_anti]
    exact compare_any u t w' _ _ _ _ (hu.ext hx) (ht.ext hx) h2 h1
  · have h := compare_any t t w' _ _ _ _ (ht.ext hx) (ht.ext hx) h1 h1
    rw [cmp_self] at h
    exact h
end Go.Proofs.YtoidhdcbemmfhaaDoor
