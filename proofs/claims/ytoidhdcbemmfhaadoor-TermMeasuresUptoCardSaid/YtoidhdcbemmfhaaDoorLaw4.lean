/- The law TermMeasures over two terms that are read from memory. -/
import Derived.Test.YtoidhdcbemmfhaaDoorVars2
import Derived.Test.YtoidhdcbemmfhaaDoorDepth
import Derived.Test.YtoidhdcbemmfhaaDoorRefComp
import Derived.Test.YtoidhdcbemmfhaaDoorOrder
import Derived.Test.YtoidhdcbemmfhaaDoorInts
import Derived.Test.YtoidhdcbemmfhaaDoorWakes
import Derived.Deep.RegionHeld3
namespace Go.Proofs.YtoidhdcbemmfhaaDoor
open Go.ChangeShapes Go.WideShapes Go.ChangeAt Go.RowKit

set_option maxHeartbeats 2000000 in
set_option maxRecDepth 100000 in
theorem measures_walk (S G : Bool) (C N D : Int) (L : List Int) (hG : G = ((L.length : Int) == 0)) (w : World) (x0 s0 x1 s1 : Value)
    (c1 : ∀ w', Ext w w' → Calls Tryd.prog 18 #[.agg #[x0, s0], .agg #[x1, s1]] w' fun e w'' => e = .returned (.bool S) ∧ Ext w' w'')
    (c2 : ∀ w', Ext w w' → Calls Tryd.prog 24 #[.agg #[x0, s0], .agg #[x1, s1]] w' fun e w'' => e = .returned (.bool S) ∧ Ext w' w'')
    (c3 : ∀ w', Ext w w' → Calls Tryd.prog 17 #[.agg #[x0, s0], .agg #[x1, s1]] w' fun e w'' => e = .returned (.int .i64 C) ∧ Ext w' w'')
    (c4 : ∀ w', Ext w w' → Calls Tryd.prog 38 #[.agg #[x0, s0], .agg #[x1, s1]] w' fun e w'' => e = .returned (.int .i64 C) ∧ Ext w' w'')
    (c5 : ∀ w', Ext w w' → Calls Tryd.prog 39 #[.agg #[x0, s0]] w' fun e w'' => e = .returned (.int .i64 N) ∧ Ext w' w'')
    (c6 : ∀ w', Ext w w' → Calls Tryd.prog 40 #[.agg #[x0, s0]] w' fun e w'' => e = .returned (.int .i64 N) ∧ Ext w' w'')
    (c7 : ∀ w', Ext w w' → Calls Tryd.prog 41 #[.agg #[x0, s0]] w' fun e w'' => e = .returned (.int .i64 D) ∧ Ext w' w'')
    (c8 : ∀ w', Ext w w' → Calls Tryd.prog 42 #[.agg #[x0, s0]] w' fun e w'' => e = .returned (.int .i64 D) ∧ Ext w' w'')
    (c9 : ∀ w', Ext w w' → Calls Tryd.prog 43 #[.agg #[x0, s0]] w' fun e w'' => e = .returned (.bool G) ∧ Ext w' w'')
    (cv : ∀ w', Ext w w' → Calls Tryd.prog 37 #[.agg #[x0, s0]] w' fun e w'' => (∃ a c, e = .returned (.slice a L.length c) ∧ L.length ≤ c ∧ IsInts w'' a L) ∧ Ext w' w'')
    (cr : ∀ w', Ext w w' → Calls Tryd.prog 44 #[.agg #[x0, s0]] w' fun e w'' => (∃ a c, e = .returned (.slice a L.length c) ∧ L.length ≤ c ∧ IsInts w'' a L) ∧ Ext w' w'')
    (hL : L.length ≤ 9000000000000000000) :
    Calls Tryd.prog 10 #[.agg #[x0, s0], .agg #[x1, s1]] w fun e w' => e = .returned (.bool true) ∧ Ext w w' := by
  subst hG
  have C1 := Lib.hid c1
  have C2 := Lib.hid c2
  have C3 := Lib.hid c3
  have C4 := Lib.hid c4
  have C5 := Lib.hid c5
  have C6 := Lib.hid c6
  have C7 := Lib.hid c7
  have C8 := Lib.hid c8
  have C9 := Lib.hid c9
  have CV := Lib.hid cv
  have CR := Lib.hid cr
  have Cw := Lib.hid wakes_any
  have Cn := Lib.hid (fun w a1 a2 c1 c2 h1 h2 => numbers_any L L w a1 a2 c1 c2 h1 h2 hL hL)
  clear c1 c2 c3 c4 c5 c6 c7 c8 c9 cv cr
  obtain ⟨W, hW⟩ : ∃ W, W = ((w.alloc (.cells #[x0, s0] 27)).alloc (.cells #[x1, s1] 27)) := ⟨_, rfl⟩
  have hx : Ext w W := by subst hW; go_grown
  have k0 : W.cell? ⟨w.heap.size, 0, none⟩ = some x0 := by subst hW; go_simp
  have k1 : W.cell? ⟨w.heap.size, 1, none⟩ = some s0 := by subst hW; go_simp
  have k2 : W.cell? ⟨w.heap.size + 1, 0, none⟩ = some x1 := by subst hW; go_simp
  have k3 : W.cell? ⟨w.heap.size + 1, 1, none⟩ = some s1 := by subst hW; go_simp
  go_enter Tryd.func10, Tryd.ntmps10
  go_wp2_with ((rw [← hW]; clear hW; go_at_call 37; refine (CV.out _ hx).mono ?_); rintro e w1 ⟨⟨a1, n1, rfl, hn1, hI1⟩, hx1⟩)
  replace k0 := hx1.cell k0
  replace k1 := hx1.cell k1
  replace k2 := hx1.cell k2
  replace k3 := hx1.cell k3
  have hE : Ext w w1 := hx.trans hx1
  clear hx hx1
  have hE1 := Below.refl w1.heap.size w1
  have hE2 := Ext.drew hE
  go_region_held3 (fun w' => w'.cell? ⟨w.heap.size, 0, none⟩ = some x0 ∧ w'.cell? ⟨w.heap.size, 1, none⟩ = some s0 ∧ w'.cell? ⟨w.heap.size + 1, 0, none⟩ = some x1 ∧ w'.cell? ⟨w.heap.size + 1, 1, none⟩ = some s1 ∧ Ext w w' ∧ Ext w1 w')
    (((try go_split_ands); refine ⟨?_, ?_, ?_, ?_, ?_, ?_⟩ <;> first | (with_reducible assumption) | exact Below.drew (Below.refl _ _) | exact Ext.drew (by assumption) | exact Ext.drew (ext_alloc _ _) | (apply Ext.cell hw'; (with_reducible assumption)) | exact Ext.trans (by assumption) hw' | exact Ext.frozen hw' (by (with_reducible assumption)) (by (with_reducible assumption)) | (go_keep; done)))
    ((first
      | (go_at_call 18; go_split_ands; with_reducible refine (C1.out _ (by (with_reducible assumption))).mono ?_; rintro e w' ⟨rfl, hw'⟩)
      | (go_at_call 24; go_split_ands; with_reducible refine (C2.out _ (by (with_reducible assumption))).mono ?_; rintro e w' ⟨rfl, hw'⟩)
      | (go_at_call 17; go_split_ands; with_reducible refine (C3.out _ (by (with_reducible assumption))).mono ?_; rintro e w' ⟨rfl, hw'⟩)
      | (go_at_call 38; go_split_ands; with_reducible refine (C4.out _ (by (with_reducible assumption))).mono ?_; rintro e w' ⟨rfl, hw'⟩)
      | (go_at_call 39; go_split_ands; with_reducible refine (C5.out _ (by (with_reducible assumption))).mono ?_; rintro e w' ⟨rfl, hw'⟩)
      | (go_at_call 40; go_split_ands; with_reducible refine (C6.out _ (by (with_reducible assumption))).mono ?_; rintro e w' ⟨rfl, hw'⟩)
      | (go_at_call 41; go_split_ands; with_reducible refine (C7.out _ (by (with_reducible assumption))).mono ?_; rintro e w' ⟨rfl, hw'⟩)
      | (go_at_call 42; go_split_ands; with_reducible refine (C8.out _ (by (with_reducible assumption))).mono ?_; rintro e w' ⟨rfl, hw'⟩)
      | (go_at_call 43; go_split_ands; with_reducible refine (C9.out _ (by (with_reducible assumption))).mono ?_; rintro e w' ⟨rfl, hw'⟩)
      | (go_at_call 44; go_split_ands; with_reducible refine (CR.out _ (by (with_reducible assumption))).mono ?_; rintro e w' ⟨⟨a2, n2, rfl, hn2, hI2⟩, hw'⟩)
      | (go_at_call 27; go_split_ands; with_reducible refine (Cn.out _ _ _ _ _ (hI1.ext (by (with_reducible assumption))) hI2).mono ?_; rintro e w' ⟨rfl, hw'⟩)
      | (go_at_call 16; go_split_ands; with_reducible refine (Cw.out _).mono ?_; rintro e w' ⟨rfl, hw'⟩)))
  go_split_ands
  have hF : Ext w w' := by with_reducible assumption
  clear hE hE1 hE2
  go_wp2_with fail
  go_ret
  exact ⟨rfl, hF⟩

set_option maxRecDepth 100000 in
theorem termMeasures_any (t u : Tm) (h1 : t.size ≤ 2097152) (h2 : u.size ≤ 2097152) (w : World) (x0 s0 x1 s1 : Value) (ht : IsTm w x0 s0 t) (hu : IsTm w x1 s1 u) :
    Calls Tryd.prog 10 #[.agg #[x0, s0], .agg #[x1, s1]] w fun e w' => e = .returned (.bool true) ∧ Ext w w' := by
  have hlen := join_length t []
  refine measures_walk (t.same u) _ (t.cmp u) t.size t.depth (t.join []) rfl w x0 s0 x1 s1
    (fun w' hx => same_any t u w' _ _ _ _ (ht.ext hx) (hu.ext hx) h1 h2) (fun w' hx => ?_) (fun w' hx => compare_any t u w' _ _ _ _ (ht.ext hx) (hu.ext hx) h1 h2)
    (fun w' hx => refCompare_any t u w' _ _ _ _ (ht.ext hx) (hu.ext hx) h1 h2) (fun w' hx => size_any t w' _ _ (ht.ext hx) h1) (fun w' hx => refSize_any t w' _ _ (ht.ext hx) h1)
    (fun w' hx => depth_any t w' _ _ (ht.ext hx) h1) (fun w' hx => refDepth_any t w' _ _ (ht.ext hx) h1) (fun w' hx => ?_) (fun w' hx => ?_) (fun w' hx => refVars_any t w' _ _ (ht.ext hx) (by omega)) (by simp at hlen; omega)
  · have h := refSame_any t u w' _ _ _ _ (ht.ext hx) (hu.ext hx) h1 h2
    have e : (t.cmp u == 0) = t.same u := by rw [same_cmp, Bool.eq_iff_iff]; simp
    rw [e] at h
    exact h
  · have h := ground_any t w' _ _ (ht.ext hx) h1
    have e : (t.eachRun Tm.groundSt ()).1 = (((t.join []).length : Int) == 0) := by
      rw [Bool.eq_iff_iff, ground_run, ← join_nil, beq_iff_eq]; omega
    rw [e] at h
    exact h
  · have h := vars_any t w' _ _ (ht.ext hx) h1
    rw [vars_eq] at h
    exact h
end Go.Proofs.YtoidhdcbemmfhaaDoor
