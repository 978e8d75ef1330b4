/- The law TermChecks over a signature and a term that are read from memory. -/
import Derived.Test.YtoidhdcbemmfhaaDoorWakes
namespace Go.Proofs.YtoidhdcbemmfhaaDoor
open Go.ChangeShapes Go.WideShapes Go.ChangeAt Go.RowKit

set_option maxHeartbeats 1000000 in
set_option maxRecDepth 100000 in
theorem termChecks_any (l : List Sy) (hl : l.length ≤ 1048576) (t : Tm) (hs : t.size ≤ 2097152) (w : World) (a : Option Addr) (c : Nat) (hlc : l.length ≤ c) (hc63 : c ≤ 9223372036854775807) (hsy : IsSyms w a l) (x s : Value) (ht : IsTm w x s t) :
    Calls Tryd.prog 3 #[.agg #[.slice a l.length c], .agg #[x, s]] w fun e w' => e = .returned (.bool true) ∧ Ext w w' := by
  have ht0 := ht
  obtain ⟨a', c', rfl, rfl, -, -, -, -⟩ := ht.form
  clear ht
  obtain ⟨W, hW⟩ : ∃ W, W = ((w.alloc (.cells #[.slice a l.length c] 24)).alloc (.cells #[.int .i64 t.f, .slice a' t.ks.length c'] 27)) := ⟨_, rfl⟩
  have hx : Ext w W := by subst hW; go_grown
  have k0 : W.cell? ⟨w.heap.size, 0, none⟩ = some (.slice a l.length c) := by subst hW; go_simp
  have k1 : W.cell? ⟨w.heap.size + 1, 0, none⟩ = some (.int .i64 t.f) := by subst hW; go_simp
  have k2 : W.cell? ⟨w.heap.size + 1, 1, none⟩ = some (.slice a' t.ks.length c') := by subst hW; go_simp
  have h1 := fun w' (hx' : Ext W w') => text_any l hl t hs w' a c hlc hc63 (hsy.ext (Ext.trans hx hx')) _ _ (ht0.ext (Ext.trans hx hx'))
  have h2 := fun w' (hx' : Ext W w') => refText_any l hl t hs w' a c hlc hc63 (hsy.ext (Ext.trans hx hx')) _ _ (ht0.ext (Ext.trans hx hx'))
  have h3 := fun w' (hx' : Ext W w') => termCheck_any l hl t hs w' a c hlc hc63 (hsy.ext (Ext.trans hx hx')) _ _ (ht0.ext (Ext.trans hx hx'))
  have h4 := fun w' (hx' : Ext W w') => refTermCheck_any l hl t hs w' a c (hsy.ext (Ext.trans hx hx')) _ _ (ht0.ext (Ext.trans hx hx'))
  generalize termCheck l t = C at h1 h2 h3 h4
  generalize (⟨(termText l t).toArray⟩ : ByteArray) = T at h1 h2
  have H1 := Lib.hid h1; clear h1
  have H2 := Lib.hid h2; clear h2
  have H3 := Lib.hid h3; clear h3
  have H4 := Lib.hid h4; clear h4
  have Hw := Lib.hid wakes_any
  have hE0 := Below.refl W.heap.size W
  go_enter Tryd.func3, Tryd.ntmps3
  rw [hW] at hE0 k0 k1 k2
  go_wp2_with (first
    | (go_at_call 12; rw [← hW] at hE0 k0 k1 k2 ⊢; refine (H1.out _ hE0).mono ?_; rintro e w1 ⟨rfl, hx1⟩
       have c0 := hx1.cell k0
       have c1 := hx1.cell k1
       have c2 := hx1.cell k2
       clear hE0 k0 k1 k2)
    | (go_at_call 13; refine (H2.out _ hx1).mono ?_; rintro e w2 ⟨rfl, hx2⟩
       have hE2 := Ext.trans hx1 hx2
       have d0 := hx2.cell c0
       have d1 := hx2.cell c1
       have d2 := hx2.cell c2))
  go_region_held3 (fun w' => w'.cell? ⟨w.heap.size, 0, none⟩ = some (.slice a l.length c) ∧ w'.cell? ⟨w.heap.size + 1, 0, none⟩ = some (.int .i64 t.f) ∧ w'.cell? ⟨w.heap.size + 1, 1, none⟩ = some (.slice a' t.ks.length c') ∧ Ext W w')
    (((try go_split_ands); refine ⟨?_, ?_, ?_, ?_⟩ <;> first | (with_reducible assumption) | exact Below.drew (Below.refl _ _) | exact Ext.drew (by assumption) | exact Ext.drew (ext_alloc _ _) | (apply Ext.cell hw'; (with_reducible assumption)) | exact Ext.trans (by assumption) hw' | exact Ext.frozen hw' (by (with_reducible assumption)) (by (with_reducible assumption)) | (go_keep; done)))
    ((first
      | (go_at_call 14; go_split_ands; refine (H3.out _ (by (with_reducible assumption))).mono ?_; rintro e w' ⟨rfl, hw'⟩)
      | (go_at_call 15; go_split_ands; refine (H4.out _ (by (with_reducible assumption))).mono ?_; rintro e w' ⟨rfl, hw'⟩)
      | (go_at_call 16; go_split_ands; refine (Hw.out _).mono ?_; rintro e w' ⟨rfl, hw'⟩)))
  go_split_ands
  have hE : Ext W w' := by with_reducible assumption
  go_wp2_with fail
  go_ret
  exact ⟨rfl, Ext.trans hx hE⟩
end Go.Proofs.YtoidhdcbemmfhaaDoor
