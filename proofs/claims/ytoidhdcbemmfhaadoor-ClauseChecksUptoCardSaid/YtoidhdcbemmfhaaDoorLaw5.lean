/- The law ClauseChecks over a signature and a clause that are read from memory. -/
import Derived.Test.YtoidhdcbemmfhaaDoorCl6
import Derived.Test.YtoidhdcbemmfhaaDoorCl8
import Derived.Test.YtoidhdcbemmfhaaDoorOpenCl
namespace Go.Proofs.YtoidhdcbemmfhaaDoor
open Go.ChangeShapes Go.WideShapes Go.ChangeAt Go.RowKit

set_option maxHeartbeats 1000000 in
set_option maxRecDepth 100000 in
theorem clauseChecks_any (l : List Sy) (hl : l.length ≤ 1048576) (c : List Lt) (hcs : ∀ x ∈ c, x.sized) (hcl : c.length ≤ 1048576) (w : World) (a : Option Addr) (n : Nat) (hln : l.length ≤ n) (hn63 : n ≤ 9223372036854775807) (hsy : IsSyms w a l) (ca : Option Addr) (cn : Nat) (hc : IsLits w ca c) :
    Calls Tryd.prog 7 #[.agg #[.slice a l.length n], .slice ca c.length cn] w fun e w' => e = .returned (.bool true) ∧ Ext w w' := by
  obtain ⟨W, hW⟩ : ∃ W, W = w.alloc (.cells #[.slice a l.length n] 24) := ⟨_, rfl⟩
  have hx : Ext w W := by subst hW; go_grown
  have k0 : W.cell? ⟨w.heap.size, 0, none⟩ = some (.slice a l.length n) := by subst hW; go_simp
  have h1 := fun w' (hx' : Ext W w') => clText_any l hl c hcs hcl w' a n hln hn63 (hsy.ext (hx.trans hx')) ca cn (hc.ext (hx.trans hx'))
  have h2 := fun w' (hx' : Ext W w') => refClText_any l hl c hcs hcl w' a n hln hn63 (hsy.ext (hx.trans hx')) ca cn (hc.ext (hx.trans hx'))
  have h3 := fun w' (hx' : Ext W w') => clCheck_any l hl c hcs hcl w' a n hln hn63 (hsy.ext (hx.trans hx')) ca cn (hc.ext (hx.trans hx'))
  have h4 := fun w' (hx' : Ext W w') => refClCheck_any l hl c hcs hcl w' a n (hsy.ext (hx.trans hx')) ca cn (hc.ext (hx.trans hx'))
  generalize clauseCheck l c = C at h1 h2 h3 h4
  generalize str (clauseText l c) = T at h1 h2
  have H1 := Lib.hid h1; clear h1
  have H2 := Lib.hid h2; clear h2
  have H3 := Lib.hid h3; clear h3
  have H4 := Lib.hid h4; clear h4
  have Hw := Lib.hid wakes11_any
  have hE0 := Below.refl W.heap.size W
  go_enter Tryd.func7, Tryd.ntmps7
  rw [hW] at hE0 k0
  go_wp2_with (first
    | (go_at_call 28; rw [← hW] at hE0 k0 ⊢; refine (H1.out _ hE0).mono ?_; rintro e w1 ⟨rfl, hx1⟩
       have c0 := hx1.cell k0
       clear hE0 k0)
    | (go_at_call 29; refine (H2.out _ hx1).mono ?_; rintro e w2 ⟨rfl, hx2⟩
       have hE2 := hx1.trans hx2
       have d0 := hx2.cell c0))
  go_region_held3 (fun w' => w'.cell? ⟨w.heap.size, 0, none⟩ = some (.slice a l.length n) ∧ Ext W w')
    (((try go_split_ands); refine ⟨?_, ?_⟩ <;> first | (with_reducible assumption) | exact Below.drew (Below.refl _ _) | exact Ext.drew (by assumption) | exact Ext.drew (ext_alloc _ _) | (apply Ext.cell hw'; (with_reducible assumption)) | exact Ext.trans (by assumption) hw' | exact Ext.frozen hw' (by (with_reducible assumption)) (by (with_reducible assumption)) | (go_keep; done)))
    ((first
      | (go_at_call 30; go_split_ands; refine (H3.out _ (by (with_reducible assumption))).mono ?_; rintro e w' ⟨rfl, hw'⟩)
      | (go_at_call 31; go_split_ands; refine (H4.out _ (by (with_reducible assumption))).mono ?_; rintro e w' ⟨rfl, hw'⟩)
      | (go_at_call 32; go_split_ands; refine (Hw.out _).mono ?_; rintro e w' ⟨rfl, hw'⟩)))
  go_split_ands
  have hE : Ext W w' := by with_reducible assumption
  go_wp2_with fail
  go_ret
  exact ⟨rfl, hx.trans hE⟩
end Go.Proofs.YtoidhdcbemmfhaaDoor
