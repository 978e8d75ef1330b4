/- The law PrecChecks over a signature and an order, given what prec.Make returns. -/
import Derived.Test.YtdmiphdohfcbeaaPrecK3
import Derived.Deep.RegionHeld3
namespace Go.Proofs.Ytdmiphdohfcbeaa
open Go.ChangeShapes Go.WideShapes Go.ChangeAt Go.RowKit

set_option maxHeartbeats 1000000 in
set_option maxRecDepth 100000 in
theorem precChecks_any (HMK : MakeSays) (l : List Sy) (hl : l.length ≤ 1048576) (o : Ord) (hpl : o.prec.length ≤ 1048576) (hwl : o.wts.length ≤ 1048576) (w : World) (a : Option Addr) (n : Nat) (v : Value) (hln : l.length ≤ n) (hn63 : n ≤ 9223372036854775807) (hsy : IsSyms w a l) (ho : IsOrd w v o) :
    Calls Try.prog 3 #[.agg #[.slice a l.length n], v] w fun e w' => e = .returned (.bool true) ∧ Ext w w' := by
  obtain ⟨lpo, prec, wts, var⟩ := o
  obtain ⟨pa, pc, wa, wc, rfl⟩ := ord_form ho
  obtain ⟨W, hW⟩ : ∃ W, W = (w.alloc (.cells #[.slice a l.length n] 24)).alloc (.cells #[.bool lpo, .slice pa prec.length pc, .slice wa wts.length wc, .int .i64 var] 27) := ⟨_, rfl⟩
  have hx : Ext w W := by subst hW; go_grown
  have k0 : W.cell? ⟨w.heap.size, 0, none⟩ = some (.slice a l.length n) := by subst hW; go_simp
  have j0 : W.cell? ⟨w.heap.size + 1, 0, none⟩ = some (.bool lpo) := by subst hW; go_simp
  have j1 : W.cell? ⟨w.heap.size + 1, 1, none⟩ = some (.slice pa prec.length pc) := by subst hW; go_simp
  have j2 : W.cell? ⟨w.heap.size + 1, 2, none⟩ = some (.slice wa wts.length wc) := by subst hW; go_simp
  have j3 : W.cell? ⟨w.heap.size + 1, 3, none⟩ = some (.int .i64 var) := by subst hW; go_simp
  have H1 := Lib.hid (fun w' (hx' : Ext W w') => sigCopy_any l hl w' a n hln hn63 (hsy.ext (hx.trans hx')))
  have H2 := Lib.hid (fun w' (hx' : Ext W w') a' n' (h1 : l.length ≤ n') (h2 : n' ≤ 9223372036854775807) (h3 : IsSyms w' a' l) => check_any l hl _ hpl hwl w' a' n' _ h1 h2 h3 (ho.ext (hx.trans hx')))
  have H3 := Lib.hid (fun w' (hx' : Ext W w') => refCheck07_any l hl _ hpl hwl w' a n _ (hsy.ext (hx.trans hx')) (ho.ext (hx.trans hx')))
  simp only at H2 H3
  generalize ordCheck l lpo prec wts var = C at H2 H3
  have hcc : (C == C) = true := by simp
  have Hw := Lib.hid (wakes07_any HMK)
  clear hsy ho HMK hpl hwl
  go_enter Try.func3, Try.ntmps3
  go_wp2_with fail
  rw [← hW]; clear hW
  have hE0 := Ext.drew (Below.refl W.heap.size W)
  go_region_held3 (fun w' => w'.cell? ⟨w.heap.size, 0, none⟩ = some (.slice a l.length n) ∧ w'.cell? ⟨w.heap.size + 1, 0, none⟩ = some (.bool lpo) ∧ w'.cell? ⟨w.heap.size + 1, 1, none⟩ = some (.slice pa prec.length pc) ∧ w'.cell? ⟨w.heap.size + 1, 2, none⟩ = some (.slice wa wts.length wc) ∧ w'.cell? ⟨w.heap.size + 1, 3, none⟩ = some (.int .i64 var) ∧ Ext W w')
    (((try go_split_ands); refine ⟨?_, ?_, ?_, ?_, ?_, ?_⟩ <;> first | (with_reducible assumption) | exact Below.drew (Below.refl _ _) | exact Ext.drew (by assumption) | exact Ext.drew (ext_alloc _ _) | (apply Ext.cell hw'; (with_reducible assumption)) | exact Ext.trans (by assumption) hw' | exact Ext.frozen hw' (by (with_reducible assumption)) (by (with_reducible assumption)) | (go_keep; done)))
    ((first
      | (go_at_call 8; go_split_ands; refine (H1.out _ (by (with_reducible assumption))).mono ?_; rintro e w' ⟨⟨a', n', rfl, hn1, hn2, hsy'⟩, hw'⟩)
      | (go_at_call 7; go_split_ands; refine (H2.out _ (by (with_reducible assumption)) _ _ hn1 hn2 (by first | (with_reducible assumption) | (exact IsSyms.ext (by assumption) (by assumption)))).mono ?_; rintro e w' ⟨rfl, hw'⟩)
      | (go_at_call 9; go_split_ands; refine (H3.out _ (by (with_reducible assumption))).mono ?_; rintro e w' ⟨rfl, hw'⟩)
      | (go_at_call 10; go_split_ands; refine (Hw.out _).mono ?_; rintro e w' ⟨rfl, hw'⟩)))
  all_goals
    go_split_ands
    have hE : Ext W w' := by with_reducible assumption
    go_wp2_with fail
    go_ret
    exact ⟨rfl, hx.trans hE⟩
end Go.Proofs.Ytdmiphdohfcbeaa
