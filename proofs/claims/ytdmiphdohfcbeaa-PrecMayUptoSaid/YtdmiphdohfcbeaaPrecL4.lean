/- The law PrecMakes over a signature, clauses and a way, given what prec.Make returns. -/
import Derived.Test.YtdmiphdohfcbeaaPrecW1
import Derived.Test.YtdmiphdohfcbeaaPrecR7
import Derived.Test.YtdmiphdohfcbeaaPrecI
import Derived.Test.YtdmiphdohfcbeaaStepX
import Derived.Deep.RegionHeld3
namespace Go.Proofs.Ytdmiphdohfcbeaa
open Go.ChangeShapes Go.WideShapes Go.ChangeAt Go.RowKit

theorem madeOrd_len (l : List Sy) (cs : List (List Lt)) (y : Way) : (madeOrd l cs y).prec.length ≤ l.length ∧ (madeOrd l cs y).wts.length ≤ l.length := by
  unfold madeOrd
  split
  · refine ⟨by simp [precOf_length], ?_⟩
    simp only
    split <;> simp [weightsOf]
  · simp [Ord.zero]
theorem refMake_any (l : List Sy) (hl : l.length ≤ 1048576) (cs : List (List Lt)) (hcl : cs.length ≤ 100) (hcs : sizedCls cs) (y : Way) (w : World) (a ca : Option Addr) (n cn : Nat) (hsy : IsSyms w a l) (hc : IsCls w ca cs) :
    Calls Try.prog 12 #[.agg #[.slice a l.length n], .slice ca cs.length cn, y.val] w fun e w' => (∃ v, e = .returned v ∧ OrderGiven w' v l cs y) ∧ Ext w w' := by
  by_cases hm : makeErr l cs y = 0
  · exact refMake_ok l hl cs hcl hcs y w a ca n cn hsy hc hm
  · exact refMake_bad l hl cs hcl hcs y w a ca n cn hsy hc hm
def cntOf (l : List Sy) (cs : List (List Lt)) : List Int := if countsErr l cs = 0 then counts l.length (allSyms cs) else []
theorem cntOf_length (l : List Sy) (cs : List (List Lt)) : (cntOf l cs).length ≤ l.length := by
  unfold cntOf; split <;> simp [counts_length]
theorem counts_given {B : Nat} {w : World} {v : Value} {l : List Sy} {cs : List (List Lt)} (hcl : cs.length ≤ 100) (hcs : sizedCls cs) (h : CountsGiven B w v l cs) : ∃ xa xc, v = .tuple #[.slice xa (cntOf l cs).length xc, .int .i64 (countsErr l cs)] ∧ IsInts w xa (cntOf l cs) := by
  rcases h with ⟨h1, rfl⟩ | ⟨h1, nb, -, -, rfl, hN⟩
  · refine ⟨none, 0, ?_, fun i hi => ?_⟩
    · unfold cntOf; rw [if_neg (by rw [h1]; decide), h1]; rfl
    · unfold cntOf at hi; rw [if_neg (by rw [h1]; decide)] at hi; cases hi
  · have hc : cntOf l cs = counts l.length (allSyms cs) := by unfold cntOf; rw [if_pos h1]
    refine ⟨some ⟨nb, 0, none⟩, l.length, by rw [hc, h1, counts_length], ?_⟩
    rw [hc]
    refine hN.isInts fun x hx => ?_
    have h1 := counts_le x hx
    have h2 := allSyms_length cs hcs
    omega

set_option maxHeartbeats 1000000 in
set_option maxRecDepth 100000 in
theorem precMakes_any (HMK : MakeSays) (l : List Sy) (hl : l.length ≤ 1048576) (cs : List (List Lt)) (hcn : cs.length ≤ 1048576) (hcs : sizedCls cs) (y : Way) (hy : y.fits) (w : World) (a ca : Option Addr) (n cn : Nat) (hln : l.length ≤ n) (hn63 : n ≤ 9223372036854775807) (hsy : IsSyms w a l) (hc : IsCls w ca cs) :
    Calls Try.prog 4 #[.agg #[.slice a l.length n], .slice ca cs.length cn, y.val] w fun e w' => e = .returned (.bool true) ∧ Ext w w' := by
  obtain ⟨b0, z1, z2, b3⟩ := y
  obtain ⟨W, hW⟩ : ∃ W, W = (w.alloc (.cells #[.slice a l.length n] 24)).alloc (.cells #[.bool b0, .int .i64 z1, .int .i64 z2, .bool b3] 37) := ⟨_, rfl⟩
  have hx : Ext w W := by subst hW; go_grown
  have Hw := Lib.hid (wakes07_any HMK)
  by_cases hcl : cs.length ≤ 100
  case neg =>
    have hd : (100 : Int) < cs.length := by omega
    unfold Way.val
    clear HMK
    go_enter Try.func4, Try.ntmps4
    go_wp2_with (go_at_call 10; rw [← hW]; clear hW; refine (Hw.out _).mono ?_; rintro e w1 ⟨rfl, hx1⟩)
    go_ret
    exact ⟨rfl, hx.trans hx1⟩
  have hd : ¬ (100 : Int) < cs.length := by omega
  have k0 : W.cell? ⟨w.heap.size, 0, none⟩ = some (.slice a l.length n) := by subst hW; go_simp
  have j0 : W.cell? ⟨w.heap.size + 1, 0, none⟩ = some (.bool b0) := by subst hW; go_simp
  have j1 : W.cell? ⟨w.heap.size + 1, 1, none⟩ = some (.int .i64 z1) := by subst hW; go_simp
  have j2 : W.cell? ⟨w.heap.size + 1, 2, none⟩ = some (.int .i64 z2) := by subst hW; go_simp
  have j3 : W.cell? ⟨w.heap.size + 1, 3, none⟩ = some (.bool b3) := by subst hW; go_simp
  have h1 := fun w' (hx' : Ext W w') => HMK l hl cs hcl hcs ⟨b0, z1, z2, b3⟩ hy w' a ca n cn hln hn63 (hsy.ext (hx.trans hx')) (hc.ext (hx.trans hx'))
  have h2 := fun w' (hx' : Ext W w') => refMake_any l hl cs hcl hcs ⟨b0, z1, z2, b3⟩ w' a ca n cn (hsy.ext (hx.trans hx')) (hc.ext (hx.trans hx'))
  have h3 := fun w' (hx' : Ext W w') => counts_any l hl cs hcl hcs w' a ca n cn hln hn63 (hsy.ext (hx.trans hx')) (hc.ext (hx.trans hx'))
  have h4 := fun w' (hx' : Ext W w') => refCounts_any l hl cs hcl hcs w' a ca n cn (hsy.ext (hx.trans hx')) (hc.ext (hx.trans hx'))
  have hgv := fun B w' v (h : CountsGiven B w' v l cs) => counts_given hcl hcs h
  obtain ⟨ml1, ml2⟩ := madeOrd_len l cs ⟨b0, z1, z2, b3⟩
  have hcl2 := cntOf_length l cs
  simp only [OrderGiven] at h1 h2
  unfold Way.val at h1 h2 ⊢
  simp only at h1 h2 ⊢
  generalize makeErr l cs ⟨b0, z1, z2, b3⟩ = me at h1 h2
  generalize madeOrd l cs ⟨b0, z1, z2, b3⟩ = o at h1 h2 ml1 ml2
  obtain ⟨lpo, prec, wts, var⟩ := o
  simp only at ml1 ml2
  have H1 := Lib.hid h1
  have H2 := Lib.hid h2
  have H3 := Lib.hid h3
  have H4 := Lib.hid h4
  have HG := Lib.hid hgv
  have HR := Lib.hid (row_true (cntOf l cs) (by omega))
  have HS := Lib.hid (fun w' v1 v2 h1 h2 => same_true ⟨lpo, prec, wts, var⟩ w' v1 v2 h1 h2 (by simp only; omega) (by simp only; omega))
  clear h1 h2 h3 h4 hgv HMK hsy hc hcs hcl2 ml1 ml2
  have hmm : (me == me) = true := by simp
  have hcc : (countsErr l cs == countsErr l cs) = true := by simp
  generalize countsErr l cs = ce at HG hcc
  generalize cntOf l cs = z at HG HR
  go_enter Try.func4, Try.ntmps4
  go_wp2_with (first
    | (go_at_call 11; rw [← hW]; clear hW; refine (H1.out _ (Below.refl _ _)).mono ?_; rintro e w1 ⟨⟨v, rfl, u, rfl, hu⟩, hx1⟩; obtain ⟨pa, pc, wa, wc, rfl⟩ := ord_form hu; obtain ⟨o0, o1, o2, o3⟩ := cells4 w1 (.bool lpo) (.slice pa prec.length pc) (.slice wa wts.length wc) (.int .i64 var) 27; (have hA1 := ext_alloc w1 (.cells #[.bool lpo, .slice pa prec.length pc, .slice wa wts.length wc, .int .i64 var] 27)); (have hE1 := hx1.trans hA1); (have k0' := hE1.cell k0); (have j0' := hE1.cell j0); (have j1' := hE1.cell j1); (have j2' := hE1.cell j2); (have j3' := hE1.cell j3); replace hu := hu.ext hA1)
    | (go_at_call 12; refine (H2.out _ hE1).mono ?_; rintro e w2 ⟨⟨v, rfl, u, rfl, hu2⟩, hx2⟩; obtain ⟨qa, qc, xa, xc, rfl⟩ := ord_form hu2; obtain ⟨p0, p1, p2, p3⟩ := cells4 w2 (.bool lpo) (.slice qa prec.length qc) (.slice xa wts.length xc) (.int .i64 var) 27; (have hA2 := ext_alloc w2 (.cells #[.bool lpo, .slice qa prec.length qc, .slice xa wts.length xc, .int .i64 var] 27)); (have hE2 := hx2.trans hA2); replace k0' := hE2.cell k0'; replace o0 := hE2.cell o0; replace o1 := hE2.cell o1; replace o2 := hE2.cell o2; replace o3 := hE2.cell o3; replace hu := hu.ext hE2; replace hu2 := hu2.ext hA2; (have hE3 := hE1.trans hE2); clear j0' j1' j2' j3' hA1 hA2)
    | (go_at_call 13; refine (H3.out _ hE3).mono ?_; rintro e w3 ⟨⟨v, rfl, hv⟩, hx3⟩; obtain ⟨ca1, cc1, rfl, hi1⟩ := HG.out _ _ _ hv; clear hv; replace k0' := hx3.cell k0'; (have hE4 := hE3.trans hx3))
    | (go_at_call 14; refine (H4.out _ hE4).mono ?_; rintro e w4 ⟨⟨v, rfl, hv⟩, hx4⟩; obtain ⟨ca2, cc2, rfl, hi2⟩ := HG.out _ _ _ hv; clear hv; replace hi1 := hi1.ext hx4; (have hE5 := hE4.trans hx4); (have hx34 := hx3.trans hx4); replace o0 := hx34.cell o0; replace o1 := hx34.cell o1; replace o2 := hx34.cell o2; replace o3 := hx34.cell o3; replace p0 := hx34.cell p0; replace p1 := hx34.cell p1; replace p2 := hx34.cell p2; replace p3 := hx34.cell p3; replace hu := hu.ext hx34; replace hu2 := hu2.ext hx34)
    | (go_at_call 15; refine (HS.out _ _ _ hu hu2).mono ?_; rintro e w5 ⟨rfl, hx5⟩; replace hi1 := hi1.ext hx5; replace hi2 := hi2.ext hx5; (have hE6 := hE5.trans hx5))
    | (go_at_call 16; refine (HR.out _ _ _ _ _ hi1 hi2).mono ?_; rintro e w6 ⟨rfl, hx6⟩; (have hE7 := hE6.trans hx6))
    | (go_at_call 10; refine (Hw.out _).mono ?_; rintro e w7 ⟨rfl, hx7⟩))
  go_ret
  exact ⟨rfl, (hx.trans hE7).trans hx7⟩
end Go.Proofs.Ytdmiphdohfcbeaa
