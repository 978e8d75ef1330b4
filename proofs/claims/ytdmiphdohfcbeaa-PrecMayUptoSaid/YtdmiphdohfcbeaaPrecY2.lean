/- The law PrecMay over a signature, clauses and ways, given what prec.Make returns. -/
import Derived.Test.YtdmiphdohfcbeaaPrecL6
import Derived.Test.YtdmiphdohfcbeaaPrecL4
import Derived.Test.YtdmiphdohfcbeaaPrecY1
import Derived.Deep.Light
namespace Go.Proofs.Ytdmiphdohfcbeaa
open Go.ChangeShapes Go.WideShapes Go.ChangeAt Go.RowKit

theorem infoClause : (Try.prog.info? 46).map (fun i => (i.zero, i.size, i.bytes)) = some (some (.slice none 0 0), 1, 24) := by kernel_rfl
/-- elements that are one cell, whatever it holds -/
def eltVal : Elt Value where
  size := 1
  is := fun _ _ cs v => cs = [v] ∧ v.oneCell' = true
  len := fun h => by rw [h.1]; rfl
  one := fun h u hu => by rw [h.1] at hu; simp at hu; subst hu; exact h.2
  keep := fun _ _ h => h
/-- clauses' cells, turned about -/
def backVals (w : World) (b o n j : Nat) : List Value := (List.range j).map fun i => (w.cell? ⟨b, o + (n - 1 - i), none⟩).getD undef
theorem backVals_len (w : World) (b o n j : Nat) : (backVals w b o n j).length = j := by simp [backVals]
theorem backVals_succ (w : World) (b o n j : Nat) : backVals w b o n (j + 1) = backVals w b o n j ++ [(w.cell? ⟨b, o + (n - 1 - j), none⟩).getD undef] := by
  unfold backVals; rw [List.range_succ, List.map_append]; rfl
theorem backVals_zero (w : World) (b o n : Nat) : backVals w b o n 0 = [] := rfl
theorem back_cls {w wr : World} {B b o : Nat} {va : Option Addr} {vc : Nat} {cs : List (List Lt)} (hc : IsCls w (some ⟨b, o, none⟩) cs) (hx : Ext w wr) (h : GRow eltVal 46 B wr (.slice va cs.length vc) (backVals w b o cs.length cs.length)) : IsCls wr va cs.reverse := by
  intro i hi
  have hi' : i < cs.length := by simpa using hi
  obtain ⟨g, cap, xs, hv, -, -, -, hel, -, hcell⟩ := h.at (j := i) (by rw [backVals_len]; exact hi')
  injection hv with e1 e2 e3
  subst e1
  obtain ⟨b', o', ca, cn, e, m, hle, hls⟩ := hc (cs.length - 1 - i) (by omega)
  injection e with e; injection e with e1 e2; subst e1; subst e2
  have hx0 := hcell 0 (backVals w b o cs.length cs.length)[i] (by rw [hel.1]; rfl)
  have hval : (backVals w b o cs.length cs.length)[i]'(by rw [backVals_len]; exact hi') = .slice ca cs[cs.length - 1 - i].length cn := by
    simp only [backVals, List.getElem_map, List.getElem_range, m, Option.getD_some]
  rw [hval] at hx0
  have hrev : cs.reverse[i] = cs[cs.length - 1 - i] := by rw [List.getElem_reverse]
  rw [hrev]
  have hadd : i * eltVal.size + 0 = 0 + i := by show i * 1 + 0 = 0 + i; omega
  rw [hadd] at hx0
  exact ⟨g, 0, ca, cn, rfl, hx0, hle, hls.ext hx⟩
theorem sized_reverse {cs : List (List Lt)} (h : sizedCls cs) : sizedCls cs.reverse := by
  intro i hi
  have hi' : i < cs.length := by simpa using hi
  have hrev : cs.reverse[i] = cs[cs.length - 1 - i] := by rw [List.getElem_reverse]
  have := h (cs.length - 1 - i) (by omega)
  rw [← hrev] at this
  exact this

set_option maxHeartbeats 2000000 in
set_option maxRecDepth 100000 in
theorem precMay_any (HMK : MakeSays) (l : List Sy) (hl : l.length ≤ 1048576) (cs : List (List Lt)) (hcn : cs.length ≤ 1048576) (hcs : sizedCls cs) (y : Way) (hy : y.fits) (ot : Int) (hot : -9223372036854775808 ≤ ot ∧ ot ≤ 9223372036854775807) (lpo : Bool) (w : World) (a ca : Option Addr) (n cn : Nat) (hln : l.length ≤ n) (hn63 : n ≤ 9223372036854775807) (hcc : cs.length ≤ cn) (hsy : IsSyms w a l) (hc : IsCls w ca cs) :
    Calls Try.prog 5 #[.agg #[.slice a l.length n], .slice ca cs.length cn, y.val, .int .i64 ot, .bool lpo] w fun e w' => e = .returned (.bool true) ∧ Ext w w' := by
  obtain ⟨b0, z1, z2, b3⟩ := y
  obtain ⟨W, hW⟩ : ∃ W, W = (w.alloc (.cells #[.slice a l.length n] 24)).alloc (.cells #[.bool b0, .int .i64 z1, .int .i64 z2, .bool b3] 37) := ⟨_, rfl⟩
  have hx : Ext w W := by subst hW; go_grown
  have Hw := Lib.hid (wakes07_any HMK)
  by_cases hcl : cs.length ≤ 60
  case neg =>
    have hd : (60 : Int) < cs.length := by omega
    unfold Way.val
    clear HMK
    go_enter Try.func5, Try.ntmps5
    go_wp2_with (go_at_call 10; rw [← hW]; clear hW; refine (Hw.out _).mono ?_; rintro e w1 ⟨rfl, hx1⟩)
    go_ret
    exact ⟨rfl, hx.trans hx1⟩
  have hd : ¬ (60 : Int) < cs.length := by omega
  have k0 : W.cell? ⟨w.heap.size, 0, none⟩ = some (.slice a l.length n) := by subst hW; go_simp
  have j0 : W.cell? ⟨w.heap.size + 1, 0, none⟩ = some (.bool b0) := by subst hW; go_simp
  have j1 : W.cell? ⟨w.heap.size + 1, 1, none⟩ = some (.int .i64 z1) := by subst hW; go_simp
  have j2 : W.cell? ⟨w.heap.size + 1, 2, none⟩ = some (.int .i64 z2) := by subst hW; go_simp
  have j3 : W.cell? ⟨w.heap.size + 1, 3, none⟩ = some (.bool b3) := by subst hW; go_simp
  have h1 := fun w' (hx' : Ext W w') => HMK l hl cs (by omega) hcs ⟨b0, z1, z2, b3⟩ hy w' a ca n cn hln hn63 (hsy.ext (hx.trans hx')) (hc.ext (hx.trans hx'))
  have h2 := fun w' (hx' : Ext W w') va vc (hb : IsCls w' va cs.reverse) => HMK l hl cs.reverse (by simp; omega) (sized_reverse hcs) ⟨b0, z1, z2, b3⟩ hy w' a va n vc hln hn63 (hsy.ext (hx.trans hx')) hb
  have h3 := fun w' (hx' : Ext W w') => HMK l hl cs (by omega) hcs ⟨lpo, z1, ot, !b3⟩ ⟨hy.1, hy.2.1, hot.1, hot.2⟩ w' a ca n cn hln hn63 (hsy.ext (hx.trans hx')) (hc.ext (hx.trans hx'))
  have h4 := fun w' (hx' : Ext W w') o (h1 : o.prec.length ≤ 1048576) (h2 : o.wts.length ≤ 1048576) v (hv : IsOrd w' v o) => check_any l hl o h1 h2 w' a n v hln hn63 (hsy.ext (hx.trans hx')) hv
  simp only [OrderGiven] at h1 h2 h3
  simp only [makeErr_reverse, madeOrd_reverse, List.length_reverse] at h2
  obtain ⟨ml1, ml2⟩ := madeOrd_len l cs ⟨b0, z1, z2, b3⟩
  obtain ⟨ml3, ml4⟩ := madeOrd_len l cs ⟨lpo, z1, ot, !b3⟩
  by_cases hme : makeErr l cs ⟨b0, z1, z2, b3⟩ = 0
  case neg =>
    have hp := made_bad hme
    have hmb : (makeErr l cs ⟨b0, z1, z2, b3⟩ != 0) = true := by simpa using hme
    unfold Way.val at h1 ⊢
    simp only at h1 ⊢
    generalize makeErr l cs ⟨b0, z1, z2, b3⟩ = me at h1 hmb
    generalize madeOrd l cs ⟨b0, z1, z2, b3⟩ = o at h1 hp
    obtain ⟨lp, prec, wts, var⟩ := o
    simp only at hp
    subst hp
    have H1 := Lib.hid h1
    clear h1 h2 h3 h4 hme HMK ml1 ml2 ml3 ml4 hsy hc hcs
    go_enter Try.func5, Try.ntmps5
    go_wp2_with (first
      | (go_at_call 11; rw [← hW]; clear hW; refine (H1.out _ (Below.refl _ _)).mono ?_; rintro e w1 ⟨⟨v, rfl, u, rfl, hu⟩, hx1⟩; obtain ⟨pa, pc, wa, wc, rfl⟩ := ord_form hu; obtain ⟨o0, o1, o2, o3⟩ := cells4 w1 (.bool lp) (.slice pa (0 : Nat) pc) (.slice wa wts.length wc) (.int .i64 var) 27; (have hA1 := ext_alloc w1 (.cells #[.bool lp, .slice pa (0 : Nat) pc, .slice wa wts.length wc, .int .i64 var] 27)); (have hE1 := hx1.trans hA1))
      | (go_at_call 10; refine (Hw.out _).mono ?_; rintro e w7 ⟨rfl, hx7⟩))
    go_ret
    exact ⟨rfl, (hx.trans hE1).trans hx7⟩
  have ck1 := made_check hme
  have hot3 : (decide (ot < 0) = true ∧ makeErr l cs ⟨lpo, z1, ot, !b3⟩ = 2) ∨ (decide (ot < 0) = false ∧ decide (3 < ot) = true ∧ makeErr l cs ⟨lpo, z1, ot, !b3⟩ = 2) ∨
      (decide (ot < 0) = false ∧ decide (3 < ot) = false ∧ makeErr l cs ⟨lpo, z1, ot, !b3⟩ = 0 ∧ (madeOrd l cs ⟨lpo, z1, ot, !b3⟩).prec = (madeOrd l cs ⟨b0, z1, z2, b3⟩).prec ∧ ordCheck l (madeOrd l cs ⟨lpo, z1, ot, !b3⟩).lpo (madeOrd l cs ⟨lpo, z1, ot, !b3⟩).prec (madeOrd l cs ⟨lpo, z1, ot, !b3⟩).wts (madeOrd l cs ⟨lpo, z1, ot, !b3⟩).var = 0) := by
    have h := make_other (y := ⟨b0, z1, z2, b3⟩) (z := ⟨lpo, z1, ot, !b3⟩) rfl hme
    simp only at h
    by_cases c1 : ot < 0
    · exact .inl ⟨decide_eq_true c1, by rw [h, if_neg (by omega)]⟩
    · by_cases c2 : 3 < ot
      · exact .inr (.inl ⟨decide_eq_false c1, decide_eq_true c2, by rw [h, if_neg (by omega)]⟩)
      · have h0 : makeErr l cs ⟨lpo, z1, ot, !b3⟩ = 0 := by rw [h, if_pos (by omega)]
        exact .inr (.inr ⟨decide_eq_false c1, decide_eq_false c2, h0, made_other (y := ⟨b0, z1, z2, b3⟩) (z := ⟨lpo, z1, ot, !b3⟩) rfl hme h0, made_check h0⟩)
  rw [hme] at h1 h2
  unfold Way.val at h1 h2 h3 ⊢
  simp only at h1 h2 h3 ⊢
  have h5 := fun w' hx' v hv => h4 w' hx' (madeOrd l cs ⟨b0, z1, z2, b3⟩) (by omega) (by omega) v hv
  have h6 := fun w' hx' v hv => h4 w' hx' (madeOrd l cs ⟨lpo, z1, ot, !b3⟩) (by omega) (by omega) v hv
  rw [ck1] at h5
  generalize makeErr l cs ⟨lpo, z1, ot, !b3⟩ = me3 at h3 hot3
  generalize madeOrd l cs ⟨b0, z1, z2, b3⟩ = o at h1 h2 h5 ml1 ml2 hot3
  generalize madeOrd l cs ⟨lpo, z1, ot, !b3⟩ = ox at h3 h6 ml3 ml4 hot3
  obtain ⟨lp, prec, wts, var⟩ := o
  obtain ⟨lpx, precx, wtsx, varx⟩ := ox
  simp only at ml1 ml2 ml3 ml4 h6 hot3
  have H1 := Lib.hid h1
  have H2 := Lib.hid h2
  have H3 := Lib.hid h3
  have H5 := Lib.hid h5
  have H6 := Lib.hid h6
  have HS := Lib.hid (fun w' v1 v2 h1 h2 => same_true ⟨lp, prec, wts, var⟩ w' v1 v2 h1 h2 (by simp only; omega) (by simp only; omega))
  have HR := Lib.hid (row_true prec (by omega))
  have HOT := Lib.hid hot3
  have HCL := Lib.hid hc
  have HML := Lib.hid (And.intro ml1 ml3)
  obtain ⟨i0, hi0, hz0, hz1', hz2'⟩ := info_parts infoClause
  have hwl : IntKind.i64.wrap ((cs.length : Int) - 1) = (cs.length : Int) - 1 := IntWalk.i64_in _ (by omega)
  clear h1 h2 h3 h4 h5 h6 hot3 HMK hsy hc hme ck1 ml1 ml2 ml3 ml4 hcs hcn
  go_enter Try.func5, Try.ntmps5
  go_wp2_with (first
    | (go_at_call 11; rw [← hW]; clear hW; refine (H1.out _ (Below.refl _ _)).mono ?_; rintro e w1 ⟨⟨v, rfl, u, rfl, hu⟩, hx1⟩; obtain ⟨pa, pc, wa, wc, rfl⟩ := ord_form hu; obtain ⟨o0, o1, o2, o3⟩ := cells4 w1 (.bool lp) (.slice pa prec.length pc) (.slice wa wts.length wc) (.int .i64 var) 27; (have hA1 := ext_alloc w1 (.cells #[.bool lp, .slice pa prec.length pc, .slice wa wts.length wc, .int .i64 var] 27)); (have hE1 := hx1.trans hA1); replace k0 := hE1.cell k0; replace j0 := hE1.cell j0; replace j1 := hE1.cell j1; replace j2 := hE1.cell j2; replace j3 := hE1.cell j3; replace hu := hu.ext hA1; clear hA1 hx1))
  obtain ⟨V, hV⟩ : ∃ V, V = w1.alloc (.cells #[.bool lp, .slice pa prec.length pc, .slice wa wts.length wc, .int .i64 var] 27) := ⟨_, rfl⟩
  obtain ⟨ob, hob⟩ : ∃ ob, ob = w1.heap.size := ⟨_, rfl⟩
  rw [← hV] at hu hE1 k0 j0 j1 j2 j3 o0 o1 o2 o3 ⊢
  rw [← hob] at o0 o1 o2 o3 ⊢
  clear hV hob
  have hEV : Ext w V := hx.trans hE1
  go_loopw [13, 14] (fun lv s wr => ∃ (m j : Nat) (z : Int) (va : Option Addr) (vc : Nat), m + j = cs.length ∧ lv = .slice va j vc ∧ s = .int .i64 z ∧ z = (m : Int) - 1 ∧ (∀ b q, ca = some ⟨b, q, none⟩ → GRow eltVal 46 V.heap.size wr (.slice va j vc) (backVals w b q cs.length j)) ∧ Ext V wr) (fun _ s _ => (intOf s + 1).toNat)
  case atStart => exact ⟨cs.length, 0, _, none, 0, by omega, rfl, rfl, rfl, fun b q _ => GRow.nil, Below.refl _ _⟩
  case round =>
    obtain ⟨m, j, z, va, vc, hmj, rfl, rfl, hz, hrow, hext⟩ := hrel
    cases m with
    | succ q =>
      have hz' : z = (q : Int) := by omega
      subst hz'
      have hq : q < cs.length := by omega
      obtain ⟨cb, co, ca', cn', rfl, m0, -, -⟩ := HCL.out q hq
      have m0' := (hEV.trans hext).cell m0
      have hi1 : (q : Int) < cs.length := by omega
      have hwq : IntKind.i64.wrap ((q : Int) - 1) = (q : Int) - 1 := IntWalk.i64_in _ (by omega)
      have hrow1 := hrow cb co rfl
      have hval : (w.cell? ⟨cb, co + (cs.length - 1 - j), none⟩).getD undef = .slice ca' cs[q].length cn' := by
        have : cs.length - 1 - j = q := by omega
        rw [this, m0]; rfl
      have hsucc := backVals_succ w cb co cs.length j
      rw [hval] at hsucc
      generalize cs[q].length = cl at m0' hsucc
      have HSU := Lib.hid hsucc
      have HLE := Lib.hid (backVals_len w cb co cs.length j)
      clear hval hsucc m0 hz hrow
      have hj60 : j + 1 ≤ 60 := by omega
      go_wp2_with (at_builtin; refine wpList_append_row rfl _ _ _ rfl 46 i0 _ 24 Try.underlying33 hi0 hz0 hz1' hz2' rfl (by decide) V.heap.size (.slice va j vc) (backVals w cb co cs.length j) rfl wr hrow1 (ext_alloc _ _) wr.heap.size rfl _ _ (heap_alloc_new _ _) (.slice ca' cl cn') ⟨rfl, rfl⟩ (by go_light; rw [HLE.out]; simp only [maxLen]; omega) (by go_light; rw [HLE.out]; omega) (by go_light; have := hext.size; simp; omega) ?_; intro g2 cap2 w2 hrow2 hgrow2 hat2 hlt2; rw [HLE.out] at hrow2 ⊢; (have hx2 := Ext.append' hext hrow1 (Nat.le_refl _) (ext_alloc _ _) hgrow2); (have HRW := Lib.hid hrow2); clear hrow2 hgrow2 hat2)
      go_roundw
      case rel =>
        refine ⟨q, j + 1, _, _, cap2, by omega, rfl, rfl, by first | exact hwq | (rw [hwq]) | rfl, fun b q' e => ?_, hx2⟩
        injection e with e; injection e with e1 e2
        subst e1; subst e2
        rw [HSU.out]; exact HRW.out
      case measure => simp [intOf]
    | zero =>
      have hz' : z = -1 := by omega
      subst hz'
      have hj : j = cs.length := by omega
      have hB : IsCls wr va cs.reverse := by
        rcases Nat.eq_zero_or_pos cs.length with h0 | h0
        · intro i hi
          have : cs.reverse.length = 0 := by simp [h0]
          omega
        · obtain ⟨cb, co, ca', cn', rfl, m0, -, -⟩ := HCL.out 0 h0
          have := hrow cb co rfl
          rw [hj] at this
          exact back_cls HCL.out (hEV.trans hext) this
      have HB := Lib.hid hB
      subst hj
      replace k0 := hext.cell k0
      replace j0 := hext.cell j0
      replace j1 := hext.cell j1
      replace j2 := hext.cell j2
      replace j3 := hext.cell j3
      replace o0 := hext.cell o0
      replace o1 := hext.cell o1
      replace o2 := hext.cell o2
      replace o3 := hext.cell o3
      replace hu := hu.ext hext
      have hEr := hE1.trans hext
      clear hrow hB hz hext hE1 hEV
      rcases HOT.out with ⟨d1, rfl⟩ | ⟨d1, d2, rfl⟩ | ⟨d1, d2, rfl, hpe, hck⟩
      case' inr.inr => rw [hck] at H6; replace hpe := hpe.symm; subst hpe; clear hck
      all_goals
        go_wp2_with (first
          | (go_at_call 11; have hm4 := hx4; refine (H3.out _ hE4).mono ?_; rintro e w5 ⟨⟨v, rfl, u, rfl, hu3⟩, hx5⟩; obtain ⟨ra, rc, sa, sc, rfl⟩ := ord_form hu3; (first | (have hA5 := ext_alloc w5 (.cells #[.bool lpx, .slice ra precx.length rc, .slice sa wtsx.length sc, .int .i64 varx] 27); obtain ⟨x0, x1, x2, x3⟩ := cells4 w5 (.bool lpx) (.slice ra precx.length rc) (.slice sa wtsx.length sc) (.int .i64 varx) 27) | (have hA5 := ext_alloc w5 (.cells #[.bool lpx, .slice ra prec.length rc, .slice sa wtsx.length sc, .int .i64 varx] 27); obtain ⟨x0, x1, x2, x3⟩ := cells4 w5 (.bool lpx) (.slice ra prec.length rc) (.slice sa wtsx.length sc) (.int .i64 varx) 27)); (have hE5 := hE4.trans (hx5.trans hA5)); replace k0 := (hx5.trans hA5).cell k0; replace o1 := (hx5.trans hA5).cell o1; replace hu := hu.ext (hx5.trans hA5); replace hu3 := hu3.ext hA5; clear hA5)
          | (go_at_call 11; refine (H2.out _ hEr _ _ HB.out).mono ?_; rintro e w2 ⟨⟨v, rfl, u, rfl, hu2⟩, hx2⟩; obtain ⟨qa, qc, xa, xc, rfl⟩ := ord_form hu2; obtain ⟨p0, p1, p2, p3⟩ := cells4 w2 (.bool lp) (.slice qa prec.length qc) (.slice xa wts.length xc) (.int .i64 var) 27; (have hA2 := ext_alloc w2 (.cells #[.bool lp, .slice qa prec.length qc, .slice xa wts.length xc, .int .i64 var] 27)); (have hE2 := hx2.trans hA2); replace k0 := hE2.cell k0; replace j1 := hE2.cell j1; replace j3 := hE2.cell j3; replace o0 := hE2.cell o0; replace o1 := hE2.cell o1; replace o2 := hE2.cell o2; replace o3 := hE2.cell o3; replace hu := hu.ext hE2; replace hu2 := hu2.ext hA2; (have hE3 := hEr.trans hE2); clear j0 j2 hA2)
          | (go_at_call 15; refine (HS.out _ _ _ hu hu2).mono ?_; rintro e w3 ⟨rfl, hx3⟩; replace k0 := hx3.cell k0; replace j1 := hx3.cell j1; replace j3 := hx3.cell j3; replace o0 := hx3.cell o0; replace o1 := hx3.cell o1; replace o2 := hx3.cell o2; replace o3 := hx3.cell o3; replace hu := hu.ext hx3; replace hE3 := hE3.trans hx3)
          | (go_at_call 7; have hm6 := hx6; refine (H6.out _ (hE5.trans hx6) _ (hu3.ext hx6)).mono ?_; rintro e w7 ⟨rfl, hx7⟩)
          | (go_at_call 7; refine (H5.out _ hE3 _ hu).mono ?_; rintro e w4 ⟨rfl, hx4⟩; replace k0 := hx4.cell k0; replace j1 := hx4.cell j1; replace j3 := hx4.cell j3; replace o1 := hx4.cell o1; replace hu := hu.ext hx4; (have hE4 := hE3.trans hx4))
          | (go_at_call 16; have hi1 := hu; have hi2 := hu3; obtain ⟨ya1, yc1, yw1, yd1, ye1, yi1, -⟩ := hi1; obtain ⟨ya2, yc2, yw2, yd2, ye2, yi2, -⟩ := hi2; injection ye1 with ye1; injection ye2 with ye2; simp only [Array.mk.injEq, List.cons.injEq, Value.slice.injEq] at ye1 ye2; rw [← ye1.2.1.1] at yi1; rw [← ye2.2.1.1] at yi2; refine (HR.out _ _ _ _ _ yi1 yi2).mono ?_; rintro e w6 ⟨rfl, hx6⟩; replace k0 := hx6.cell k0; replace x0 := hx6.cell x0; replace x1 := hx6.cell x1; replace x2 := hx6.cell x2; replace x3 := hx6.cell x3; clear ye1 ye2)
          | (go_at_call 10; refine (Hw.out _).mono ?_; rintro e w8 ⟨rfl, hx8⟩))
        go_ret
        first | exact ⟨rfl, (hx.trans hE5).trans hx8⟩ | exact ⟨rfl, (hx.trans ((hE5.trans hx6).trans hx7)).trans hx8⟩
end Go.Proofs.Ytdmiphdohfcbeaa
