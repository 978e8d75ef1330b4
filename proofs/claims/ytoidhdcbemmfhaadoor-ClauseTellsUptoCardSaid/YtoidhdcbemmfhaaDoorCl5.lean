/- What clause.Text returns. -/
import Derived.Test.YtoidhdcbemmfhaaDoorCl4
namespace Go.Proofs.YtoidhdcbemmfhaaDoor
open Go.ChangeShapes Go.WideShapes Go.ChangeAt Go.RowKit

set_option maxHeartbeats 4000000 in
set_option maxRecDepth 100000 in
theorem clText_any (l : List Sy) (hl : l.length ≤ 1048576) (c : List Lt) (hcs : ∀ x ∈ c, x.sized) (hcl : c.length ≤ 1048576) (w : World) (a : Option Addr) (n : Nat) (hln : l.length ≤ n) (hn63 : n ≤ 9223372036854775807) (hsy : IsSyms w a l) (ca : Option Addr) (cn : Nat) (hc : IsLits w ca c) :
    Calls Tryd.prog 28 #[.agg #[.slice a l.length n], .slice ca c.length cn] w fun e w' => e = .returned (.tuple #[.string (str (clauseText l c)), .int .i64 (clauseCheck l c)]) ∧ Ext w w' := by
  obtain ⟨W, hW⟩ : ∃ W, W = w.alloc (.cells #[.slice a l.length n] 24) := ⟨_, rfl⟩
  have hx : Ext w W := by subst hW; go_grown
  have k0 : W.cell? ⟨w.heap.size, 0, none⟩ = some (.slice a l.length n) := by subst hW; go_simp
  have hS := clCheck_any l hl c hcs hcl W a n hln hn63 (hsy.ext hx) ca cn (hc.ext hx)
  have hno := namesOk_of hsy
  obtain ⟨R, hR⟩ : ∃ R, R = clauseText l c := ⟨_, rfl⟩
  rw [← hR]
  have hcase : clauseCheck l c = 0 ∨ clauseCheck l c = 2 := by unfold clauseCheck; split <;> simp
  by_cases hz : clauseCheck l c = 0
  case neg =>
    have hR2 : R = [] := by rw [hR]; unfold clauseText; rw [if_neg hz]
    have hz2 : clauseCheck l c = 2 := hcase.resolve_left hz
    rw [hz2] at hS ⊢
    subst hR2
    have HS := Lib.hid hS; clear hS
    clear hR hz hz2 hcase
    go_enter Tryd.func28, Tryd.ntmps28
    go_wp2_with ((rw [← hW]; refine (HS.out).mono ?_); rintro e w1 ⟨rfl, hx1⟩)
    go_ret2
    exact ⟨rfl, hx.trans hx1⟩
  have h16 : c.length ≤ 16 := by
    unfold clauseCheck at hz
    split at hz
    · rename_i h; exact h.2.1
    · cases hz
  have hR1 : R = if c.length = 0 then [36, 102, 97, 108, 115, 101] else clText l c := by rw [hR]; unfold clauseText; rw [if_pos hz]
  rw [hz] at hS ⊢
  have HS := Lib.hid hS; clear hS
  clear hR hz hcase
  by_cases h0 : c.length = 0
  · rw [if_pos h0] at hR1
    subst hR1
    have h0i : ((c.length : Int) == 0) = true := by rw [beq_iff_eq]; omega
    clear h0
    go_enter Tryd.func28, Tryd.ntmps28
    go_wp2_with ((rw [← hW]; refine (HS.out).mono ?_); rintro e w1 ⟨rfl, hx1⟩)
    go_ret2
    exact ⟨rfl, hx.trans hx1⟩
  rw [if_neg h0] at hR1
  have h0i : ((c.length : Int) == 0) = false := by rw [beq_eq_false_iff_ne]; omega
  have H0 := Lib.hid h0; clear h0
  have HR := Lib.hid hR1; clear hR1
  have Hcs := Lib.hid hcs; clear hcs
  obtain ⟨i0, hi0, hz0, hz1, hz2⟩ := info_parts infoStr
  go_enter Tryd.func28, Tryd.ntmps28
  go_wp2_with ((rw [← hW]; clear hW; refine (HS.out).mono ?_); rintro e w1 ⟨rfl, hx1⟩)
  replace k0 := hx1.cell k0
  replace hx := hx.trans hx1
  clear hx1 HS
  go_loopw [6, 22] (fun v i wr => ∃ k : Nat, k ≤ c.length ∧ i = .int .i64 k ∧ GRow eltStr 9 w1.heap.size wr v ((c.take k).map fun x => str (litText l x)) ∧ Ext w1 wr) (fun _ i _ => c.length - (intOf i).toNat)
  case atStart => exact ⟨0, Nat.zero_le _, rfl, GRow.nil, Below.refl _ _⟩
  case round =>
    obtain ⟨k, hkk, rfl, hrow, hext⟩ := hrel
    have q0 := hext.cell k0
    have hxr := hx.trans hext
    obtain ⟨va, vc, hv, hvc⟩ := hrow.form
    have hml : ((c.take k).map fun x => str (litText l x)).length = k := by rw [List.length_map, List.length_take]; omega
    rw [hml] at hv hvc
    subst hv
    by_cases hlt : k < c.length
    case neg =>
      have hk1 : ¬ (k : Int) < c.length := by omega
      have hke : k = c.length := by omega
      have h0 := H0.out
      subst hke
      have hM : ((c.take c.length).map fun x => str (litText l x)).map (fun (x : ByteArray) => x.data.toList) = c.map (litText l) := by
        rw [List.take_length, List.map_map]
        exact List.map_congr_left fun x _ => rfl
      have hlen := clText_le hno c h16
      have hR := HR.out
      unfold clText at hlen hR
      rw [← hM] at hlen hR
      generalize ((c.take c.length).map fun x => str (litText l x)) = M at hrow hml hlen hR
      obtain ⟨g, cap, hv, hcap, hg, hcell⟩ := hrow.strs (by omega)
      injection hv with e1 e2 e3
      clear e2
      subst e1; subst e3
      have hJ := Tryd.strings_Join g 0 vc M ⟨#[32, 124, 32]⟩ wr hcell hg (by omega) (by omega) (by show (Lib.join _ [32, 124, 32]).length ≤ _; omega)
      rw [hml] at hJ
      have e : (⟨(Lib.join (M.map fun (x : ByteArray) => x.data.toList) (⟨#[32, 124, 32]⟩ : ByteArray).data.toList).toArray⟩ : ByteArray) = str R := by rw [hR]; rfl
      rw [e] at hJ
      have HJ := Lib.hid hJ
      clear hJ e hR hlen hcell hM hno hml
      clear H0 HR
      go_wp2_with ((go_at_call 69; with_reducible refine (HJ.out).mono ?_); rintro e w2 ⟨rfl, hb⟩)
      go_ret2
      exact ⟨rfl, hxr.trans hb⟩
    have hk1 : (k : Int) < c.length := by omega
    obtain ⟨hsl, hsr⟩ := Hcs.out _ (List.getElem_mem hlt)
    obtain ⟨b, o, la, lc, ra, rc, rfl, h1, h2, h3, h4, h5, hL, hRt⟩ := hc k hlt
    have g1 := hxr.cell h1
    have g2 := hxr.cell h2
    have g3 := hxr.cell h3
    have g4 := hxr.cell h4
    have g5 := hxr.cell h5
    clear h1 h2 h3 h4 h5
    have cL := fun w' (h : Ext w w') => text_any l hl c[k].l hsl w' a n hln hn63 (hsy.ext h) _ _ (hL.ext h)
    have cR := fun w' (h : Ext w w') => text_any l hl c[k].r hsr w' a n hln hn63 (hsy.ext h) _ _ (hRt.ext h)
    have tR := fun w' (h : Ext w w') => clTrue_any c[k].r w' _ _ (hRt.ext h)
    have hstep : ((c.take (k + 1)).map fun x => str (litText l x)) = ((c.take k).map fun x => str (litText l x)) ++ [str (litText l c[k])] := by
      rw [List.take_succ_eq_append_getElem hlt, List.map_append]; rfl
    have hlit : litText l c[k] = if c[k].r.isTrue = true then (if c[k].neg = true then [126, 32] ++ termText l c[k].l else termText l c[k].l)
      else if c[k].neg = true then termText l c[k].l ++ ([32, 33, 61, 32] ++ termText l c[k].r) else termText l c[k].l ++ ([32, 61, 32] ++ termText l c[k].r) := rfl
    have hleL := termText_le hno c[k].l
    have hleR := termText_le hno c[k].r
    rw [hlit] at hstep
    clear hlit
    generalize termText l c[k].l = SL at cL hstep hleL
    generalize termText l c[k].r = SR at cR hstep hleR
    generalize termCheck l c[k].l = ZL at cL
    generalize termCheck l c[k].r = ZR at cR
    generalize c[k].r.isTrue = TR at tR hstep
    generalize c[k].neg = neg at g1 hstep
    generalize c[k].l.f = lf at g2 cL hL
    generalize c[k].r.f = rf at g4 cR tR hRt
    generalize c[k].l.ks.length = ll at g3 cL hL
    generalize c[k].r.ks.length = rl at g5 cR tR hRt
    have CL := Lib.hid cL
    have CR := Lib.hid cR
    have TRc := Lib.hid tR
    have Hstep := Lib.hid hstep
    clear cL cR tR hstep hL hRt
    clear hsy hc hno
    generalize hM : ((c.take k).map fun x => str (litText l x)) = M at hrow Hstep hml hvc
    clear hM
    have hA := ext_alloc wr (.cells #[.bool neg, .int .i64 lf, .slice la ll lc, .int .i64 rf, .slice ra rl rc] 65)
    have m := cells5 wr (.bool neg) (.int .i64 lf) (.slice la ll lc) (.int .i64 rf) (.slice ra rl rc) 65
    obtain ⟨BL, hBL⟩ : ∃ BL, BL = (⟨SL.toArray⟩ : ByteArray) := ⟨_, rfl⟩
    obtain ⟨BR, hBR⟩ : ∃ BR, BR = (⟨SR.toArray⟩ : ByteArray) := ⟨_, rfl⟩
    have hbl : BL.size ≤ 314574000 := by rw [hBL]; exact hleL
    have hbr : BR.size ≤ 314574000 := by rw [hBR]; exact hleR
    rw [← hBL] at CL
    rw [← hBR] at CR
    have HBL := Lib.hid hBL
    have HBR := Lib.hid hBR
    clear hBL hBR hleL hleR
    have b1 : 2 + BL.size ≤ 9223372036854775807 := by omega
    have b2 : 4 + BR.size ≤ 9223372036854775807 := by omega
    have b3 : BL.size + (4 + BR.size) ≤ 9223372036854775807 := by omega
    have b4 : 3 + BR.size ≤ 9223372036854775807 := by omega
    have b5 : BL.size + (3 + BR.size) ≤ 9223372036854775807 := by omega
    cases TR with
    | true =>
      cases neg with
      | true =>
        obtain ⟨m0, m1, m2, m3, m4⟩ := m
        have m5 := hA.cell q0
        have E2 := hxr.trans hA
        go_wp2_with fail
        obtain ⟨W2, hW2⟩ : ∃ W2, W2 = wr.alloc (.cells #[.bool true, .int .i64 lf, .slice la ll lc, .int .i64 rf, .slice ra rl rc] 65) := ⟨_, rfl⟩
        rw [← hW2] at hA m0 m1 m2 m3 m4 m5 E2 ⊢
        clear hW2
        go_wp2_with (first
          | (go_at_call 12; with_reducible refine (CL.out _ E2).mono ?_; rintro e w3 ⟨rfl, hx3⟩; have d0 := hx3.cell m0; have d1 := hx3.cell m1; have d2 := hx3.cell m2; have d3 := hx3.cell m3; have d4 := hx3.cell m4; have d5 := hx3.cell m5; have E3 := E2.trans hx3)
          | (go_at_call 12; with_reducible refine (CR.out _ E3).mono ?_; rintro e w4 ⟨rfl, hx4⟩; have u0 := hx4.cell d0; have u3 := hx4.cell d3; have u4 := hx4.cell d4; have E4 := E3.trans hx4)
          | (go_at_call 68; with_reducible refine (TRc.out _ E4).mono ?_; rintro e w5 ⟨rfl, hx5⟩; have v0 := hx5.cell u0; have v3 := hx5.cell u3; have v4 := hx5.cell u4; have E5 := E4.trans hx5)
          | (at_builtin; refine wpList_append_row rfl _ _ _ rfl 9 i0 _ 16 Tryd.underlying100 hi0 hz0 hz1 hz2 rfl (by decide) w1.heap.size (.slice va k vc) M rfl wr hrow (hA.trans (hx3.trans (hx4.trans (hx5.trans (ext_alloc _ _))))) w5.heap.size rfl _ _ (heap_alloc_new _ _) _ rfl (by rw [hml]; simp only [maxLen]; omega) (by rw [hml]; omega) (hext.trans (hA.trans (hx3.trans (hx4.trans (hx5.trans (ext_alloc _ _)))))).size ?_; intro g cap w9 hrow9 hgrow9 hat9 hlt9; rw [hml] at hrow9 ⊢; have hx9 := Ext.append' hext hrow (Nat.le_refl _) (hA.trans (hx3.trans (hx4.trans (hx5.trans (ext_alloc _ _))))) hgrow9))
        go_roundw
        case rel => exact ⟨k + 1, by omega, by go_num, by have e := Hstep.out; simp only [if_true, Bool.false_eq_true, if_false] at e; rw [e]; rw [HBL.out] at hrow9; (try rw [HBR.out] at hrow9); rw [← cat1]; exact hrow9, hx9⟩
        case measure => simp [intOf]; omega
      | false =>
        obtain ⟨m0, m1, m2, m3, m4⟩ := m
        have m5 := hA.cell q0
        have E2 := hxr.trans hA
        go_wp2_with fail
        obtain ⟨W2, hW2⟩ : ∃ W2, W2 = wr.alloc (.cells #[.bool false, .int .i64 lf, .slice la ll lc, .int .i64 rf, .slice ra rl rc] 65) := ⟨_, rfl⟩
        rw [← hW2] at hA m0 m1 m2 m3 m4 m5 E2 ⊢
        clear hW2
        go_wp2_with (first
          | (go_at_call 12; with_reducible refine (CL.out _ E2).mono ?_; rintro e w3 ⟨rfl, hx3⟩; have d0 := hx3.cell m0; have d1 := hx3.cell m1; have d2 := hx3.cell m2; have d3 := hx3.cell m3; have d4 := hx3.cell m4; have d5 := hx3.cell m5; have E3 := E2.trans hx3)
          | (go_at_call 12; with_reducible refine (CR.out _ E3).mono ?_; rintro e w4 ⟨rfl, hx4⟩; have u0 := hx4.cell d0; have u3 := hx4.cell d3; have u4 := hx4.cell d4; have E4 := E3.trans hx4)
          | (go_at_call 68; with_reducible refine (TRc.out _ E4).mono ?_; rintro e w5 ⟨rfl, hx5⟩; have v0 := hx5.cell u0; have v3 := hx5.cell u3; have v4 := hx5.cell u4; have E5 := E4.trans hx5)
          | (go_at_call 68; with_reducible refine (TRc.out _ E5).mono ?_; rintro e w6 ⟨rfl, hx6⟩; have y0 := hx6.cell v0; have E6 := E5.trans hx6)
          | (at_builtin; refine wpList_append_row rfl _ _ _ rfl 9 i0 _ 16 Tryd.underlying100 hi0 hz0 hz1 hz2 rfl (by decide) w1.heap.size (.slice va k vc) M rfl wr hrow (hA.trans (hx3.trans (hx4.trans (hx5.trans (hx6.trans (ext_alloc _ _)))))) w6.heap.size rfl _ _ (heap_alloc_new _ _) _ rfl (by rw [hml]; simp only [maxLen]; omega) (by rw [hml]; omega) (hext.trans (hA.trans (hx3.trans (hx4.trans (hx5.trans (hx6.trans (ext_alloc _ _))))))).size ?_; intro g cap w9 hrow9 hgrow9 hat9 hlt9; rw [hml] at hrow9 ⊢; have hx9 := Ext.append' hext hrow (Nat.le_refl _) (hA.trans (hx3.trans (hx4.trans (hx5.trans (hx6.trans (ext_alloc _ _)))))) hgrow9))
        go_roundw
        case rel => exact ⟨k + 1, by omega, by go_num, by have e := Hstep.out; simp only [if_true, Bool.false_eq_true, if_false] at e; rw [e]; rw [HBL.out] at hrow9; (try rw [HBR.out] at hrow9); exact hrow9, hx9⟩
        case measure => simp [intOf]; omega
    | false =>
      cases neg with
      | true =>
        obtain ⟨m0, m1, m2, m3, m4⟩ := m
        have m5 := hA.cell q0
        have E2 := hxr.trans hA
        go_wp2_with fail
        obtain ⟨W2, hW2⟩ : ∃ W2, W2 = wr.alloc (.cells #[.bool true, .int .i64 lf, .slice la ll lc, .int .i64 rf, .slice ra rl rc] 65) := ⟨_, rfl⟩
        rw [← hW2] at hA m0 m1 m2 m3 m4 m5 E2 ⊢
        clear hW2
        go_wp2_with (first
          | (go_at_call 12; with_reducible refine (CL.out _ E2).mono ?_; rintro e w3 ⟨rfl, hx3⟩; have d0 := hx3.cell m0; have d1 := hx3.cell m1; have d2 := hx3.cell m2; have d3 := hx3.cell m3; have d4 := hx3.cell m4; have d5 := hx3.cell m5; have E3 := E2.trans hx3)
          | (go_at_call 12; with_reducible refine (CR.out _ E3).mono ?_; rintro e w4 ⟨rfl, hx4⟩; have u0 := hx4.cell d0; have u3 := hx4.cell d3; have u4 := hx4.cell d4; have E4 := E3.trans hx4)
          | (go_at_call 68; with_reducible refine (TRc.out _ E4).mono ?_; rintro e w5 ⟨rfl, hx5⟩; have v0 := hx5.cell u0; have v3 := hx5.cell u3; have v4 := hx5.cell u4; have E5 := E4.trans hx5)
          | (go_at_call 68; with_reducible refine (TRc.out _ E5).mono ?_; rintro e w6 ⟨rfl, hx6⟩; have y0 := hx6.cell v0; have E6 := E5.trans hx6)
          | (at_builtin; refine wpList_append_row rfl _ _ _ rfl 9 i0 _ 16 Tryd.underlying100 hi0 hz0 hz1 hz2 rfl (by decide) w1.heap.size (.slice va k vc) M rfl wr hrow (hA.trans (hx3.trans (hx4.trans (hx5.trans (hx6.trans (ext_alloc _ _)))))) w6.heap.size rfl _ _ (heap_alloc_new _ _) _ rfl (by rw [hml]; simp only [maxLen]; omega) (by rw [hml]; omega) (hext.trans (hA.trans (hx3.trans (hx4.trans (hx5.trans (hx6.trans (ext_alloc _ _))))))).size ?_; intro g cap w9 hrow9 hgrow9 hat9 hlt9; rw [hml] at hrow9 ⊢; have hx9 := Ext.append' hext hrow (Nat.le_refl _) (hA.trans (hx3.trans (hx4.trans (hx5.trans (hx6.trans (ext_alloc _ _)))))) hgrow9))
        go_roundw
        case rel => exact ⟨k + 1, by omega, by go_num, by have e := Hstep.out; simp only [if_true, Bool.false_eq_true, if_false] at e; rw [e]; rw [HBL.out] at hrow9; (try rw [HBR.out] at hrow9); rw [← cat2]; exact hrow9, hx9⟩
        case measure => simp [intOf]; omega
      | false =>
        obtain ⟨m0, m1, m2, m3, m4⟩ := m
        have m5 := hA.cell q0
        have E2 := hxr.trans hA
        go_wp2_with fail
        obtain ⟨W2, hW2⟩ : ∃ W2, W2 = wr.alloc (.cells #[.bool false, .int .i64 lf, .slice la ll lc, .int .i64 rf, .slice ra rl rc] 65) := ⟨_, rfl⟩
        rw [← hW2] at hA m0 m1 m2 m3 m4 m5 E2 ⊢
        clear hW2
        go_wp2_with (first
          | (go_at_call 12; with_reducible refine (CL.out _ E2).mono ?_; rintro e w3 ⟨rfl, hx3⟩; have d0 := hx3.cell m0; have d1 := hx3.cell m1; have d2 := hx3.cell m2; have d3 := hx3.cell m3; have d4 := hx3.cell m4; have d5 := hx3.cell m5; have E3 := E2.trans hx3)
          | (go_at_call 12; with_reducible refine (CR.out _ E3).mono ?_; rintro e w4 ⟨rfl, hx4⟩; have u0 := hx4.cell d0; have u3 := hx4.cell d3; have u4 := hx4.cell d4; have E4 := E3.trans hx4)
          | (go_at_call 68; with_reducible refine (TRc.out _ E4).mono ?_; rintro e w5 ⟨rfl, hx5⟩; have v0 := hx5.cell u0; have v3 := hx5.cell u3; have v4 := hx5.cell u4; have E5 := E4.trans hx5)
          | (go_at_call 68; with_reducible refine (TRc.out _ E5).mono ?_; rintro e w6 ⟨rfl, hx6⟩; have y0 := hx6.cell v0; have E6 := E5.trans hx6)
          | (at_builtin; refine wpList_append_row rfl _ _ _ rfl 9 i0 _ 16 Tryd.underlying100 hi0 hz0 hz1 hz2 rfl (by decide) w1.heap.size (.slice va k vc) M rfl wr hrow (hA.trans (hx3.trans (hx4.trans (hx5.trans (hx6.trans (ext_alloc _ _)))))) w6.heap.size rfl _ _ (heap_alloc_new _ _) _ rfl (by rw [hml]; simp only [maxLen]; omega) (by rw [hml]; omega) (hext.trans (hA.trans (hx3.trans (hx4.trans (hx5.trans (hx6.trans (ext_alloc _ _))))))).size ?_; intro g cap w9 hrow9 hgrow9 hat9 hlt9; rw [hml] at hrow9 ⊢; have hx9 := Ext.append' hext hrow (Nat.le_refl _) (hA.trans (hx3.trans (hx4.trans (hx5.trans (hx6.trans (ext_alloc _ _)))))) hgrow9))
        go_roundw
        case rel => exact ⟨k + 1, by omega, by go_num, by have e := Hstep.out; simp only [if_true, Bool.false_eq_true, if_false] at e; rw [e]; rw [HBL.out] at hrow9; (try rw [HBR.out] at hrow9); rw [← cat3]; exact hrow9, hx9⟩
        case measure => simp [intOf]; omega

end Go.Proofs.YtoidhdcbemmfhaaDoor
