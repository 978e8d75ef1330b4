/- What the reference's pred and Check of the clause layer return. -/
import Derived.Test.YtoidhdcbemmfhaaDoorCl2
import Derived.Test.YtoidhdcbemmfhaaDoorSegRegion
namespace Go.Proofs.YtoidhdcbemmfhaaDoor
open Go.ChangeShapes Go.WideShapes Go.ChangeAt Go.RowKit
attribute [local go_sem] undef Oper.quiet Oper.quietAt Oper.quietUpon

theorem goes_ext : Goes Ext := ⟨fun w => Below.refl _ w, Ext.trans, fun w => Ext.drew (Below.refl _ w)⟩
theorem ext_base {w w' : World} (h : Ext { w with drawn := w.drawn + 1 } w') : Ext w w' := (Ext.drew (Below.refl w.heap.size w)).trans h

set_option maxHeartbeats 400000 in
set_option maxRecDepth 100000 in
theorem refPred_any (l : List Sy) (hl : l.length ≤ 1048576) (t : Tm) (hf : t.f < (l.length : Int)) (w : World) (a : Option Addr) (c : Nat) (hsy : IsSyms w a l) (x s : Value) (ht : IsTm w x s t) :
    Calls Tryd.prog 72 #[.agg #[.slice a l.length c], .agg #[x, s]] w fun e w' => e = .returned (.bool (predOf l t)) ∧ Ext w w' := by
  obtain ⟨a', c', rfl, rfl, hf1, hf2, -, -⟩ := ht.form
  have hx : Ext w ((w.alloc (.cells #[.slice a l.length c] 24)).alloc (.cells #[.int .i64 t.f, .slice a' t.ks.length c'] 27)) := by go_grown
  have hsy' := hsy.ext hx
  have Hx := Lib.hid hx; clear hx
  unfold predOf
  by_cases h0 : t.f < 0
  · rw [if_pos h0]
    go_enter Tryd.func72, Tryd.ntmps72
    go_wp2_with fail
    go_ret
    exact ⟨by simp, Hx.out⟩
  · rw [if_neg h0]
    obtain ⟨i, hi⟩ : ∃ i : Nat, t.f = i := ⟨t.f.toNat, by omega⟩
    rw [hi] at hsy' Hx hf ⊢
    have hil : i < l.length := by omega
    obtain ⟨b2, o2, rfl, hok2, g0, g1, g2⟩ := hsy'.look hil
    have hil' : (i : Int) < l.length := by omega
    rw [Int.toNat_natCast, List.getElem?_eq_getElem hil]
    have hge : (0 : Int) ≤ (i : Int) := by omega
    clear hsy hsy' h0 ht
    go_enter Tryd.func72, Tryd.ntmps72
    go_wp2_with fail
    go_ret
    exact ⟨by simp, Hx.out⟩

set_option maxHeartbeats 32000000 in
set_option maxRecDepth 100000 in
theorem refClCheck_any (l : List Sy) (hl : l.length ≤ 1048576) (c : List Lt) (hcs : ∀ x ∈ c, x.sized) (hcl : c.length ≤ 1048576) (w : World) (a : Option Addr) (n : Nat) (hsy : IsSyms w a l) (ca : Option Addr) (cn : Nat) (hc : IsLits w ca c) :
    Calls Tryd.prog 31 #[.agg #[.slice a l.length n], .slice ca c.length cn] w fun e w' => e = .returned (.int .i64 (clauseCheck l c)) ∧ Ext w w' := by
  obtain ⟨W, hW⟩ : ∃ W, W = w.alloc (.cells #[.slice a l.length n] 24) := ⟨_, rfl⟩
  have hx : Ext w W := by subst hW; go_grown
  have k0 : W.cell? ⟨w.heap.size, 0, none⟩ = some (.slice a l.length n) := by subst hW; go_simp
  have hS := refSigCheck_any l hl W a n (hsy.ext hx)
  obtain ⟨Z, hZ⟩ : ∃ Z, Z = sigCheck l := ⟨_, rfl⟩
  rw [← hZ] at hS
  obtain ⟨R, hR⟩ : ∃ R, R = clauseCheck l c := ⟨_, rfl⟩
  rw [← hR]
  have HS := Lib.hid hS; clear hS
  by_cases hz : Z = 0
  case neg =>
    have hz' : (Z != 0) = true := by simpa using hz
    have hR2 : R = 2 := by rw [hR]; unfold clauseCheck; rw [if_neg]; rintro ⟨h, -⟩; exact hz (hZ.trans h)
    subst hR2
    clear hR hZ hz
    go_enter Tryd.func31, Tryd.ntmps31
    go_wp2_with ((rw [← hW]; refine (HS.out).mono ?_); rintro e w1 ⟨rfl, hx1⟩)
    go_ret
    exact ⟨rfl, hx.trans hx1⟩
  subst hz
  by_cases h16 : 16 < c.length
  · have hR2 : R = 2 := by rw [hR]; unfold clauseCheck; rw [if_neg]; rintro ⟨-, h, -⟩; omega
    subst hR2
    have h16i : (16 : Int) < (c.length : Int) := by omega
    clear hR hZ
    go_enter Tryd.func31, Tryd.ntmps31
    go_wp2_with ((rw [← hW]; refine (HS.out).mono ?_); rintro e w1 ⟨rfl, hx1⟩)
    go_ret
    exact ⟨rfl, hx.trans hx1⟩
  have h16i : (c.length : Int) ≤ 16 := by omega
  have HZ := Lib.hid hZ.symm
  have HR := Lib.hid hR
  clear hR hZ
  have Hcs := Lib.hid hcs; clear hcs
  go_enter Tryd.func31, Tryd.ntmps31
  go_wp2_with ((rw [← hW]; clear hW; refine (HS.out).mono ?_); rintro e w1 ⟨rfl, hx1⟩)
  replace k0 := hx1.cell k0
  replace hx := hx.trans hx1
  clear hx1 HS
  go_loopw [5] (fun i wr => ∃ k : Nat, k ≤ c.length ∧ i = .int .i64 k ∧ (c.take k).all (litOk l) = true ∧ Ext w1 wr) (fun i _ => c.length - (intOf i).toNat)
  case atStart => exact ⟨0, Nat.zero_le _, rfl, rfl, Below.refl _ _⟩
  case round =>
    obtain ⟨k, hkk, rfl, hall, hext⟩ := hrel
    have Hall := Lib.hid hall; clear hall
    have q0 := hext.cell k0
    have hxr := hx.trans hext
    by_cases hlt : k < c.length
    case neg =>
      have hk1 : ¬ (k : Int) < c.length := by omega
      have hke : k = c.length := by omega
      have hR0 : R = 0 := by
        rw [HR.out]
        have h := Hall.out
        rw [hke] at h
        exact clauseCheck_good HZ.out (by omega) h
      subst hR0
      go_wp2_with fail
      go_ret
      exact ⟨rfl, hxr⟩
    have hk1 : (k : Int) < c.length := by omega
    obtain ⟨hsl, hsr⟩ := Hcs.out _ (List.getElem_mem hlt)
    obtain ⟨b, o, la, lc, ra, rc, rfl, h1, h2, h3, h4, h5, hL, hRt⟩ := hc k hlt
    have g1 := hxr.cell h1
    have g2 := hxr.cell h2
    have g3 := hxr.cell h3
    have g4 := hxr.cell h4
    have g5 := hxr.cell h5
    clear h1 h2 h3 h4 h5
    have Hbad := Lib.hid (fun h => HR.out.trans (clauseCheck_bad (l := l) hlt h))
    have Hgood := Lib.hid (all_step (l := l) hlt Hall.out)
    have cL := fun w' (h : Ext w w') => refTermCheck_any l hl c[k].l hsl w' a n (hsy.ext h) _ _ (hL.ext h)
    have cR := fun w' (h : Ext w w') => refTermCheck_any l hl c[k].r hsr w' a n (hsy.ext h) _ _ (hRt.ext h)
    have tL := fun w' (h : Ext w w') => refTrue_any c[k].l w' _ _ (hL.ext h)
    have tR := fun w' (h : Ext w w') => refTrue_any c[k].r w' _ _ (hRt.ext h)
    have pL := fun (hz : termCheck l c[k].l = 0) w' (h : Ext w w') => refPred_any l hl c[k].l (checked_lt hz) w' a n (hsy.ext h) _ _ (hL.ext h)
    have pR := fun (hz : termCheck l c[k].r = 0) w' (h : Ext w w') => refPred_any l hl c[k].r (checked_lt hz) w' a n (hsy.ext h) _ _ (hRt.ext h)
    have hok : litOk l c[k] = (decide (termCheck l c[k].l = 0) && (decide (termCheck l c[k].r = 0) && ((predOf l c[k].l == predOf l c[k].r) && !(predOf l c[k].l && (c[k].l.isTrue || !c[k].r.isTrue))))) := rfl
    have hcaL := checkCases l c[k].l
    have hcaR := checkCases l c[k].r
    generalize litOk l c[k] = OK at Hbad Hgood hok
    generalize termCheck l c[k].l = ZL at cL pL hok hcaL
    generalize termCheck l c[k].r = ZR at cR pR hok hcaR
    generalize predOf l c[k].l = PL at pL hok
    generalize predOf l c[k].r = PR at pR hok
    generalize c[k].l.isTrue = TL at tL hok
    generalize c[k].r.isTrue = TR at tR hok
    generalize c[k].neg = neg at g1
    generalize c[k].l.f = lf at g2 cL tL pL hL
    generalize c[k].r.f = rf at g4 cR tR pR hRt
    generalize c[k].l.ks.length = ll at g3 cL tL pL hL
    generalize c[k].r.ks.length = rl at g5 cR tR pR hRt
    have CL := Lib.hid cL
    have CR := Lib.hid cR
    have TLc := Lib.hid tL
    have TRc := Lib.hid tR
    have PLc := Lib.hid pL
    have PRc := Lib.hid pR
    have Hok := Lib.hid hok
    clear cL cR tL tR pL pR hok hL hRt
    clear hsy hc
    have hA := ext_alloc wr (.cells #[.bool neg, .int .i64 lf, .slice la ll lc, .int .i64 rf, .slice ra rl rc] 65)
    have m := cells5 wr (.bool neg) (.int .i64 lf) (.slice la ll lc) (.int .i64 rf) (.slice ra rl rc) 65
    rcases hcaL with rfl | rfl
    case inr =>
      obtain ⟨m0, m1, m2, m3, m4⟩ := m
      have m5 := hA.cell q0
      have E2 := hxr.trans hA
      go_wp2_with fail
      obtain ⟨W2, hW2⟩ : ∃ W2, W2 = wr.alloc (.cells #[.bool neg, .int .i64 lf, .slice la ll lc, .int .i64 rf, .slice ra rl rc] 65) := ⟨_, rfl⟩
      rw [← hW2] at hA m0 m1 m2 m3 m4 m5 E2 ⊢
      clear hW2
      go_wp2_with (first
        | (go_at_call 15; with_reducible refine (CL.out _ E2).mono ?_; rintro e w3 ⟨rfl, hx3⟩; have d0 := hx3.cell m0; have d1 := hx3.cell m1; have d2 := hx3.cell m2; have d3 := hx3.cell m3; have d4 := hx3.cell m4; have d5 := hx3.cell m5; have E3 := E2.trans hx3))
      go_ret
      exact ⟨ret_int (Hbad.out (by rw [Hok.out]; simp)).symm, E3⟩
    rcases hcaR with rfl | rfl
    case inr =>
      obtain ⟨m0, m1, m2, m3, m4⟩ := m
      have m5 := hA.cell q0
      have E2 := hxr.trans hA
      go_wp2_with fail
      obtain ⟨W2, hW2⟩ : ∃ W2, W2 = wr.alloc (.cells #[.bool neg, .int .i64 lf, .slice la ll lc, .int .i64 rf, .slice ra rl rc] 65) := ⟨_, rfl⟩
      rw [← hW2] at hA m0 m1 m2 m3 m4 m5 E2 ⊢
      clear hW2
      go_wp2_with (first
        | (go_at_call 15; with_reducible refine (CL.out _ E2).mono ?_; rintro e w3 ⟨rfl, hx3⟩; have d0 := hx3.cell m0; have d1 := hx3.cell m1; have d2 := hx3.cell m2; have d3 := hx3.cell m3; have d4 := hx3.cell m4; have d5 := hx3.cell m5; have E3 := E2.trans hx3)
        | (go_at_call 15; with_reducible refine (CR.out _ E3).mono ?_; rintro e w4 ⟨rfl, hx4⟩; have u0 := hx4.cell d0; have u1 := hx4.cell d1; have u2 := hx4.cell d2; have u3 := hx4.cell d3; have u4 := hx4.cell d4; have u5 := hx4.cell d5; have E4 := E3.trans hx4))
      go_ret
      exact ⟨ret_int (Hbad.out (by rw [Hok.out]; simp)).symm, E4⟩
    have PLd := Lib.hid (PLc.out rfl)
    have PRd := Lib.hid (PRc.out rfl)
    clear PLc PRc
    cases PL with
    | false =>
      cases PR with
      | false =>
        obtain ⟨m0, m1, m2, m3, m4⟩ := m
        have m5 := hA.cell q0
        have E2 := hxr.trans hA
        go_wp2_with fail
        obtain ⟨W2, hW2⟩ : ∃ W2, W2 = wr.alloc (.cells #[.bool neg, .int .i64 lf, .slice la ll lc, .int .i64 rf, .slice ra rl rc] 65) := ⟨_, rfl⟩
        rw [← hW2] at hA m0 m1 m2 m3 m4 m5 E2 ⊢
        clear hW2
        go_wp2_with (first
          | (go_at_call 15; with_reducible refine (CL.out _ E2).mono ?_; rintro e w3 ⟨rfl, hx3⟩; have d0 := hx3.cell m0; have d1 := hx3.cell m1; have d2 := hx3.cell m2; have d3 := hx3.cell m3; have d4 := hx3.cell m4; have d5 := hx3.cell m5; have E3 := E2.trans hx3)
          | (go_at_call 15; with_reducible refine (CR.out _ E3).mono ?_; rintro e w4 ⟨rfl, hx4⟩; have u0 := hx4.cell d0; have u1 := hx4.cell d1; have u2 := hx4.cell d2; have u3 := hx4.cell d3; have u4 := hx4.cell d4; have u5 := hx4.cell d5; have E4 := E3.trans hx4))
        have F4 : Ext w1 w4 := hext.trans (hA.trans (hx3.trans hx4))
        refine wp_region_noPanic ?_
        refine wp_region_W Ext 26 goes_ext (by kernel_rfl) (by kernel_rfl) (fun _ _ _ _ _ h => h) ?_
        have HU := Lib.hid (And.intro E4 (And.intro u0 (And.intro u1 (And.intro u2 (And.intro u3 (And.intro u4 u5))))))
        clear u0 u1 u2 u3 u4 u5 hA hx hext hxr
        iterate 26 (first
          | (refine wpW_skip (by decide) (by rfl) ?_; simp only [Act.put, List.setIfInBounds_toArray, List.set_cons_zero, List.set_cons_succ])
          | (apply wpW_want
             · decide
             · rfl
             · intro v1 hv
               obtain ⟨EE, u0, u1, u2, u3, u4, u5⟩ := HU.out
               have hv2 := ext_base hv
               have EV := EE.trans hv2
               replace u0 := hv2.cell u0
               replace u1 := hv2.cell u1
               replace u2 := hv2.cell u2
               replace u3 := hv2.cell u3
               replace u4 := hv2.cell u4
               replace u5 := hv2.cell u5
               go_simp
               first
                 | done
                 | rfl
                 | ((with_reducible refine (PLd.out _ EV).mono ?_); rintro e w' ⟨rfl, hw'⟩; exact ⟨rfl, hw'⟩)
                 | ((with_reducible refine (PRd.out _ EV).mono ?_); rintro e w' ⟨rfl, hw'⟩; exact ⟨rfl, hw'⟩)
                 | ((with_reducible refine (TLc.out _ EV).mono ?_); rintro e w' ⟨rfl, hw'⟩; exact ⟨rfl, hw'⟩)
                 | ((with_reducible refine (TRc.out _ EV).mono ?_); rintro e w' ⟨rfl, hw'⟩; exact ⟨rfl, hw'⟩)
             simp only [Act.put, List.setIfInBounds_toArray, List.set_cons_zero, List.set_cons_succ]))
        refine wpW_end (fun w' hv => ?_)
        refine NoPanic.normal ?_
        have hv2 := ext_base hv
        have EV := E4.trans hv2
        have FV := F4.trans hv2
        go_wp2_with fail
        go_roundw
        case rel => exact ⟨k + 1, by omega, by go_num, Hgood.out (by rw [Hok.out]; rfl), FV⟩
        case measure => simp [intOf]; omega
      | true =>
        obtain ⟨m0, m1, m2, m3, m4⟩ := m
        have m5 := hA.cell q0
        have E2 := hxr.trans hA
        go_wp2_with fail
        obtain ⟨W2, hW2⟩ : ∃ W2, W2 = wr.alloc (.cells #[.bool neg, .int .i64 lf, .slice la ll lc, .int .i64 rf, .slice ra rl rc] 65) := ⟨_, rfl⟩
        rw [← hW2] at hA m0 m1 m2 m3 m4 m5 E2 ⊢
        clear hW2
        go_wp2_with (first
          | (go_at_call 15; with_reducible refine (CL.out _ E2).mono ?_; rintro e w3 ⟨rfl, hx3⟩; have d0 := hx3.cell m0; have d1 := hx3.cell m1; have d2 := hx3.cell m2; have d3 := hx3.cell m3; have d4 := hx3.cell m4; have d5 := hx3.cell m5; have E3 := E2.trans hx3)
          | (go_at_call 15; with_reducible refine (CR.out _ E3).mono ?_; rintro e w4 ⟨rfl, hx4⟩; have u0 := hx4.cell d0; have u1 := hx4.cell d1; have u2 := hx4.cell d2; have u3 := hx4.cell d3; have u4 := hx4.cell d4; have u5 := hx4.cell d5; have E4 := E3.trans hx4))
        have F4 : Ext w1 w4 := hext.trans (hA.trans (hx3.trans hx4))
        refine wp_region_noPanic ?_
        refine wp_region_W Ext 26 goes_ext (by kernel_rfl) (by kernel_rfl) (fun _ _ _ _ _ h => h) ?_
        have HU := Lib.hid (And.intro E4 (And.intro u0 (And.intro u1 (And.intro u2 (And.intro u3 (And.intro u4 u5))))))
        clear u0 u1 u2 u3 u4 u5 hA hx hext hxr
        iterate 26 (first
          | (refine wpW_skip (by decide) (by rfl) ?_; simp only [Act.put, List.setIfInBounds_toArray, List.set_cons_zero, List.set_cons_succ])
          | (apply wpW_want
             · decide
             · rfl
             · intro v1 hv
               obtain ⟨EE, u0, u1, u2, u3, u4, u5⟩ := HU.out
               have hv2 := ext_base hv
               have EV := EE.trans hv2
               replace u0 := hv2.cell u0
               replace u1 := hv2.cell u1
               replace u2 := hv2.cell u2
               replace u3 := hv2.cell u3
               replace u4 := hv2.cell u4
               replace u5 := hv2.cell u5
               go_simp
               first
                 | done
                 | rfl
                 | ((with_reducible refine (PLd.out _ EV).mono ?_); rintro e w' ⟨rfl, hw'⟩; exact ⟨rfl, hw'⟩)
                 | ((with_reducible refine (PRd.out _ EV).mono ?_); rintro e w' ⟨rfl, hw'⟩; exact ⟨rfl, hw'⟩)
                 | ((with_reducible refine (TLc.out _ EV).mono ?_); rintro e w' ⟨rfl, hw'⟩; exact ⟨rfl, hw'⟩)
                 | ((with_reducible refine (TRc.out _ EV).mono ?_); rintro e w' ⟨rfl, hw'⟩; exact ⟨rfl, hw'⟩)
             simp only [Act.put, List.setIfInBounds_toArray, List.set_cons_zero, List.set_cons_succ]))
        refine wpW_end (fun w' hv => ?_)
        refine NoPanic.normal ?_
        have hv2 := ext_base hv
        have EV := E4.trans hv2
        have FV := F4.trans hv2
        go_wp2_with fail
        go_ret
        exact ⟨ret_int (Hbad.out (by rw [Hok.out]; simp)).symm, EV⟩
    | true =>
      cases PR with
      | false =>
        obtain ⟨m0, m1, m2, m3, m4⟩ := m
        have m5 := hA.cell q0
        have E2 := hxr.trans hA
        go_wp2_with fail
        obtain ⟨W2, hW2⟩ : ∃ W2, W2 = wr.alloc (.cells #[.bool neg, .int .i64 lf, .slice la ll lc, .int .i64 rf, .slice ra rl rc] 65) := ⟨_, rfl⟩
        rw [← hW2] at hA m0 m1 m2 m3 m4 m5 E2 ⊢
        clear hW2
        go_wp2_with (first
          | (go_at_call 15; with_reducible refine (CL.out _ E2).mono ?_; rintro e w3 ⟨rfl, hx3⟩; have d0 := hx3.cell m0; have d1 := hx3.cell m1; have d2 := hx3.cell m2; have d3 := hx3.cell m3; have d4 := hx3.cell m4; have d5 := hx3.cell m5; have E3 := E2.trans hx3)
          | (go_at_call 15; with_reducible refine (CR.out _ E3).mono ?_; rintro e w4 ⟨rfl, hx4⟩; have u0 := hx4.cell d0; have u1 := hx4.cell d1; have u2 := hx4.cell d2; have u3 := hx4.cell d3; have u4 := hx4.cell d4; have u5 := hx4.cell d5; have E4 := E3.trans hx4))
        have F4 : Ext w1 w4 := hext.trans (hA.trans (hx3.trans hx4))
        refine wp_region_noPanic ?_
        refine wp_region_W Ext 26 goes_ext (by kernel_rfl) (by kernel_rfl) (fun _ _ _ _ _ h => h) ?_
        have HU := Lib.hid (And.intro E4 (And.intro u0 (And.intro u1 (And.intro u2 (And.intro u3 (And.intro u4 u5))))))
        clear u0 u1 u2 u3 u4 u5 hA hx hext hxr
        iterate 26 (first
          | (refine wpW_skip (by decide) (by rfl) ?_; simp only [Act.put, List.setIfInBounds_toArray, List.set_cons_zero, List.set_cons_succ])
          | (apply wpW_want
             · decide
             · rfl
             · intro v1 hv
               obtain ⟨EE, u0, u1, u2, u3, u4, u5⟩ := HU.out
               have hv2 := ext_base hv
               have EV := EE.trans hv2
               replace u0 := hv2.cell u0
               replace u1 := hv2.cell u1
               replace u2 := hv2.cell u2
               replace u3 := hv2.cell u3
               replace u4 := hv2.cell u4
               replace u5 := hv2.cell u5
               go_simp
               first
                 | done
                 | rfl
                 | ((with_reducible refine (PLd.out _ EV).mono ?_); rintro e w' ⟨rfl, hw'⟩; exact ⟨rfl, hw'⟩)
                 | ((with_reducible refine (PRd.out _ EV).mono ?_); rintro e w' ⟨rfl, hw'⟩; exact ⟨rfl, hw'⟩)
                 | ((with_reducible refine (TLc.out _ EV).mono ?_); rintro e w' ⟨rfl, hw'⟩; exact ⟨rfl, hw'⟩)
                 | ((with_reducible refine (TRc.out _ EV).mono ?_); rintro e w' ⟨rfl, hw'⟩; exact ⟨rfl, hw'⟩)
             simp only [Act.put, List.setIfInBounds_toArray, List.set_cons_zero, List.set_cons_succ]))
        refine wpW_end (fun w' hv => ?_)
        refine NoPanic.normal ?_
        have hv2 := ext_base hv
        have EV := E4.trans hv2
        have FV := F4.trans hv2
        go_wp2_with fail
        go_ret
        exact ⟨ret_int (Hbad.out (by rw [Hok.out]; simp)).symm, EV⟩
      | true =>
        cases TL with
        | true =>
          obtain ⟨m0, m1, m2, m3, m4⟩ := m
          have m5 := hA.cell q0
          have E2 := hxr.trans hA
          go_wp2_with fail
          obtain ⟨W2, hW2⟩ : ∃ W2, W2 = wr.alloc (.cells #[.bool neg, .int .i64 lf, .slice la ll lc, .int .i64 rf, .slice ra rl rc] 65) := ⟨_, rfl⟩
          rw [← hW2] at hA m0 m1 m2 m3 m4 m5 E2 ⊢
          clear hW2
          go_wp2_with (first
            | (go_at_call 15; with_reducible refine (CL.out _ E2).mono ?_; rintro e w3 ⟨rfl, hx3⟩; have d0 := hx3.cell m0; have d1 := hx3.cell m1; have d2 := hx3.cell m2; have d3 := hx3.cell m3; have d4 := hx3.cell m4; have d5 := hx3.cell m5; have E3 := E2.trans hx3)
            | (go_at_call 15; with_reducible refine (CR.out _ E3).mono ?_; rintro e w4 ⟨rfl, hx4⟩; have u0 := hx4.cell d0; have u1 := hx4.cell d1; have u2 := hx4.cell d2; have u3 := hx4.cell d3; have u4 := hx4.cell d4; have u5 := hx4.cell d5; have E4 := E3.trans hx4))
          have F4 : Ext w1 w4 := hext.trans (hA.trans (hx3.trans hx4))
          refine wp_region_noPanic ?_
          refine wp_region_W Ext 26 goes_ext (by kernel_rfl) (by kernel_rfl) (fun _ _ _ _ _ h => h) ?_
          have HU := Lib.hid (And.intro E4 (And.intro u0 (And.intro u1 (And.intro u2 (And.intro u3 (And.intro u4 u5))))))
          clear u0 u1 u2 u3 u4 u5 hA hx hext hxr
          iterate 26 (first
            | (refine wpW_skip (by decide) (by rfl) ?_; simp only [Act.put, List.setIfInBounds_toArray, List.set_cons_zero, List.set_cons_succ])
            | (apply wpW_want
               · decide
               · rfl
               · intro v1 hv
                 obtain ⟨EE, u0, u1, u2, u3, u4, u5⟩ := HU.out
                 have hv2 := ext_base hv
                 have EV := EE.trans hv2
                 replace u0 := hv2.cell u0
                 replace u1 := hv2.cell u1
                 replace u2 := hv2.cell u2
                 replace u3 := hv2.cell u3
                 replace u4 := hv2.cell u4
                 replace u5 := hv2.cell u5
                 go_simp
                 first
                   | done
                   | rfl
                   | ((with_reducible refine (PLd.out _ EV).mono ?_); rintro e w' ⟨rfl, hw'⟩; exact ⟨rfl, hw'⟩)
                   | ((with_reducible refine (PRd.out _ EV).mono ?_); rintro e w' ⟨rfl, hw'⟩; exact ⟨rfl, hw'⟩)
                   | ((with_reducible refine (TLc.out _ EV).mono ?_); rintro e w' ⟨rfl, hw'⟩; exact ⟨rfl, hw'⟩)
                   | ((with_reducible refine (TRc.out _ EV).mono ?_); rintro e w' ⟨rfl, hw'⟩; exact ⟨rfl, hw'⟩)
               simp only [Act.put, List.setIfInBounds_toArray, List.set_cons_zero, List.set_cons_succ]))
          refine wpW_end (fun w' hv => ?_)
          refine NoPanic.normal ?_
          have hv2 := ext_base hv
          have EV := E4.trans hv2
          have FV := F4.trans hv2
          go_wp2_with fail
          go_ret
          exact ⟨ret_int (Hbad.out (by rw [Hok.out]; simp)).symm, EV⟩
        | false =>
          cases TR with
          | true =>
            obtain ⟨m0, m1, m2, m3, m4⟩ := m
            have m5 := hA.cell q0
            have E2 := hxr.trans hA
            go_wp2_with fail
            obtain ⟨W2, hW2⟩ : ∃ W2, W2 = wr.alloc (.cells #[.bool neg, .int .i64 lf, .slice la ll lc, .int .i64 rf, .slice ra rl rc] 65) := ⟨_, rfl⟩
            rw [← hW2] at hA m0 m1 m2 m3 m4 m5 E2 ⊢
            clear hW2
            go_wp2_with (first
              | (go_at_call 15; with_reducible refine (CL.out _ E2).mono ?_; rintro e w3 ⟨rfl, hx3⟩; have d0 := hx3.cell m0; have d1 := hx3.cell m1; have d2 := hx3.cell m2; have d3 := hx3.cell m3; have d4 := hx3.cell m4; have d5 := hx3.cell m5; have E3 := E2.trans hx3)
              | (go_at_call 15; with_reducible refine (CR.out _ E3).mono ?_; rintro e w4 ⟨rfl, hx4⟩; have u0 := hx4.cell d0; have u1 := hx4.cell d1; have u2 := hx4.cell d2; have u3 := hx4.cell d3; have u4 := hx4.cell d4; have u5 := hx4.cell d5; have E4 := E3.trans hx4))
            have F4 : Ext w1 w4 := hext.trans (hA.trans (hx3.trans hx4))
            refine wp_region_noPanic ?_
            refine wp_region_W Ext 26 goes_ext (by kernel_rfl) (by kernel_rfl) (fun _ _ _ _ _ h => h) ?_
            have HU := Lib.hid (And.intro E4 (And.intro u0 (And.intro u1 (And.intro u2 (And.intro u3 (And.intro u4 u5))))))
            clear u0 u1 u2 u3 u4 u5 hA hx hext hxr
            iterate 26 (first
              | (refine wpW_skip (by decide) (by rfl) ?_; simp only [Act.put, List.setIfInBounds_toArray, List.set_cons_zero, List.set_cons_succ])
              | (apply wpW_want
                 · decide
                 · rfl
                 · intro v1 hv
                   obtain ⟨EE, u0, u1, u2, u3, u4, u5⟩ := HU.out
                   have hv2 := ext_base hv
                   have EV := EE.trans hv2
                   replace u0 := hv2.cell u0
                   replace u1 := hv2.cell u1
                   replace u2 := hv2.cell u2
                   replace u3 := hv2.cell u3
                   replace u4 := hv2.cell u4
                   replace u5 := hv2.cell u5
                   go_simp
                   first
                     | done
                     | rfl
                     | ((with_reducible refine (PLd.out _ EV).mono ?_); rintro e w' ⟨rfl, hw'⟩; exact ⟨rfl, hw'⟩)
                     | ((with_reducible refine (PRd.out _ EV).mono ?_); rintro e w' ⟨rfl, hw'⟩; exact ⟨rfl, hw'⟩)
                     | ((with_reducible refine (TLc.out _ EV).mono ?_); rintro e w' ⟨rfl, hw'⟩; exact ⟨rfl, hw'⟩)
                     | ((with_reducible refine (TRc.out _ EV).mono ?_); rintro e w' ⟨rfl, hw'⟩; exact ⟨rfl, hw'⟩)
                 simp only [Act.put, List.setIfInBounds_toArray, List.set_cons_zero, List.set_cons_succ]))
            refine wpW_end (fun w' hv => ?_)
            refine NoPanic.normal ?_
            have hv2 := ext_base hv
            have EV := E4.trans hv2
            have FV := F4.trans hv2
            go_wp2_with fail
            go_roundw
            case rel => exact ⟨k + 1, by omega, by go_num, Hgood.out (by rw [Hok.out]; rfl), FV⟩
            case measure => simp [intOf]; omega
          | false =>
            obtain ⟨m0, m1, m2, m3, m4⟩ := m
            have m5 := hA.cell q0
            have E2 := hxr.trans hA
            go_wp2_with fail
            obtain ⟨W2, hW2⟩ : ∃ W2, W2 = wr.alloc (.cells #[.bool neg, .int .i64 lf, .slice la ll lc, .int .i64 rf, .slice ra rl rc] 65) := ⟨_, rfl⟩
            rw [← hW2] at hA m0 m1 m2 m3 m4 m5 E2 ⊢
            clear hW2
            go_wp2_with (first
              | (go_at_call 15; with_reducible refine (CL.out _ E2).mono ?_; rintro e w3 ⟨rfl, hx3⟩; have d0 := hx3.cell m0; have d1 := hx3.cell m1; have d2 := hx3.cell m2; have d3 := hx3.cell m3; have d4 := hx3.cell m4; have d5 := hx3.cell m5; have E3 := E2.trans hx3)
              | (go_at_call 15; with_reducible refine (CR.out _ E3).mono ?_; rintro e w4 ⟨rfl, hx4⟩; have u0 := hx4.cell d0; have u1 := hx4.cell d1; have u2 := hx4.cell d2; have u3 := hx4.cell d3; have u4 := hx4.cell d4; have u5 := hx4.cell d5; have E4 := E3.trans hx4))
            have F4 : Ext w1 w4 := hext.trans (hA.trans (hx3.trans hx4))
            refine wp_region_noPanic ?_
            refine wp_region_W Ext 26 goes_ext (by kernel_rfl) (by kernel_rfl) (fun _ _ _ _ _ h => h) ?_
            have HU := Lib.hid (And.intro E4 (And.intro u0 (And.intro u1 (And.intro u2 (And.intro u3 (And.intro u4 u5))))))
            clear u0 u1 u2 u3 u4 u5 hA hx hext hxr
            iterate 26 (first
              | (refine wpW_skip (by decide) (by rfl) ?_; simp only [Act.put, List.setIfInBounds_toArray, List.set_cons_zero, List.set_cons_succ])
              | (apply wpW_want
                 · decide
                 · rfl
                 · intro v1 hv
                   obtain ⟨EE, u0, u1, u2, u3, u4, u5⟩ := HU.out
                   have hv2 := ext_base hv
                   have EV := EE.trans hv2
                   replace u0 := hv2.cell u0
                   replace u1 := hv2.cell u1
                   replace u2 := hv2.cell u2
                   replace u3 := hv2.cell u3
                   replace u4 := hv2.cell u4
                   replace u5 := hv2.cell u5
                   go_simp
                   first
                     | done
                     | rfl
                     | ((with_reducible refine (PLd.out _ EV).mono ?_); rintro e w' ⟨rfl, hw'⟩; exact ⟨rfl, hw'⟩)
                     | ((with_reducible refine (PRd.out _ EV).mono ?_); rintro e w' ⟨rfl, hw'⟩; exact ⟨rfl, hw'⟩)
                     | ((with_reducible refine (TLc.out _ EV).mono ?_); rintro e w' ⟨rfl, hw'⟩; exact ⟨rfl, hw'⟩)
                     | ((with_reducible refine (TRc.out _ EV).mono ?_); rintro e w' ⟨rfl, hw'⟩; exact ⟨rfl, hw'⟩)
                 simp only [Act.put, List.setIfInBounds_toArray, List.set_cons_zero, List.set_cons_succ]))
            refine wpW_end (fun w' hv => ?_)
            refine NoPanic.normal ?_
            have hv2 := ext_base hv
            have EV := E4.trans hv2
            have FV := F4.trans hv2
            go_wp2_with fail
            go_ret
            exact ⟨ret_int (Hbad.out (by rw [Hok.out]; simp)).symm, EV⟩

end Go.Proofs.YtoidhdcbemmfhaaDoor
