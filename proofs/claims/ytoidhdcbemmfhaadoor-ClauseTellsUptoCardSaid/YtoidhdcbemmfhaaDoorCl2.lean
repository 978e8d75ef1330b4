/- What Check of the clause layer returns. -/
import Derived.Test.YtoidhdcbemmfhaaDoorCl1
namespace Go.Proofs.YtoidhdcbemmfhaaDoor
open Go.ChangeShapes Go.WideShapes Go.ChangeAt Go.RowKit

def litOk (l : List Sy) (x : Lt) : Bool :=
  decide (termCheck l x.l = 0) && (decide (termCheck l x.r = 0) && ((predOf l x.l == predOf l x.r) && !(predOf l x.l && (x.l.isTrue || !x.r.isTrue))))
def clauseCheck (l : List Sy) (c : List Lt) : Int := if sigCheck l = 0 ∧ c.length ≤ 16 ∧ c.all (litOk l) = true then 0 else 2
theorem clauseCheck_bad {l : List Sy} {c : List Lt} {k : Nat} (hk : k < c.length) (h : litOk l c[k] = false) : clauseCheck l c = 2 := by
  unfold clauseCheck
  rw [if_neg]
  rintro ⟨-, -, h3⟩
  rw [List.all_eq_true] at h3
  rw [h3 _ (List.getElem_mem hk)] at h; cases h
theorem clauseCheck_good {l : List Sy} {c : List Lt} (h1 : sigCheck l = 0) (h2 : c.length ≤ 16) (h : (c.take c.length).all (litOk l) = true) : clauseCheck l c = 0 := by
  unfold clauseCheck
  rw [List.take_length] at h
  rw [if_pos ⟨h1, h2, h⟩]
theorem all_step {l : List Sy} {c : List Lt} {k : Nat} (hk : k < c.length) (h1 : (c.take k).all (litOk l) = true) (h2 : litOk l c[k] = true) : (c.take (k + 1)).all (litOk l) = true := by
  rw [List.take_succ_eq_append_getElem hk, List.all_append, h1]; simp [h2]
theorem over_lt {l : List Sy} {t : Tm} (h : t.over l true = true) : t.f < (l.length : Int) := by
  cases t with
  | mk f ks =>
    simp only [Tm.over, Bool.and_eq_true] at h
    have h := h.1
    simp only [Tm.f]
    by_cases hf : f < 0
    · omega
    · have e : okAt l true (.mk f ks) = (match l[f.toNat]? with
        | none => false
        | some s => (s.arity == (ks.length : Int)) && (true || !s.pred)) := by unfold okAt; rw [if_neg (by simpa [Tm.f] using hf)]; rfl
      rw [e] at h
      rcases Nat.lt_or_ge f.toNat l.length with h1 | h1
      · omega
      · rw [List.getElem?_eq_none h1] at h; cases h
theorem checked_lt {l : List Sy} {t : Tm} (h : termCheck l t = 0) : t.f < (l.length : Int) := by
  unfold termCheck at h
  split at h
  · rename_i h1; exact over_lt h1.2.2
  · cases h
theorem checkCases (l : List Sy) (t : Tm) : termCheck l t = 0 ∨ termCheck l t = 2 := by unfold termCheck; split <;> simp
/-- a literal's five cells in a new block -/
theorem cells5 (w : World) (p q r s u : Value) (t : TypeId) : (w.alloc (.cells #[p, q, r, s, u] t)).cell? ⟨w.heap.size, 0, none⟩ = some p ∧ (w.alloc (.cells #[p, q, r, s, u] t)).cell? ⟨w.heap.size, 1, none⟩ = some q ∧ (w.alloc (.cells #[p, q, r, s, u] t)).cell? ⟨w.heap.size, 2, none⟩ = some r ∧ (w.alloc (.cells #[p, q, r, s, u] t)).cell? ⟨w.heap.size, 3, none⟩ = some s ∧ (w.alloc (.cells #[p, q, r, s, u] t)).cell? ⟨w.heap.size, 4, none⟩ = some u := by
  refine ⟨?_, ?_, ?_, ?_, ?_⟩ <;> go_simp

set_option maxHeartbeats 8000000 in
set_option maxRecDepth 100000 in
theorem clCheck_any (l : List Sy) (hl : l.length ≤ 1048576) (c : List Lt) (hcs : ∀ x ∈ c, x.sized) (hcl : c.length ≤ 1048576) (w : World) (a : Option Addr) (n : Nat) (hln : l.length ≤ n) (hn63 : n ≤ 9223372036854775807) (hsy : IsSyms w a l) (ca : Option Addr) (cn : Nat) (hc : IsLits w ca c) :
    Calls Tryd.prog 30 #[.agg #[.slice a l.length n], .slice ca c.length cn] w fun e w' => e = .returned (.int .i64 (clauseCheck l c)) ∧ Ext w w' := by
  obtain ⟨W, hW⟩ : ∃ W, W = w.alloc (.cells #[.slice a l.length n] 24) := ⟨_, rfl⟩
  have hx : Ext w W := by subst hW; go_grown
  have k0 : W.cell? ⟨w.heap.size, 0, none⟩ = some (.slice a l.length n) := by subst hW; go_simp
  have hS := sigCheck_any l hl W a n hln hn63 (hsy.ext hx)
  obtain ⟨Z, hZ⟩ : ∃ Z, Z = sigCheck l := ⟨_, rfl⟩
  rw [← hZ] at hS
  obtain ⟨R, hR⟩ : ∃ R, R = clauseCheck l c := ⟨_, rfl⟩
  rw [← hR]
  have HS := Lib.hid hS; clear hS
  by_cases hz : Z = 0
  case neg =>
    have hz' : (Z != 0) = true := by simpa using hz
    have hR2 : R = 2 := by rw [hR]; unfold clauseCheck; rw [if_neg]; rintro ⟨h, -⟩; exact hz (hZ.trans h)
    subst hR2
    clear hR hZ hz
    go_enter Tryd.func30, Tryd.ntmps30
    go_wp2_with ((rw [← hW]; refine (HS.out).mono ?_); rintro e w1 ⟨rfl, hx1⟩)
    go_ret
    exact ⟨rfl, hx.trans hx1⟩
  subst hz
  by_cases h16 : 16 < c.length
  · have hR2 : R = 2 := by rw [hR]; unfold clauseCheck; rw [if_neg]; rintro ⟨-, h, -⟩; omega
    subst hR2
    have h16i : (16 : Int) < (c.length : Int) := by omega
    clear hR hZ
    go_enter Tryd.func30, Tryd.ntmps30
    go_wp2_with ((rw [← hW]; refine (HS.out).mono ?_); rintro e w1 ⟨rfl, hx1⟩)
    go_ret
    exact ⟨rfl, hx.trans hx1⟩
  have h16i : (c.length : Int) ≤ 16 := by omega
  have HZ := Lib.hid hZ.symm
  have HR := Lib.hid hR
  clear hR hZ
  have Hcs := Lib.hid hcs; clear hcs
  go_enter Tryd.func30, Tryd.ntmps30
  go_wp2_with ((rw [← hW]; clear hW; refine (HS.out).mono ?_); rintro e w1 ⟨rfl, hx1⟩)
  replace k0 := hx1.cell k0
  replace hx := hx.trans hx1
  clear hx1 HS
  go_loopw [19] (fun i wr => ∃ k : Nat, k ≤ c.length ∧ i = .int .i64 k ∧ (c.take k).all (litOk l) = true ∧ Ext w1 wr) (fun i _ => c.length - (intOf i).toNat)
  case atStart => exact ⟨0, Nat.zero_le _, rfl, rfl, Below.refl _ _⟩
  case round =>
    obtain ⟨k, hkk, rfl, hall, hext⟩ := hrel
    have Hall := Lib.hid hall; clear hall
    have q0 := hext.cell k0
    have hxr := hx.trans hext
    by_cases hlt : k < c.length
    case neg =>
      have hk1 : ¬ (k : Int) < c.length := by omega
      have hke : k = c.length := by omega
      have hR0 : R = 0 := by
        rw [HR.out]
        have h := Hall.out
        rw [hke] at h
        exact clauseCheck_good HZ.out (by omega) h
      subst hR0
      go_wp2_with fail
      go_ret
      exact ⟨rfl, hxr⟩
    have hk1 : (k : Int) < c.length := by omega
    obtain ⟨hsl, hsr⟩ := Hcs.out _ (List.getElem_mem hlt)
    obtain ⟨b, o, la, lc, ra, rc, rfl, h1, h2, h3, h4, h5, hL, hRt⟩ := hc k hlt
    have g1 := hxr.cell h1
    have g2 := hxr.cell h2
    have g3 := hxr.cell h3
    have g4 := hxr.cell h4
    have g5 := hxr.cell h5
    clear h1 h2 h3 h4 h5
    have Hbad := Lib.hid (fun h => HR.out.trans (clauseCheck_bad (l := l) hlt h))
    have Hgood := Lib.hid (all_step (l := l) hlt Hall.out)
    have cL := fun w' (h : Ext w w') => termCheck_any l hl c[k].l hsl w' a n hln hn63 (hsy.ext h) _ _ (hL.ext h)
    have cR := fun w' (h : Ext w w') => termCheck_any l hl c[k].r hsr w' a n hln hn63 (hsy.ext h) _ _ (hRt.ext h)
    have tL := fun w' (h : Ext w w') => clTrue_any c[k].l w' _ _ (hL.ext h)
    have tR := fun w' (h : Ext w w') => clTrue_any c[k].r w' _ _ (hRt.ext h)
    have pL := fun (hz : termCheck l c[k].l = 0) w' (h : Ext w w') (hk : w'.cell? ⟨w.heap.size, 0, none⟩ = some (.slice a l.length n)) => clPred_any l hl c[k].l (checked_lt hz) w' w.heap.size a n hk (hsy.ext h) _ _ (hL.ext h)
    have pR := fun (hz : termCheck l c[k].r = 0) w' (h : Ext w w') (hk : w'.cell? ⟨w.heap.size, 0, none⟩ = some (.slice a l.length n)) => clPred_any l hl c[k].r (checked_lt hz) w' w.heap.size a n hk (hsy.ext h) _ _ (hRt.ext h)
    have hok : litOk l c[k] = (decide (termCheck l c[k].l = 0) && (decide (termCheck l c[k].r = 0) && ((predOf l c[k].l == predOf l c[k].r) && !(predOf l c[k].l && (c[k].l.isTrue || !c[k].r.isTrue))))) := rfl
    have hcaL := checkCases l c[k].l
    have hcaR := checkCases l c[k].r
    generalize litOk l c[k] = OK at Hbad Hgood hok
    generalize termCheck l c[k].l = ZL at cL pL hok hcaL
    generalize termCheck l c[k].r = ZR at cR pR hok hcaR
    generalize predOf l c[k].l = PL at pL hok
    generalize predOf l c[k].r = PR at pR hok
    generalize c[k].l.isTrue = TL at tL hok
    generalize c[k].r.isTrue = TR at tR hok
    generalize c[k].neg = neg at g1
    generalize c[k].l.f = lf at g2 cL tL pL hL
    generalize c[k].r.f = rf at g4 cR tR pR hRt
    generalize c[k].l.ks.length = ll at g3 cL tL pL hL
    generalize c[k].r.ks.length = rl at g5 cR tR pR hRt
    have CL := Lib.hid cL
    have CR := Lib.hid cR
    have TLc := Lib.hid tL
    have TRc := Lib.hid tR
    have PLc := Lib.hid pL
    have PRc := Lib.hid pR
    have Hok := Lib.hid hok
    clear cL cR tL tR pL pR hok hL hRt
    clear hsy hc
    have hA := ext_alloc wr (.cells #[.bool neg, .int .i64 lf, .slice la ll lc, .int .i64 rf, .slice ra rl rc] 65)
    have m := cells5 wr (.bool neg) (.int .i64 lf) (.slice la ll lc) (.int .i64 rf) (.slice ra rl rc) 65
    rcases hcaL with rfl | rfl
    case inr =>
      obtain ⟨m0, m1, m2, m3, m4⟩ := m
      have m5 := hA.cell q0
      have E2 := hxr.trans hA
      go_wp2_with fail
      obtain ⟨W2, hW2⟩ : ∃ W2, W2 = wr.alloc (.cells #[.bool neg, .int .i64 lf, .slice la ll lc, .int .i64 rf, .slice ra rl rc] 65) := ⟨_, rfl⟩
      rw [← hW2] at hA m0 m1 m2 m3 m4 m5 E2 ⊢
      clear hW2
      go_wp2_with (first
        | (go_at_call 14; with_reducible refine (CL.out _ E2).mono ?_; rintro e w3 ⟨rfl, hx3⟩; have d0 := hx3.cell m0; have d1 := hx3.cell m1; have d2 := hx3.cell m2; have d3 := hx3.cell m3; have d4 := hx3.cell m4; have d5 := hx3.cell m5; have E3 := E2.trans hx3))
      go_ret
      exact ⟨ret_int (Hbad.out (by rw [Hok.out]; simp)).symm, E3⟩
    rcases hcaR with rfl | rfl
    case inr =>
      obtain ⟨m0, m1, m2, m3, m4⟩ := m
      have m5 := hA.cell q0
      have E2 := hxr.trans hA
      go_wp2_with fail
      obtain ⟨W2, hW2⟩ : ∃ W2, W2 = wr.alloc (.cells #[.bool neg, .int .i64 lf, .slice la ll lc, .int .i64 rf, .slice ra rl rc] 65) := ⟨_, rfl⟩
      rw [← hW2] at hA m0 m1 m2 m3 m4 m5 E2 ⊢
      clear hW2
      go_wp2_with (first
        | (go_at_call 14; with_reducible refine (CL.out _ E2).mono ?_; rintro e w3 ⟨rfl, hx3⟩; have d0 := hx3.cell m0; have d1 := hx3.cell m1; have d2 := hx3.cell m2; have d3 := hx3.cell m3; have d4 := hx3.cell m4; have d5 := hx3.cell m5; have E3 := E2.trans hx3)
        | (go_at_call 14; with_reducible refine (CR.out _ E3).mono ?_; rintro e w4 ⟨rfl, hx4⟩; have u0 := hx4.cell d0; have u1 := hx4.cell d1; have u2 := hx4.cell d2; have u3 := hx4.cell d3; have u4 := hx4.cell d4; have u5 := hx4.cell d5; have E4 := E3.trans hx4))
      go_ret
      exact ⟨ret_int (Hbad.out (by rw [Hok.out]; simp)).symm, E4⟩
    have PLd := Lib.hid (PLc.out rfl)
    have PRd := Lib.hid (PRc.out rfl)
    clear PLc PRc
    cases PL with
    | false =>
      cases PR with
      | false =>
        obtain ⟨m0, m1, m2, m3, m4⟩ := m
        have m5 := hA.cell q0
        have E2 := hxr.trans hA
        go_wp2_with fail
        obtain ⟨W2, hW2⟩ : ∃ W2, W2 = wr.alloc (.cells #[.bool neg, .int .i64 lf, .slice la ll lc, .int .i64 rf, .slice ra rl rc] 65) := ⟨_, rfl⟩
        rw [← hW2] at hA m0 m1 m2 m3 m4 m5 E2 ⊢
        clear hW2
        go_wp2_with (first
          | (go_at_call 14; with_reducible refine (CL.out _ E2).mono ?_; rintro e w3 ⟨rfl, hx3⟩; have d0 := hx3.cell m0; have d1 := hx3.cell m1; have d2 := hx3.cell m2; have d3 := hx3.cell m3; have d4 := hx3.cell m4; have d5 := hx3.cell m5; have E3 := E2.trans hx3)
          | (go_at_call 14; with_reducible refine (CR.out _ E3).mono ?_; rintro e w4 ⟨rfl, hx4⟩; have u0 := hx4.cell d0; have u1 := hx4.cell d1; have u2 := hx4.cell d2; have u3 := hx4.cell d3; have u4 := hx4.cell d4; have u5 := hx4.cell d5; have E4 := E3.trans hx4))
        have F4 : Ext w1 w4 := hext.trans (hA.trans (hx3.trans hx4))
        go_region_held3 (fun w' => w'.cell? ⟨wr.heap.size, 0, none⟩ = some (.bool neg) ∧ w'.cell? ⟨wr.heap.size, 1, none⟩ = some (.int .i64 lf) ∧ w'.cell? ⟨wr.heap.size, 2, none⟩ = some (.slice la ll lc) ∧ w'.cell? ⟨wr.heap.size, 3, none⟩ = some (.int .i64 rf) ∧ w'.cell? ⟨wr.heap.size, 4, none⟩ = some (.slice ra rl rc) ∧ w'.cell? ⟨w.heap.size, 0, none⟩ = some (.slice a l.length n) ∧ Ext w w' ∧ Ext w1 w')
          (((try go_split_ands); refine ⟨?_, ?_, ?_, ?_, ?_, ?_, ?_, ?_⟩ <;> first | (with_reducible assumption) | exact Below.drew (Below.refl _ _) | exact Ext.drew (by assumption) | exact Ext.drew (ext_alloc _ _) | (apply Ext.cell hw'; (with_reducible assumption)) | exact Ext.trans (by assumption) hw' | exact Ext.frozen hw' (by (with_reducible assumption)) (by (with_reducible assumption)) | (go_keep; done)))
          ((first
            | (go_at_call 71; go_split_ands; with_reducible refine (PLd.out _ (by (with_reducible assumption)) (by (with_reducible assumption))).mono ?_; rintro e w' ⟨rfl, hw'⟩)
            | (go_at_call 71; go_split_ands; with_reducible refine (PRd.out _ (by (with_reducible assumption)) (by (with_reducible assumption))).mono ?_; rintro e w' ⟨rfl, hw'⟩)))
        go_split_ands
        have v0 : w'.cell? ⟨wr.heap.size, 0, none⟩ = some (.bool neg) := by with_reducible assumption
        have v1 : w'.cell? ⟨wr.heap.size, 1, none⟩ = some (.int .i64 lf) := by with_reducible assumption
        have v2 : w'.cell? ⟨wr.heap.size, 2, none⟩ = some (.slice la ll lc) := by with_reducible assumption
        have v3 : w'.cell? ⟨wr.heap.size, 3, none⟩ = some (.int .i64 rf) := by with_reducible assumption
        have v4 : w'.cell? ⟨wr.heap.size, 4, none⟩ = some (.slice ra rl rc) := by with_reducible assumption
        have v5 : w'.cell? ⟨w.heap.size, 0, none⟩ = some (.slice a l.length n) := by with_reducible assumption
        have EV : Ext w w' := by with_reducible assumption
        clear hA hx hext hxr
        have FV : Ext w1 w' := by with_reducible assumption
        go_wp2_with (first
          | (go_at_call 71; with_reducible refine (PLd.out _ EV v5).mono ?_; rintro e w5 ⟨rfl, hx5⟩; have y1 := hx5.cell v1; have y2 := hx5.cell v2; have y3 := hx5.cell v3; have y4 := hx5.cell v4; have E5 := EV.trans hx5))
        go_roundw
        case rel => exact ⟨k + 1, by omega, by go_num, Hgood.out (by rw [Hok.out]; rfl), FV.trans hx5⟩
        case measure => simp [intOf]; omega
      | true =>
        obtain ⟨m0, m1, m2, m3, m4⟩ := m
        have m5 := hA.cell q0
        have E2 := hxr.trans hA
        go_wp2_with fail
        obtain ⟨W2, hW2⟩ : ∃ W2, W2 = wr.alloc (.cells #[.bool neg, .int .i64 lf, .slice la ll lc, .int .i64 rf, .slice ra rl rc] 65) := ⟨_, rfl⟩
        rw [← hW2] at hA m0 m1 m2 m3 m4 m5 E2 ⊢
        clear hW2
        go_wp2_with (first
          | (go_at_call 14; with_reducible refine (CL.out _ E2).mono ?_; rintro e w3 ⟨rfl, hx3⟩; have d0 := hx3.cell m0; have d1 := hx3.cell m1; have d2 := hx3.cell m2; have d3 := hx3.cell m3; have d4 := hx3.cell m4; have d5 := hx3.cell m5; have E3 := E2.trans hx3)
          | (go_at_call 14; with_reducible refine (CR.out _ E3).mono ?_; rintro e w4 ⟨rfl, hx4⟩; have u0 := hx4.cell d0; have u1 := hx4.cell d1; have u2 := hx4.cell d2; have u3 := hx4.cell d3; have u4 := hx4.cell d4; have u5 := hx4.cell d5; have E4 := E3.trans hx4))
        have F4 : Ext w1 w4 := hext.trans (hA.trans (hx3.trans hx4))
        go_region_held3 (fun w' => w'.cell? ⟨wr.heap.size, 0, none⟩ = some (.bool neg) ∧ w'.cell? ⟨wr.heap.size, 1, none⟩ = some (.int .i64 lf) ∧ w'.cell? ⟨wr.heap.size, 2, none⟩ = some (.slice la ll lc) ∧ w'.cell? ⟨wr.heap.size, 3, none⟩ = some (.int .i64 rf) ∧ w'.cell? ⟨wr.heap.size, 4, none⟩ = some (.slice ra rl rc) ∧ w'.cell? ⟨w.heap.size, 0, none⟩ = some (.slice a l.length n) ∧ Ext w w' ∧ Ext w1 w')
          (((try go_split_ands); refine ⟨?_, ?_, ?_, ?_, ?_, ?_, ?_, ?_⟩ <;> first | (with_reducible assumption) | exact Below.drew (Below.refl _ _) | exact Ext.drew (by assumption) | exact Ext.drew (ext_alloc _ _) | (apply Ext.cell hw'; (with_reducible assumption)) | exact Ext.trans (by assumption) hw' | exact Ext.frozen hw' (by (with_reducible assumption)) (by (with_reducible assumption)) | (go_keep; done)))
          ((first
            | (go_at_call 71; go_split_ands; with_reducible refine (PLd.out _ (by (with_reducible assumption)) (by (with_reducible assumption))).mono ?_; rintro e w' ⟨rfl, hw'⟩)
            | (go_at_call 71; go_split_ands; with_reducible refine (PRd.out _ (by (with_reducible assumption)) (by (with_reducible assumption))).mono ?_; rintro e w' ⟨rfl, hw'⟩)))
        go_split_ands
        have v0 : w'.cell? ⟨wr.heap.size, 0, none⟩ = some (.bool neg) := by with_reducible assumption
        have v1 : w'.cell? ⟨wr.heap.size, 1, none⟩ = some (.int .i64 lf) := by with_reducible assumption
        have v2 : w'.cell? ⟨wr.heap.size, 2, none⟩ = some (.slice la ll lc) := by with_reducible assumption
        have v3 : w'.cell? ⟨wr.heap.size, 3, none⟩ = some (.int .i64 rf) := by with_reducible assumption
        have v4 : w'.cell? ⟨wr.heap.size, 4, none⟩ = some (.slice ra rl rc) := by with_reducible assumption
        have v5 : w'.cell? ⟨w.heap.size, 0, none⟩ = some (.slice a l.length n) := by with_reducible assumption
        have EV : Ext w w' := by with_reducible assumption
        clear hA hx hext hxr
        have FV : Ext w1 w' := by with_reducible assumption
        go_wp2_with fail
        go_ret
        exact ⟨ret_int (Hbad.out (by rw [Hok.out]; simp)).symm, EV⟩
    | true =>
      cases PR with
      | false =>
        obtain ⟨m0, m1, m2, m3, m4⟩ := m
        have m5 := hA.cell q0
        have E2 := hxr.trans hA
        go_wp2_with fail
        obtain ⟨W2, hW2⟩ : ∃ W2, W2 = wr.alloc (.cells #[.bool neg, .int .i64 lf, .slice la ll lc, .int .i64 rf, .slice ra rl rc] 65) := ⟨_, rfl⟩
        rw [← hW2] at hA m0 m1 m2 m3 m4 m5 E2 ⊢
        clear hW2
        go_wp2_with (first
          | (go_at_call 14; with_reducible refine (CL.out _ E2).mono ?_; rintro e w3 ⟨rfl, hx3⟩; have d0 := hx3.cell m0; have d1 := hx3.cell m1; have d2 := hx3.cell m2; have d3 := hx3.cell m3; have d4 := hx3.cell m4; have d5 := hx3.cell m5; have E3 := E2.trans hx3)
          | (go_at_call 14; with_reducible refine (CR.out _ E3).mono ?_; rintro e w4 ⟨rfl, hx4⟩; have u0 := hx4.cell d0; have u1 := hx4.cell d1; have u2 := hx4.cell d2; have u3 := hx4.cell d3; have u4 := hx4.cell d4; have u5 := hx4.cell d5; have E4 := E3.trans hx4))
        have F4 : Ext w1 w4 := hext.trans (hA.trans (hx3.trans hx4))
        go_region_held3 (fun w' => w'.cell? ⟨wr.heap.size, 0, none⟩ = some (.bool neg) ∧ w'.cell? ⟨wr.heap.size, 1, none⟩ = some (.int .i64 lf) ∧ w'.cell? ⟨wr.heap.size, 2, none⟩ = some (.slice la ll lc) ∧ w'.cell? ⟨wr.heap.size, 3, none⟩ = some (.int .i64 rf) ∧ w'.cell? ⟨wr.heap.size, 4, none⟩ = some (.slice ra rl rc) ∧ w'.cell? ⟨w.heap.size, 0, none⟩ = some (.slice a l.length n) ∧ Ext w w' ∧ Ext w1 w')
          (((try go_split_ands); refine ⟨?_, ?_, ?_, ?_, ?_, ?_, ?_, ?_⟩ <;> first | (with_reducible assumption) | exact Below.drew (Below.refl _ _) | exact Ext.drew (by assumption) | exact Ext.drew (ext_alloc _ _) | (apply Ext.cell hw'; (with_reducible assumption)) | exact Ext.trans (by assumption) hw' | exact Ext.frozen hw' (by (with_reducible assumption)) (by (with_reducible assumption)) | (go_keep; done)))
          ((first
            | (go_at_call 71; go_split_ands; with_reducible refine (PLd.out _ (by (with_reducible assumption)) (by (with_reducible assumption))).mono ?_; rintro e w' ⟨rfl, hw'⟩)
            | (go_at_call 71; go_split_ands; with_reducible refine (PRd.out _ (by (with_reducible assumption)) (by (with_reducible assumption))).mono ?_; rintro e w' ⟨rfl, hw'⟩)))
        go_split_ands
        have v0 : w'.cell? ⟨wr.heap.size, 0, none⟩ = some (.bool neg) := by with_reducible assumption
        have v1 : w'.cell? ⟨wr.heap.size, 1, none⟩ = some (.int .i64 lf) := by with_reducible assumption
        have v2 : w'.cell? ⟨wr.heap.size, 2, none⟩ = some (.slice la ll lc) := by with_reducible assumption
        have v3 : w'.cell? ⟨wr.heap.size, 3, none⟩ = some (.int .i64 rf) := by with_reducible assumption
        have v4 : w'.cell? ⟨wr.heap.size, 4, none⟩ = some (.slice ra rl rc) := by with_reducible assumption
        have v5 : w'.cell? ⟨w.heap.size, 0, none⟩ = some (.slice a l.length n) := by with_reducible assumption
        have EV : Ext w w' := by with_reducible assumption
        clear hA hx hext hxr
        have FV : Ext w1 w' := by with_reducible assumption
        go_wp2_with fail
        go_ret
        exact ⟨ret_int (Hbad.out (by rw [Hok.out]; simp)).symm, EV⟩
      | true =>
        cases TL with
        | true =>
          obtain ⟨m0, m1, m2, m3, m4⟩ := m
          have m5 := hA.cell q0
          have E2 := hxr.trans hA
          go_wp2_with fail
          obtain ⟨W2, hW2⟩ : ∃ W2, W2 = wr.alloc (.cells #[.bool neg, .int .i64 lf, .slice la ll lc, .int .i64 rf, .slice ra rl rc] 65) := ⟨_, rfl⟩
          rw [← hW2] at hA m0 m1 m2 m3 m4 m5 E2 ⊢
          clear hW2
          go_wp2_with (first
            | (go_at_call 14; with_reducible refine (CL.out _ E2).mono ?_; rintro e w3 ⟨rfl, hx3⟩; have d0 := hx3.cell m0; have d1 := hx3.cell m1; have d2 := hx3.cell m2; have d3 := hx3.cell m3; have d4 := hx3.cell m4; have d5 := hx3.cell m5; have E3 := E2.trans hx3)
            | (go_at_call 14; with_reducible refine (CR.out _ E3).mono ?_; rintro e w4 ⟨rfl, hx4⟩; have u0 := hx4.cell d0; have u1 := hx4.cell d1; have u2 := hx4.cell d2; have u3 := hx4.cell d3; have u4 := hx4.cell d4; have u5 := hx4.cell d5; have E4 := E3.trans hx4))
          have F4 : Ext w1 w4 := hext.trans (hA.trans (hx3.trans hx4))
          go_region_held3 (fun w' => w'.cell? ⟨wr.heap.size, 0, none⟩ = some (.bool neg) ∧ w'.cell? ⟨wr.heap.size, 1, none⟩ = some (.int .i64 lf) ∧ w'.cell? ⟨wr.heap.size, 2, none⟩ = some (.slice la ll lc) ∧ w'.cell? ⟨wr.heap.size, 3, none⟩ = some (.int .i64 rf) ∧ w'.cell? ⟨wr.heap.size, 4, none⟩ = some (.slice ra rl rc) ∧ w'.cell? ⟨w.heap.size, 0, none⟩ = some (.slice a l.length n) ∧ Ext w w' ∧ Ext w1 w')
            (((try go_split_ands); refine ⟨?_, ?_, ?_, ?_, ?_, ?_, ?_, ?_⟩ <;> first | (with_reducible assumption) | exact Below.drew (Below.refl _ _) | exact Ext.drew (by assumption) | exact Ext.drew (ext_alloc _ _) | (apply Ext.cell hw'; (with_reducible assumption)) | exact Ext.trans (by assumption) hw' | exact Ext.frozen hw' (by (with_reducible assumption)) (by (with_reducible assumption)) | (go_keep; done)))
            ((first
              | (go_at_call 71; go_split_ands; with_reducible refine (PLd.out _ (by (with_reducible assumption)) (by (with_reducible assumption))).mono ?_; rintro e w' ⟨rfl, hw'⟩)
              | (go_at_call 71; go_split_ands; with_reducible refine (PRd.out _ (by (with_reducible assumption)) (by (with_reducible assumption))).mono ?_; rintro e w' ⟨rfl, hw'⟩)))
          go_split_ands
          have v0 : w'.cell? ⟨wr.heap.size, 0, none⟩ = some (.bool neg) := by with_reducible assumption
          have v1 : w'.cell? ⟨wr.heap.size, 1, none⟩ = some (.int .i64 lf) := by with_reducible assumption
          have v2 : w'.cell? ⟨wr.heap.size, 2, none⟩ = some (.slice la ll lc) := by with_reducible assumption
          have v3 : w'.cell? ⟨wr.heap.size, 3, none⟩ = some (.int .i64 rf) := by with_reducible assumption
          have v4 : w'.cell? ⟨wr.heap.size, 4, none⟩ = some (.slice ra rl rc) := by with_reducible assumption
          have v5 : w'.cell? ⟨w.heap.size, 0, none⟩ = some (.slice a l.length n) := by with_reducible assumption
          have EV : Ext w w' := by with_reducible assumption
          clear hA hx hext hxr
          have FV : Ext w1 w' := by with_reducible assumption
          go_wp2_with (first
            | (go_at_call 71; with_reducible refine (PLd.out _ EV v5).mono ?_; rintro e w5 ⟨rfl, hx5⟩; have y1 := hx5.cell v1; have y2 := hx5.cell v2; have y3 := hx5.cell v3; have y4 := hx5.cell v4; have E5 := EV.trans hx5)
            | (go_at_call 68; with_reducible refine (TLc.out _ E5).mono ?_; rintro e w6 ⟨rfl, hx6⟩; have z3 := hx6.cell y3; have z4 := hx6.cell y4; have E6 := E5.trans hx6))
          go_ret
          exact ⟨ret_int (Hbad.out (by rw [Hok.out]; simp)).symm, E6⟩
        | false =>
          cases TR with
          | true =>
            obtain ⟨m0, m1, m2, m3, m4⟩ := m
            have m5 := hA.cell q0
            have E2 := hxr.trans hA
            go_wp2_with fail
            obtain ⟨W2, hW2⟩ : ∃ W2, W2 = wr.alloc (.cells #[.bool neg, .int .i64 lf, .slice la ll lc, .int .i64 rf, .slice ra rl rc] 65) := ⟨_, rfl⟩
            rw [← hW2] at hA m0 m1 m2 m3 m4 m5 E2 ⊢
            clear hW2
            go_wp2_with (first
              | (go_at_call 14; with_reducible refine (CL.out _ E2).mono ?_; rintro e w3 ⟨rfl, hx3⟩; have d0 := hx3.cell m0; have d1 := hx3.cell m1; have d2 := hx3.cell m2; have d3 := hx3.cell m3; have d4 := hx3.cell m4; have d5 := hx3.cell m5; have E3 := E2.trans hx3)
              | (go_at_call 14; with_reducible refine (CR.out _ E3).mono ?_; rintro e w4 ⟨rfl, hx4⟩; have u0 := hx4.cell d0; have u1 := hx4.cell d1; have u2 := hx4.cell d2; have u3 := hx4.cell d3; have u4 := hx4.cell d4; have u5 := hx4.cell d5; have E4 := E3.trans hx4))
            have F4 : Ext w1 w4 := hext.trans (hA.trans (hx3.trans hx4))
            go_region_held3 (fun w' => w'.cell? ⟨wr.heap.size, 0, none⟩ = some (.bool neg) ∧ w'.cell? ⟨wr.heap.size, 1, none⟩ = some (.int .i64 lf) ∧ w'.cell? ⟨wr.heap.size, 2, none⟩ = some (.slice la ll lc) ∧ w'.cell? ⟨wr.heap.size, 3, none⟩ = some (.int .i64 rf) ∧ w'.cell? ⟨wr.heap.size, 4, none⟩ = some (.slice ra rl rc) ∧ w'.cell? ⟨w.heap.size, 0, none⟩ = some (.slice a l.length n) ∧ Ext w w' ∧ Ext w1 w')
              (((try go_split_ands); refine ⟨?_, ?_, ?_, ?_, ?_, ?_, ?_, ?_⟩ <;> first | (with_reducible assumption) | exact Below.drew (Below.refl _ _) | exact Ext.drew (by assumption) | exact Ext.drew (ext_alloc _ _) | (apply Ext.cell hw'; (with_reducible assumption)) | exact Ext.trans (by assumption) hw' | exact Ext.frozen hw' (by (with_reducible assumption)) (by (with_reducible assumption)) | (go_keep; done)))
              ((first
                | (go_at_call 71; go_split_ands; with_reducible refine (PLd.out _ (by (with_reducible assumption)) (by (with_reducible assumption))).mono ?_; rintro e w' ⟨rfl, hw'⟩)
                | (go_at_call 71; go_split_ands; with_reducible refine (PRd.out _ (by (with_reducible assumption)) (by (with_reducible assumption))).mono ?_; rintro e w' ⟨rfl, hw'⟩)))
            go_split_ands
            have v0 : w'.cell? ⟨wr.heap.size, 0, none⟩ = some (.bool neg) := by with_reducible assumption
            have v1 : w'.cell? ⟨wr.heap.size, 1, none⟩ = some (.int .i64 lf) := by with_reducible assumption
            have v2 : w'.cell? ⟨wr.heap.size, 2, none⟩ = some (.slice la ll lc) := by with_reducible assumption
            have v3 : w'.cell? ⟨wr.heap.size, 3, none⟩ = some (.int .i64 rf) := by with_reducible assumption
            have v4 : w'.cell? ⟨wr.heap.size, 4, none⟩ = some (.slice ra rl rc) := by with_reducible assumption
            have v5 : w'.cell? ⟨w.heap.size, 0, none⟩ = some (.slice a l.length n) := by with_reducible assumption
            have EV : Ext w w' := by with_reducible assumption
            clear hA hx hext hxr
            have FV : Ext w1 w' := by with_reducible assumption
            go_wp2_with (first
              | (go_at_call 71; with_reducible refine (PLd.out _ EV v5).mono ?_; rintro e w5 ⟨rfl, hx5⟩; have y1 := hx5.cell v1; have y2 := hx5.cell v2; have y3 := hx5.cell v3; have y4 := hx5.cell v4; have E5 := EV.trans hx5)
              | (go_at_call 68; with_reducible refine (TLc.out _ E5).mono ?_; rintro e w6 ⟨rfl, hx6⟩; have z3 := hx6.cell y3; have z4 := hx6.cell y4; have E6 := E5.trans hx6)
              | (go_at_call 68; with_reducible refine (TRc.out _ E6).mono ?_; rintro e w7 ⟨rfl, hx7⟩; have E7 := E6.trans hx7))
            go_roundw
            case rel => exact ⟨k + 1, by omega, by go_num, Hgood.out (by rw [Hok.out]; rfl), FV.trans (hx5.trans (hx6.trans hx7))⟩
            case measure => simp [intOf]; omega
          | false =>
            obtain ⟨m0, m1, m2, m3, m4⟩ := m
            have m5 := hA.cell q0
            have E2 := hxr.trans hA
            go_wp2_with fail
            obtain ⟨W2, hW2⟩ : ∃ W2, W2 = wr.alloc (.cells #[.bool neg, .int .i64 lf, .slice la ll lc, .int .i64 rf, .slice ra rl rc] 65) := ⟨_, rfl⟩
            rw [← hW2] at hA m0 m1 m2 m3 m4 m5 E2 ⊢
            clear hW2
            go_wp2_with (first
              | (go_at_call 14; with_reducible refine (CL.out _ E2).mono ?_; rintro e w3 ⟨rfl, hx3⟩; have d0 := hx3.cell m0; have d1 := hx3.cell m1; have d2 := hx3.cell m2; have d3 := hx3.cell m3; have d4 := hx3.cell m4; have d5 := hx3.cell m5; have E3 := E2.trans hx3)
              | (go_at_call 14; with_reducible refine (CR.out _ E3).mono ?_; rintro e w4 ⟨rfl, hx4⟩; have u0 := hx4.cell d0; have u1 := hx4.cell d1; have u2 := hx4.cell d2; have u3 := hx4.cell d3; have u4 := hx4.cell d4; have u5 := hx4.cell d5; have E4 := E3.trans hx4))
            have F4 : Ext w1 w4 := hext.trans (hA.trans (hx3.trans hx4))
            go_region_held3 (fun w' => w'.cell? ⟨wr.heap.size, 0, none⟩ = some (.bool neg) ∧ w'.cell? ⟨wr.heap.size, 1, none⟩ = some (.int .i64 lf) ∧ w'.cell? ⟨wr.heap.size, 2, none⟩ = some (.slice la ll lc) ∧ w'.cell? ⟨wr.heap.size, 3, none⟩ = some (.int .i64 rf) ∧ w'.cell? ⟨wr.heap.size, 4, none⟩ = some (.slice ra rl rc) ∧ w'.cell? ⟨w.heap.size, 0, none⟩ = some (.slice a l.length n) ∧ Ext w w' ∧ Ext w1 w')
              (((try go_split_ands); refine ⟨?_, ?_, ?_, ?_, ?_, ?_, ?_, ?_⟩ <;> first | (with_reducible assumption) | exact Below.drew (Below.refl _ _) | exact Ext.drew (by assumption) | exact Ext.drew (ext_alloc _ _) | (apply Ext.cell hw'; (with_reducible assumption)) | exact Ext.trans (by assumption) hw' | exact Ext.frozen hw' (by (with_reducible assumption)) (by (with_reducible assumption)) | (go_keep; done)))
              ((first
                | (go_at_call 71; go_split_ands; with_reducible refine (PLd.out _ (by (with_reducible assumption)) (by (with_reducible assumption))).mono ?_; rintro e w' ⟨rfl, hw'⟩)
                | (go_at_call 71; go_split_ands; with_reducible refine (PRd.out _ (by (with_reducible assumption)) (by (with_reducible assumption))).mono ?_; rintro e w' ⟨rfl, hw'⟩)))
            go_split_ands
            have v0 : w'.cell? ⟨wr.heap.size, 0, none⟩ = some (.bool neg) := by with_reducible assumption
            have v1 : w'.cell? ⟨wr.heap.size, 1, none⟩ = some (.int .i64 lf) := by with_reducible assumption
            have v2 : w'.cell? ⟨wr.heap.size, 2, none⟩ = some (.slice la ll lc) := by with_reducible assumption
            have v3 : w'.cell? ⟨wr.heap.size, 3, none⟩ = some (.int .i64 rf) := by with_reducible assumption
            have v4 : w'.cell? ⟨wr.heap.size, 4, none⟩ = some (.slice ra rl rc) := by with_reducible assumption
            have v5 : w'.cell? ⟨w.heap.size, 0, none⟩ = some (.slice a l.length n) := by with_reducible assumption
            have EV : Ext w w' := by with_reducible assumption
            clear hA hx hext hxr
            have FV : Ext w1 w' := by with_reducible assumption
            go_wp2_with (first
              | (go_at_call 71; with_reducible refine (PLd.out _ EV v5).mono ?_; rintro e w5 ⟨rfl, hx5⟩; have y1 := hx5.cell v1; have y2 := hx5.cell v2; have y3 := hx5.cell v3; have y4 := hx5.cell v4; have E5 := EV.trans hx5)
              | (go_at_call 68; with_reducible refine (TLc.out _ E5).mono ?_; rintro e w6 ⟨rfl, hx6⟩; have z3 := hx6.cell y3; have z4 := hx6.cell y4; have E6 := E5.trans hx6)
              | (go_at_call 68; with_reducible refine (TRc.out _ E6).mono ?_; rintro e w7 ⟨rfl, hx7⟩; have E7 := E6.trans hx7))
            go_ret
            exact ⟨ret_int (Hbad.out (by rw [Hok.out]; simp)).symm, E7⟩

end Go.Proofs.YtoidhdcbemmfhaaDoor
