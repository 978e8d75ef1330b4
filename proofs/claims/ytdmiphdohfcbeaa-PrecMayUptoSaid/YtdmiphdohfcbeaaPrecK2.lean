/- What prec.Check returns. Conditions: lengths fit. -/
import Derived.Test.YtdmiphdohfcbeaaPrecH
import Derived.Test.YtdmiphdohfcbeaaPrecS2
import Derived.Test.YtdmiphdohfcbeaaPrecW1
import Derived.Deep.RegionHeld3
import Derived.Deep.CutRange
import Derived.Deep.CutBlock
import Derived.Deep.Light
namespace Go.Proofs.Ytdmiphdohfcbeaa
open Go.ChangeShapes Go.WideShapes Go.ChangeAt Go.RowKit
attribute [local go_sem] undef

/-- numbers put into a row's own block -/
theorem chg_setCells (w : World) (b o : Nat) (xs : List Value) : Chg [b] w (w.setCells b o xs) := by
  induction xs generalizing w o with
  | nil => exact Chg.refl _ _
  | cons x xs ih => exact (((Chg.refl [b] w).setCell (p := ⟨b, o, none⟩) x (.inl (by simp)))).trans (ih _ _)

/-- one or the other may come up -/
theorem An.both {P : Program} {ops : Array Oper} {Q : Exit → Act → World → Prop} {L : Array Bool} {a : Act} {w : World} {i j : Nat} {o oj : Oper} (ho : ops[i]? = some o) (hoj : ops[j]? = some oj) (hr : Region.ready .any ops L = [i, j]) (hw : Region.wanted o (yielded ops a.tmps) = true) (hwj : Region.wanted oj (yielded ops a.tmps) = true)
    (h : ∀ K : Act → World → Prop, (∀ a' w', An P ops Q (L.setIfInBounds i true) a' w' → K a' w') → o.wp P a w K Q)
    (h2 : ∀ K : Act → World → Prop, (∀ a' w', An P ops Q (L.setIfInBounds j true) a' w' → K a' w') → oj.wp P a w K Q) : An P ops Q L a w := by
  refine An.two ho hr hw h ?_
  unfold wpOp
  simp only [hoj]
  rw [if_pos hwj]
  exact .inl (h2 _ fun _ _ h => h)

set_option maxHeartbeats 2000000 in
set_option maxRecDepth 100000 in
/-- where the signature may not be -/
theorem check_sig (l : List Sy) (hl : l.length ≤ 1048576) (o : Ord) (hz : sigCheck l ≠ 0) (w : World) (a : Option Addr) (n : Nat) (v : Value) (hln : l.length ≤ n) (hn63 : n ≤ 9223372036854775807) (hsy : IsSyms w a l) (ho : IsOrd w v o) :
    Calls Try.prog 7 #[.agg #[.slice a l.length n], v] w fun e w' => e = .returned (.int .i64 2) ∧ Ext w w' := by
  obtain ⟨lpo, prec, wts, var⟩ := o
  obtain ⟨pa, pc, wa, wc, rfl, h1, h2, -⟩ := ho
  simp only at *
  obtain ⟨W, hW⟩ : ∃ W, W = (w.alloc (.cells #[.slice a l.length n] 24)).alloc (.cells #[.bool lpo, .slice pa prec.length pc, .slice wa wts.length wc, .int .i64 var] 27) := ⟨_, rfl⟩
  have hx : Ext w W := by subst hW; go_grown
  have k0 : W.cell? ⟨w.heap.size, 0, none⟩ = some (.slice a l.length n) := by subst hW; go_simp
  have k1 : W.cell? ⟨w.heap.size + 1, 1, none⟩ = some (.slice pa prec.length pc) := by subst hW; go_simp
  have hck := sigCheck_any l hl W a n hln hn63 (hsy.ext hx)
  have hzb : (sigCheck l != 0) = true := by simpa using hz
  have Hck := Lib.hid hck; clear hck hz h1 h2 hsy
  go_enter Try.func7, Try.ntmps7
  go_wp2_with ((go_at_call 19; rw [← hW]; clear hW; refine (Hck.out).mono ?_; rintro e w1 ⟨rfl, hx1⟩; replace k0 := hx1.cell k0; replace k1 := hx1.cell k1))
  go_ret
  exact ⟨rfl, Ext.trans hx hx1⟩

set_option maxHeartbeats 4000000 in
set_option maxRecDepth 100000 in
theorem check_ok (l : List Sy) (o : Ord) (hz : sigCheck l = 0) (hpl : o.prec.length = l.length) (hwl : o.wts.length ≤ 1048576) (w : World) (a : Option Addr) (n : Nat) (v : Value) (hln : l.length ≤ n) (hn63 : n ≤ 9223372036854775807) (hsy : IsSyms w a l) (ho : IsOrd w v o) :
    Calls Try.prog 7 #[.agg #[.slice a l.length n], v] w fun e w' => e = .returned (.int .i64 (ordCheck l o.lpo o.prec o.wts o.var)) ∧ Ext w w' := by
  obtain ⟨hl1, hl96, har0, hars⟩ := sig_ok hz
  obtain ⟨lpo, prec, wts, var⟩ := o
  obtain ⟨pa, pc, wa, wc, rfl, hP, hWt, hpc, -, hv1, hv2⟩ := ho
  simp only at *
  obtain ⟨W, hW⟩ : ∃ W, W = (w.alloc (.cells #[.slice a l.length n] 24)).alloc (.cells #[.bool lpo, .slice pa prec.length pc, .slice wa wts.length wc, .int .i64 var] 27) := ⟨_, rfl⟩
  have hx : Ext w W := by subst hW; go_grown
  have k0 : W.cell? ⟨w.heap.size, 0, none⟩ = some (.slice a l.length n) := by subst hW; go_simp
  have j0 : W.cell? ⟨w.heap.size + 1, 0, none⟩ = some (.bool lpo) := by subst hW; go_simp
  have j1 : W.cell? ⟨w.heap.size + 1, 1, none⟩ = some (.slice pa prec.length pc) := by subst hW; go_simp
  have j2 : W.cell? ⟨w.heap.size + 1, 2, none⟩ = some (.slice wa wts.length wc) := by subst hW; go_simp
  have j3 : W.cell? ⟨w.heap.size + 1, 3, none⟩ = some (.int .i64 var) := by subst hW; go_simp
  have hck := sigCheck_any l (by omega) W a n hln hn63 (hsy.ext hx)
  rw [hz] at hck
  have hnb : ((prec.length : Int) != (l.length : Int)) = false := by rw [hpl]; simp
  have hsz : W.heap.size = w.heap.size + 2 := by subst hW; simp
  have hV := Lib.hid (fun w' => values_any prec w' pa pc)
  have hSo := Lib.hid (fun w' (h : Ext W w') bo (hc : w'.cell? ⟨bo, 0, none⟩ = some (.slice pa prec.length pc)) => sorted_values prec (by omega) (by omega) bo w' pa pc hc (hP.ext (hx.trans h)))
  have hpos : 0 < prec.length := by omega
  have hple : prec.length ≤ 96 := by omega
  have Hck := Lib.hid hck; clear hck
  have Hz := Lib.hid (And.intro hz hpl); clear hz hpl
  go_enter Try.func7, Try.ntmps7
  go_upto_region 4 with (first
    | (go_at_call 19; rw [← hW]; clear hW; refine (Hck.out).mono ?_; rintro e w1 ⟨rfl, hx1⟩; replace k0 := hx1.cell k0; replace j0 := hx1.cell j0; replace j1 := hx1.cell j1; replace j2 := hx1.cell j2; replace j3 := hx1.cell j3)
    | (go_at_call 21; refine (hV.out _).mono ?_; rintro e w2 ⟨rfl, hc2, hx2⟩)
    | (go_at_call 20; refine (hSo.out _ (hx1.trans hx2) _ hc2).mono ?_; rintro e w3 ⟨⟨g, gc, rfl, hg1, hg2, hgc, hN⟩, hx3⟩))
  have hsl : (sortInts prec).length = prec.length := (sortInts_perm prec).length_eq
  have hE3 : Ext W w3 := (hx1.trans hx2).trans hx3
  have hgw : w.heap.size + 2 ≤ g := by have := hx1.size; have := hx2.size; omega
  obtain ⟨pb, po, rfl, p0⟩ := hP.look hpos
  have p0' : w3.cell? ⟨pb, po, none⟩ = some (.int .i64 prec[0]) := by simpa using (hx.trans hE3).cell p0
  have hpb : pb < w.heap.size := by have := cell_lt p0; simpa using this
  replace k0 := (hx2.trans hx3).cell k0
  replace j0 := (hx2.trans hx3).cell j0
  replace j1 := (hx2.trans hx3).cell j1
  replace j2 := (hx2.trans hx3).cell j2
  replace j3 := (hx2.trans hx3).cell j3
  have HM := Lib.hid (fun w' (h : Chg [g] w3 w') => by
    have hm := Try.slices_Min_int pb po prec.length pc prec w' hpos (Nat.le_refl _) (by omega) (fun j hj => by
      obtain ⟨b', o', e, m⟩ := hP.look hj
      injection e with e; injection e with e1 e2; subst e1; subst e2
      have hb := cell_lt m
      simp only at hb
      have := h.cell ((hx.trans hE3).cell m) (by simp; omega)
      rw [this, List.getD, List.getElem?_eq_getElem hj]; rfl)
    rw [List.take_length] at hm
    exact hm)
  have HCo := Lib.hid (fun w' (hN : Nums w' g (sortInts prec)) => by
    have hm := Try.slices_Compact_int_cells g 0 prec.length gc (sortInts prec) w' (by omega) (by omega) hgc (fun j hj => by
      rw [Nat.zero_add, (hN.cell j hj).1, List.getD, List.getElem?_eq_getElem hj]; rfl) (fun j hj => by
      rw [Nat.zero_add]; exact (hN.cell j (by omega)).2)
    have ht : (sortInts prec).take prec.length = sortInts prec := by rw [← hsl, List.take_length]
    rw [ht] at hm
    have hm2 : Calls Try.prog 22 #[.slice (some ⟨g, 0, none⟩) prec.length gc] w' fun e w'' => e = .returned (.slice (some ⟨g, 0, none⟩) (Lib.compact (sortInts prec)).length gc) ∧ Chg [g] w' w'' := by
      refine Calls.mono hm ?_
      rintro e w'' ⟨rfl, q, rfl⟩
      exact ⟨rfl, (Chg.of_ext (Ext.drewN (Below.refl _ _) q)).trans (chg_setCells _ _ _ _)⟩
    exact hm2)
  have hcs : (((Lib.compact (sortInts prec)).length : Int) != (prec.length : Int)) = true ∧ ranksB prec l.length = false ∨ (((Lib.compact (sortInts prec)).length : Int) != (prec.length : Int)) = false ∧ (Lib.minOf prec != prec[0]) = !ranksB prec l.length := by
    have hsd := sorted_distinct prec
    by_cases hd : prec.Nodup
    · refine .inr ⟨by have := hsd.2 hd; rw [this]; simp, ?_⟩
      rw [← Hz.out.2, ranks_first hpos hd]
      by_cases h : Lib.minOf prec = prec[0]
      · rw [h]; simp
      · rw [decide_eq_false h]; simpa using h
    · refine .inl ⟨?_, ranks_nodup hd⟩
      rw [bne_iff_ne]
      intro h
      exact hd (hsd.1 (by omega))
  generalize hRk : ranksB prec l.length = Rk at hcs
  generalize (Lib.compact (sortInts prec)).length = cl at HCo hcs
  generalize Lib.minOf prec = mn at HM hcs
  have HN := Lib.hid hN
  have HRK := Lib.hid hRk
  generalize prec[0] = p0v at p0' hcs
  clear hN hRk hsl hSo hV Hck p0 hE3
  go_cut [41] from 25 to 113 (fun c wx => c = .bool (!Rk) ∧ Chg [g] w3 wx)
  case first =>
    obtain ⟨w4, hw4⟩ : ∃ w4, w4 = ({ w3 with drawn := w3.drawn + 1 } : World) := ⟨_, rfl⟩
    have hE4 : Ext w3 w4 := by rw [hw4]; exact Ext.drew (Below.refl _ _)
    have q1 := hE4.cell j1
    have q2 := hE4.cell p0'
    have HN4 := Lib.hid (HN.out.ext hE4)
    have hne1 : w.heap.size + 1 ≠ g := by omega
    have hne2 : pb ≠ g := by omega
    rcases hcs with ⟨hd, rfl⟩ | ⟨hd, hmn⟩
    all_goals
      refine wp_region_noPanic ?_
      refine wp_region_An (by kernel_rfl) ?_
      rw [← hw4]; clear hw4
      (apply An.take (i := 0); (focus ((simp only [List.getElem?_toArray, List.getElem?_cons_succ, List.getElem?_cons_zero]; rfl))); (focus kernel_rfl); (focus (exact fun _ _ _ _ _ h => h)); (focus (left; refine ⟨by rfl, fun w0 => ?_⟩; go_simp; first | done | rfl)); simp only [Act.put, List.setIfInBounds_toArray, List.set_cons_zero, List.set_cons_succ])
      (apply An.take (i := 3); (focus ((simp only [List.getElem?_toArray, List.getElem?_cons_succ, List.getElem?_cons_zero]; rfl))); (focus kernel_rfl); (focus (exact fun _ _ _ _ _ h => h)); (focus (left; refine ⟨by rfl, fun w0 => ?_⟩; go_simp; first | done | rfl)); simp only [Act.put, List.setIfInBounds_toArray, List.set_cons_zero, List.set_cons_succ])
      refine An.both (i := 1) (j := 4) (by (simp only [List.getElem?_toArray, List.getElem?_cons_succ, List.getElem?_cons_zero]; rfl)) (by (simp only [List.getElem?_toArray, List.getElem?_cons_succ, List.getElem?_cons_zero]; rfl)) (by kernel_rfl) (by rfl) (by rfl) (fun K hK => ?_) (fun K hK => ?_)
      · go_simp
        refine (HCo.out _ HN4.out).mono ?_
        rintro e w5 ⟨rfl, hx5⟩
        refine hK _ _ ?_
        clear hK
        have q3 := hx5.cell q1 (by simpa using hne1)
        have q4 := hx5.cell q2 (by simpa using hne2)
        refine An.walk Drawn [2, 4, 5, 6, 7, 8, 9, 10, 11, 12, 13, 14, 15, 16] goes_drawn (by kernel_rfl) (fun _ _ _ _ _ h => h) ?_
        iterate 14 (apply wpS_open; (focus (simp only [List.getElem?_toArray, List.getElem?_cons_succ, List.getElem?_cons_zero]; rfl)); first | (refine St_skip (by rfl) ?_; simp only [Act.put, List.setIfInBounds_toArray, List.set_cons_zero, List.set_cons_succ]) | (apply St_want; (focus rfl); (focus (intro v1 hv; have hv2 := Drawn.ext hv; have g1 := hv2.cell q3; have g2 := hv2.cell q4; go_simp; first | done | rfl | (refine (HM.out _ (((Chg.of_ext hE4).trans hx5).trans (Chg.of_ext hv2))).mono ?_; rintro e w' ⟨rfl, rfl⟩; exact ⟨rfl, ⟨0, rfl⟩⟩))); simp only [Act.put, List.setIfInBounds_toArray, List.set_cons_zero, List.set_cons_succ]))
        refine wpS_nil (fun v1 hv1 => ?_)
        refine An.done (by kernel_rfl) ?_
        refine NoPanic.normal ?_
        go_wp2_with fail
        go_meet
        exact ⟨rfl, ((Chg.of_ext hE4).trans hx5).trans (Chg.of_ext (Drawn.ext hv1))⟩
      · go_simp
        refine hK _ _ ?_
        clear hK
        (apply An.take (i := 5); (focus ((simp only [List.getElem?_toArray, List.getElem?_cons_succ, List.getElem?_cons_zero]; rfl))); (focus kernel_rfl); (focus (exact fun _ _ _ _ _ h => h)); (focus (left; refine ⟨by rfl, fun w0 => ?_⟩; go_simp; first | done | rfl)); simp only [Act.put, List.setIfInBounds_toArray, List.set_cons_zero, List.set_cons_succ])
        refine An.one (i := 1) (by (simp only [List.getElem?_toArray, List.getElem?_cons_succ, List.getElem?_cons_zero]; rfl)) (by kernel_rfl) (by rfl) (fun K hK => ?_)
        go_simp
        refine (HCo.out _ HN4.out).mono ?_
        rintro e w5 ⟨rfl, hx5⟩
        refine hK _ _ ?_
        clear hK
        have q3 := hx5.cell q1 (by simpa using hne1)
        have q4 := hx5.cell q2 (by simpa using hne2)
        refine An.walk Drawn [2, 6, 7, 8, 9, 10, 11, 12, 13, 14, 15, 16] goes_drawn (by kernel_rfl) (fun _ _ _ _ _ h => h) ?_
        iterate 12 (apply wpS_open; (focus (simp only [List.getElem?_toArray, List.getElem?_cons_succ, List.getElem?_cons_zero]; rfl)); first | (refine St_skip (by rfl) ?_; simp only [Act.put, List.setIfInBounds_toArray, List.set_cons_zero, List.set_cons_succ]) | (apply St_want; (focus rfl); (focus (intro v1 hv; have hv2 := Drawn.ext hv; have g1 := hv2.cell q3; have g2 := hv2.cell q4; go_simp; first | done | rfl | (refine (HM.out _ (((Chg.of_ext hE4).trans hx5).trans (Chg.of_ext hv2))).mono ?_; rintro e w' ⟨rfl, rfl⟩; exact ⟨rfl, ⟨0, rfl⟩⟩))); simp only [Act.put, List.setIfInBounds_toArray, List.set_cons_zero, List.set_cons_succ]))
        refine wpS_nil (fun v1 hv1 => ?_)
        refine An.done (by kernel_rfl) ?_
        refine NoPanic.normal ?_
        go_wp2_with fail
        go_meet
        exact ⟨rfl, ((Chg.of_ext hE4).trans hx5).trans (Chg.of_ext (Drawn.ext hv1))⟩
  case rest =>
  obtain ⟨rfl, hx4⟩ := hcut
  generalize wc = V at hx4 ⊢
  have hne1 : w.heap.size + 1 ≠ g := by omega
  have hne0 : w.heap.size ≠ g := by omega
  replace k0 := hx4.cell k0 (by simpa using hne0)
  replace j0 := hx4.cell j0 (by simpa using hne1)
  replace j1 := hx4.cell j1 (by simpa using hne1)
  replace j2 := hx4.cell j2 (by simpa using hne1)
  replace j3 := hx4.cell j3 (by simpa using hne1)
  have hE4 : Ext w V := Chg.ext (hx.trans ((hx1.trans hx2).trans hx3)) hx4 (by simp; omega)
  clear hcs HM HCo HN hne1 hne0 hx4 p0' hx1 hx2 hx3 hg1 hg2 hgc hgw hc2
  cases Rk with
  | false =>
    go_wp2_with fail
    go_ret
    exact ⟨by rw [ordCheck_ranks HRK.out]; rfl, hE4⟩
  | true =>
    cases lpo with
    | true =>
      go_wp2_with fail
      go_ret
      exact ⟨by rw [ordCheck_lpo Hz.out.1 HRK.out]; rfl, hE4⟩
    | false =>
      obtain ⟨Hd, hHd⟩ : ∃ Hd : Bool, Hd = decide (wts.length ≠ l.length ∨ var < 1 ∨ 1000 < var ∨ (wts[0]?).getD 0 ≠ var) := ⟨_, rfl⟩
      go_upto_region 8 with fail
      go_cut [69] from 44 to 113 (fun c wx => c = .bool Hd ∧ Ext V wx)
      case first =>
        by_cases h1 : wts.length = l.length
        case neg =>
          have hb : ((wts.length : Int) != (l.length : Int)) = true := by rw [bne_iff_ne]; omega
          have hh : Hd = true := by rw [hHd]; exact decide_eq_true (.inl h1)
          subst hh
          clear h1 hHd
          go_quiet (fail)
          go_wp2_with fail
          go_meet
          exact ⟨rfl, Ext.drewN (Below.refl _ _) _⟩
        case pos =>
          have hb : ((wts.length : Int) != (l.length : Int)) = false := by rw [h1]; simp
          have hwp : 0 < wts.length := by omega
          have H1 := Lib.hid h1; clear h1
          obtain ⟨wb, wo, rfl, m0⟩ := hWt.look hwp
          have m0' : V.cell? ⟨wb, wo, none⟩ = some (.int .i64 wts[0]) := by simpa using hE4.cell m0
          have hg0 : (wts[0]?).getD 0 = wts[0] := by rw [List.getElem?_eq_getElem hwp]; rfl
          rw [hg0] at hHd
          clear hg0 m0
          generalize wts[0] = w0 at m0' hHd
          by_cases h2 : var < 1
          · have hb2 : decide (var < 1) = true := decide_eq_true h2
            have hh : Hd = true := by rw [hHd]; exact decide_eq_true (.inr (.inl h2))
            subst hh
            clear hHd h2
            go_quiet (fail)
            go_wp2_with fail
            go_meet
            exact ⟨rfl, Ext.drewN (Below.refl _ _) _⟩
          have hb2 : decide (var < 1) = false := decide_eq_false h2
          by_cases h3 : 1000 < var
          · have hb3 : decide (1000 < var) = true := decide_eq_true h3
            have hh : Hd = true := by rw [hHd]; exact decide_eq_true (.inr (.inr (.inl h3)))
            subst hh
            clear hHd h2 h3
            go_quiet (fail)
            go_wp2_with fail
            go_meet
            exact ⟨rfl, Ext.drewN (Below.refl _ _) _⟩
          have hb3 : decide (1000 < var) = false := decide_eq_false h3
          have hb4 : (w0 != var) = Hd := by
            rw [hHd, Bool.eq_iff_iff, bne_iff_ne, decide_eq_true_iff]
            exact ⟨fun h => .inr (.inr (.inr h)), fun h => (h.resolve_left (fun h' => h' H1.out)).resolve_left h2 |>.resolve_left h3⟩
          clear hHd h2 h3
          go_quiet (fail)
          go_wp2_with fail
          go_meet
          exact ⟨rfl, Ext.drewN (Below.refl _ _) _⟩
      case rest =>
        obtain ⟨rfl, hx5⟩ := hcut
        generalize wc = V2 at hx5 ⊢
        replace k0 := hx5.cell k0
        replace j1 := hx5.cell j1
        replace j2 := hx5.cell j2
        replace j3 := hx5.cell j3
        have hE5 := hE4.trans hx5
        clear j0 hx5 hE4
        cases Hd with
        | true =>
          have hh := of_decide_eq_true hHd.symm
          have HH := Lib.hid hh; clear hh hHd
          go_wp2_with fail
          go_ret
          exact ⟨by rw [ordCheck_head Hz.out.1 HRK.out HH.out]; rfl, hE5⟩
        | false =>
          have hh := of_decide_eq_false hHd.symm
          have hwl2 : wts.length = l.length := by
            by_cases h : wts.length = l.length
            · exact h
            · exact absurd (.inl h) hh
          have HH := Lib.hid (And.intro hh hwl2); clear hh hHd hwl2
          go_wp2_with fail
          go_loopw [73] (fun s wr => ∃ k : Nat, k ≤ l.length ∧ s = .int .i64 k ∧ (∀ j, j < k → weightB l prec wts var j = true) ∧ Ext V2 wr) (fun s _ => l.length - (intOf s).toNat)
          case atStart => exact ⟨0, Nat.zero_le _, rfl, fun j h => by omega, Below.refl _ _⟩
          case round =>
            obtain ⟨k, hkk, rfl, hok, hext⟩ := hrel
            have Hok := Lib.hid hok; clear hok
            by_cases hlt : k < l.length
            case neg =>
              have hk1 : ¬ (k : Int) < l.length := by omega
              have hke : k = l.length := by omega
              have Hke := Lib.hid hke; clear hke
              go_wp2_with fail
              go_ret
              refine ⟨?_, hE5.trans hext⟩
              rw [ordCheck_rest Hz.out.1 HRK.out HH.out.1, if_pos (weights_all (fun j hj => Hok.out j (by rw [Hke.out]; exact hj)))]; rfl
            have hk1 : (k : Int) < l.length := by omega
            have hkw : k < wts.length := by rw [HH.out.2]; exact hlt
            have hkp : k < prec.length := by rw [Hz.out.2]; exact hlt
            have hk2 : (k : Int) < wts.length := by omega
            obtain ⟨sb, so, rfl, -, sn, sa, sp⟩ := hsy.look hlt
            obtain ⟨wb, wo, rfl, m0⟩ := hWt.look hkw
            have hEr := hE5.trans hext
            replace sn := hEr.cell sn
            replace sa := hEr.cell sa
            replace sp := hEr.cell sp
            replace m0 := hEr.cell m0
            have Hhi := Lib.hid (fun w' (h : Ext w w') => high_any prec k hkp (by omega) w' _ pc (hP.ext h))
            have HWB := Lib.hid (weight_at (prec := prec) (var := var) hlt hkw)
            generalize l[k].arity = ar at sa HWB
            generalize l[k].name = nm at sn
            generalize l[k].pred = prd at sp
            generalize wts[k] = wv at m0 HWB
            generalize highB prec k = hb at Hhi HWB
            obtain ⟨V3, hV3⟩ : ∃ V3, V3 = wr.alloc (.cells #[.string nm, .int .i64 ar, .bool prd] 57) := ⟨_, rfl⟩
            have hA : Ext wr V3 := by rw [hV3]; exact ext_alloc _ _
            have q1 := hA.cell (hext.cell j1)
            have q2 := hA.cell (hext.cell j2)
            have q3 := hA.cell (hext.cell j3)
            have q4 := hA.cell m0
            rw [hV3] at q1 q2 q3 q4
            have hw63 : True := trivial
            by_cases c1 : wv < 0
            · have d1 : decide (wv < 0) = true := decide_eq_true c1
              have hwf : weightB l prec wts var k = false := by rw [HWB.out, decide_eq_false (fun h => by omega)]; rfl
              have HF := Lib.hid hwf; clear hwf c1
              go_wp2_with fail
              go_ret
              refine ⟨?_, by first | exact hEr.trans hA | (rw [← hV3]; exact hEr.trans hA)⟩
              rw [ordCheck_rest Hz.out.1 HRK.out HH.out.1, if_neg (by rw [weights_not hlt HF.out]; simp)]; rfl
            have d1 : decide (wv < 0) = false := decide_eq_false c1
            by_cases c2 : 1000 < wv
            · have d2 : decide (1000 < wv) = true := decide_eq_true c2
              have hwf : weightB l prec wts var k = false := by rw [HWB.out, decide_eq_false (fun h => by omega)]; rfl
              have HF := Lib.hid hwf; clear hwf c1 c2
              go_wp2_with fail
              go_ret
              refine ⟨?_, by first | exact hEr.trans hA | (rw [← hV3]; exact hEr.trans hA)⟩
              rw [ordCheck_rest Hz.out.1 HRK.out HH.out.1, if_neg (by rw [weights_not hlt HF.out]; simp)]; rfl
            have d2 : decide (1000 < wv) = false := decide_eq_false c2
            by_cases c3 : ar = 0
            · have d3 : (ar == 0) = true := by rw [beq_iff_eq]; exact c3
              have d4 : (ar == 1) = false := by rw [beq_eq_false_iff_ne]; omega
              by_cases c4 : wv < var
              · have d5 : decide (wv < var) = true := decide_eq_true c4
                have hwf : weightB l prec wts var k = false := by rw [HWB.out, decide_eq_false (fun h => by have := h.2.2 c3; omega)]; rfl
                have HF := Lib.hid hwf; clear hwf c1 c2 c3 c4
                go_wp2_with fail
                go_ret
                refine ⟨?_, by first | exact hEr.trans hA | (rw [← hV3]; exact hEr.trans hA)⟩
                rw [ordCheck_rest Hz.out.1 HRK.out HH.out.1, if_neg (by rw [weights_not hlt HF.out]; simp)]; rfl
              · have d5 : decide (wv < var) = false := decide_eq_false c4
                have hwf : weightB l prec wts var k = true := by rw [HWB.out, decide_eq_true ⟨by omega, by omega, fun _ => by omega⟩, decide_eq_false (fun h => by omega)]; rfl
                have HF := Lib.hid hwf; clear hwf c1 c2 c3 c4
                go_wp2_with fail
                go_roundw
                case rel => exact ⟨k + 1, by omega, by go_num, fun j hj => by
                  rcases Nat.lt_or_ge j k with h | h
                  · exact Hok.out j h
                  · have : j = k := by omega
                    subst this; exact HF.out, by first | exact hext.trans hA | (rw [← hV3]; exact hext.trans hA)⟩
                case measure => simp [intOf]; omega
            have d3 : (ar == 0) = false := by rw [beq_eq_false_iff_ne]; exact c3
            by_cases c4 : ar = 1
            · have d4 : (ar == 1) = true := by rw [beq_iff_eq]; exact c4
              by_cases c5 : wv = 0
              · have d5 : (wv == 0) = true := by rw [beq_iff_eq]; exact c5
                have hwf : weightB l prec wts var k = hb := by rw [HWB.out, decide_eq_true ⟨by omega, by omega, fun h => by omega⟩, decide_eq_true ⟨c4, c5⟩]; simp
                have HF := Lib.hid hwf; clear hwf c1 c2 c3 c4 c5
                cases hb with
                | true =>
                  go_wp2_with (go_at_call 24; (try rw [← hV3]); refine (Hhi.out _ (hEr.trans hA)).mono ?_; rintro e w6 ⟨rfl, hx6⟩)
                  go_roundw
                  case rel =>
                    have hj1 : ∀ j, j < k + 1 → weightB l prec wts var j = true := fun j hj => by
                      rcases Nat.lt_or_ge j k with h | h
                      · exact Hok.out j h
                      · have : j = k := by omega
                        subst this; exact HF.out
                    first | exact ⟨k + 1, by omega, by go_num, hj1, (hext.trans hA).trans hx6⟩ | ((repeat apply Exists.intro); exact ⟨⟨k + 1, by omega, by go_num, hj1, (hext.trans hA).trans hx6⟩, rfl⟩)
                  case measure => simp [intOf]; omega
                | false =>
                  go_wp2_with (go_at_call 24; (try rw [← hV3]); refine (Hhi.out _ (hEr.trans hA)).mono ?_; rintro e w6 ⟨rfl, hx6⟩)
                  go_ret
                  refine ⟨?_, (hEr.trans hA).trans hx6⟩
                  rw [ordCheck_rest Hz.out.1 HRK.out HH.out.1, if_neg (by rw [weights_not hlt HF.out]; simp)]; rfl
              · have d5 : (wv == 0) = false := by rw [beq_eq_false_iff_ne]; exact c5
                have hwf : weightB l prec wts var k = true := by rw [HWB.out, decide_eq_true ⟨by omega, by omega, fun h => by omega⟩, decide_eq_false (fun h => c5 h.2)]; rfl
                have HF := Lib.hid hwf; clear hwf c1 c2 c3 c4 c5
                go_wp2_with fail
                go_roundw
                case rel => exact ⟨k + 1, by omega, by go_num, fun j hj => by
                  rcases Nat.lt_or_ge j k with h | h
                  · exact Hok.out j h
                  · have : j = k := by omega
                    subst this; exact HF.out, by first | exact hext.trans hA | (rw [← hV3]; exact hext.trans hA)⟩
                case measure => simp [intOf]; omega
            · have d4 : (ar == 1) = false := by rw [beq_eq_false_iff_ne]; exact c4
              have hwf : weightB l prec wts var k = true := by rw [HWB.out, decide_eq_true ⟨by omega, by omega, fun h => by omega⟩, decide_eq_false (fun h => c4 h.1)]; rfl
              have HF := Lib.hid hwf; clear hwf c1 c2 c3 c4
              go_wp2_with fail
              go_roundw
              case rel => exact ⟨k + 1, by omega, by go_num, fun j hj => by
                rcases Nat.lt_or_ge j k with h | h
                · exact Hok.out j h
                · have : j = k := by omega
                  subst this; exact HF.out, by first | exact hext.trans hA | (rw [← hV3]; exact hext.trans hA)⟩
              case measure => simp [intOf]; omega
end Go.Proofs.Ytdmiphdohfcbeaa
