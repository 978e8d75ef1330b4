/- What Put of the reference of layer 2 return. -/
import Derived.Test.YtoidhdcbemmfhaaDoorCopyF
import Derived.Test.YtoidhdcbemmfhaaDoorPlace
import Derived.Test.YtoidhdcbemmfhaaDoorAn
namespace Go.Proofs.YtoidhdcbemmfhaaDoor
open Go.ChangeShapes Go.WideShapes Go.ChangeAt Go.RowKit
attribute [local go_sem] Oper.quiet Oper.quietAt Oper.quietUpon

set_option maxHeartbeats 4000000 in
set_option maxRecDepth 100000 in
theorem refPut_any (p : List Int) : ∀ (t s : Tm) (w : World) (x1 s1 x2 s2 : Value) (pa : Option Addr) (pc : Nat), IsTm w x1 s1 t → IsTm w x2 s2 s → t.size ≤ 2097152 → s.size ≤ 2097152 → IsInts w pa p → p.length ≤ pc → pc ≤ 9223372036854775807 →
    Calls Tryd.prog 23 #[.agg #[x1, s1], .slice pa p.length pc, .agg #[x2, s2]] w fun e w' => (∃ v, e = .returned v ∧ Got w.heap.size w' v (t.put p s)) ∧ Ext w w' := by
  induction p with
  | nil =>
    intro t s w x1 s1 x2 s2 pa pc ht hs hts hss hp hpc hpc2
    obtain ⟨a1, c1, rfl, rfl, -, -, -, -⟩ := ht.form
    obtain ⟨a2, c2, rfl, rfl, hf1, hf2, -, -⟩ := hs.form
    obtain ⟨W, hW⟩ : ∃ W, W = (((w.alloc (.cells #[.int .i64 t.f, .slice a1 t.ks.length c1] 27)).alloc (.cells #[.int .i64 s.f, .slice a2 s.ks.length c2] 27)).alloc (.cells #[.int .i64 0, .slice none 0 0] 27)) := ⟨_, rfl⟩
    have hx : Ext w W := by subst hW; go_grown
    have hsW : W.heap.size = w.heap.size + 3 := by subst hW; simp
    have k5 : W.cell? ⟨w.heap.size + 1 + 1, 0, none⟩ = some (.int .i64 0) := by subst hW; go_simp
    have k6 : W.cell? ⟨w.heap.size + 1 + 1, 1, none⟩ = some (.slice none 0 0) := by subst hW; go_simp
    have f5 : W.frozen? ⟨w.heap.size + 1 + 1, 0, none⟩ = false := by subst hW; go_simp
    have f6 : W.frozen? ⟨w.heap.size + 1 + 1, 1, none⟩ = false := by subst hW; go_simp
    have Hc := Lib.hid (refCopyOf_any s W _ _ (hs.ext hx) hss)
    go_enter Tryd.func23, Tryd.ntmps23
    go_wp2_with ((go_at_call 64; rw [← hW]; clear hW; refine (Hc.out).mono ?_; rintro e w2 ⟨⟨av, cv, rfl, hcp⟩, hx2⟩; have q5 := hx2.cell k5; have q6 := hx2.cell k6; have z5 := hx2.frozen k5 f5; have z6 := hx2.frozen k6 f6))
    obtain ⟨V, hV⟩ : ∃ V, V = Value.slice av s.ks.length cv := ⟨_, rfl⟩
    rw [← hV]
    have hc2 : Chg [w.heap.size + 1 + 1] w2 ((w2.setCell ⟨w.heap.size + 1 + 1, 0, none⟩ (.int .i64 s.f)).setCell ⟨w.heap.size + 1 + 1, 1, none⟩ V) := ((Chg.refl _ w2).setCell _ (.inl (by simp))).setCell _ (.inl (by simp))
    have c1 : ((w2.setCell ⟨w.heap.size + 1 + 1, 0, none⟩ (.int .i64 s.f)).setCell ⟨w.heap.size + 1 + 1, 1, none⟩ V).cell? ⟨w.heap.size + 1 + 1, 0, none⟩ = some (.int .i64 s.f) := by
      rw [World.cell?_setCell_other _ _ _ _ (by simp)]; exact World.cell?_setCell_same _ _ _ q5
    have c2 : ((w2.setCell ⟨w.heap.size + 1 + 1, 0, none⟩ (.int .i64 s.f)).setCell ⟨w.heap.size + 1 + 1, 1, none⟩ V).cell? ⟨w.heap.size + 1 + 1, 1, none⟩ = some V :=
      World.cell?_setCell_same (u := .slice none 0 0) _ _ _ (by rw [World.cell?_setCell_other _ _ _ _ (by simp)]; exact q6)
    refine bodyPost_ret (v := .tuple #[.agg #[.int .i64 s.f, V], .bool true]) (by simp [results, Tryd.results23, go_sem, c1, c2]) rfl ?_
    refine ⟨⟨_, rfl, ?_⟩, Chg.ext (hx.trans hx2) hc2 (by simp; omega)⟩
    have hA := (hcp.2.1.chg hc2 (by simp; omega)).mono (Q := fun b => w.heap.size ≤ b) (fun b hb _ => by have : W.heap.size ≤ b := hb; omega)
    simp only [Tm.put, Got]
    exact ⟨av, cv, by rw [hV], hA⟩
  | cons k p ih =>
    intro t s w x1 s1 x2 s2 pa pc ht hs hts hss hp hpc hpc2
    obtain ⟨a1, c1, rfl, rfl, hg1, hg2, hc1, hks⟩ := ht.form
    obtain ⟨a2, c2, rfl, rfl, hf1, hf2, -, -⟩ := hs.form
    have hul := length_le_sizes t.ks
    have hus2 : Tm.sizes t.ks + 1 = t.size := by cases t; simp [Tm.size, Tm.ks]
    obtain ⟨m1, m2, b, o, rfl, m3⟩ := hp 0 (by simp)
    simp only [List.getElem_cons_zero, Nat.add_zero] at m1 m2 m3
    have hpt : ∀ a, (a = some ⟨b, o + 1, none⟩ ∨ p = []) → IsInts w a p := by
      intro a ha i hi
      rcases ha with rfl | rfl
      · obtain ⟨e1, e2, b', o', e3, e4⟩ := hp (i + 1) (by simpa using hi)
        injection e3 with e3
        injection e3 with e5 e6 _
        subst e5; subst e6
        exact ⟨by simpa using e1, by simpa using e2, b, o + 1, rfl, by rw [show o + 1 + i = o + (i + 1) by omega]; simpa using e4⟩
      · simp at hi
    have hpl : (k :: p).length = p.length + 1 := rfl
    rw [hpl] at hpc ⊢
    clear hpl
    obtain ⟨W, hW⟩ : ∃ W, W = (((w.alloc (.cells #[.int .i64 t.f, .slice a1 t.ks.length c1] 27)).alloc (.cells #[.int .i64 s.f, .slice a2 s.ks.length c2] 27)).alloc (.cells #[.int .i64 0, .slice none 0 0] 27)) := ⟨_, rfl⟩
    have hx : Ext w W := by subst hW; go_grown
    have hsW : W.heap.size = w.heap.size + 3 := by subst hW; simp
    have k1 : W.cell? ⟨w.heap.size, 0, none⟩ = some (.int .i64 t.f) := by subst hW; go_simp
    have k2 : W.cell? ⟨w.heap.size, 1, none⟩ = some (.slice a1 t.ks.length c1) := by subst hW; go_simp
    have k3 : W.cell? ⟨w.heap.size + 1, 0, none⟩ = some (.int .i64 s.f) := by subst hW; go_simp
    have k4 : W.cell? ⟨w.heap.size + 1, 1, none⟩ = some (.slice a2 s.ks.length c2) := by subst hW; go_simp
    have k5 : W.cell? ⟨w.heap.size + 1 + 1, 0, none⟩ = some (.int .i64 0) := by subst hW; go_simp
    have k6 : W.cell? ⟨w.heap.size + 1 + 1, 1, none⟩ = some (.slice none 0 0) := by subst hW; go_simp
    have f5 : W.frozen? ⟨w.heap.size + 1 + 1, 0, none⟩ = false := by subst hW; go_simp
    have f6 : W.frozen? ⟨w.heap.size + 1 + 1, 1, none⟩ = false := by subst hW; go_simp
    have m4 := hx.cell m3
    have hle : ((p.length : Int) + 1 == 0) = false := by rw [beq_eq_false_iff_ne]; omega
    have hbad : t.kid k = none → ∀ w2, Ext W w2 → Got w.heap.size ((w2.setCell ⟨w.heap.size + 1 + 1, 0, none⟩ (.int .i64 0)).setCell ⟨w.heap.size + 1 + 1, 1, none⟩ (.slice none 0 0)) (.tuple #[.agg #[.int .i64 0, .slice none 0 0], .bool false]) (t.put (k :: p) s) := by
      intro h w2 _
      simp only [Tm.put, h, Got]
    have bad : ∀ {Q' : Exit → Act → World → Prop}, True := fun {_} => trivial
    have Hp := Lib.hid (And.intro hpt (And.intro hs hks)); clear hpt hs hks
    by_cases hn : k < 0
    · have hkid : t.kid k = none := by unfold Tm.kid; rw [if_neg (by omega)]
      have Hb := Lib.hid (hbad hkid); clear hbad hkid
      have hd1 : decide (k < 0) = true := decide_eq_true hn
      go_enter Tryd.func23, Tryd.ntmps23
      go_wp2_with fail
      rw [← hW]
      clear hW
      refine wp_region_noPanic ?_
      refine wp_region_W Drawn 13 goes_drawn (by kernel_rfl) (by kernel_rfl) (fun _ _ _ _ _ h => h) ?_
      iterate 13 (first | (refine wpW_skip (by decide) (by rfl) ?_; simp only [Act.put, List.setIfInBounds_toArray, List.set_cons_zero, List.set_cons_succ]) | (apply wpW_want; (focus decide); (focus rfl); (focus (intro v1 hv; obtain ⟨m, rfl⟩ := hv; go_simp; first | done | rfl)); simp only [Act.put, List.setIfInBounds_toArray, List.set_cons_zero, List.set_cons_succ]))
      refine wpW_end (fun w4 hv => ?_)
      refine NoPanic.normal ?_
      obtain ⟨m, rfl⟩ := hv
      obtain ⟨V, hV⟩ : ∃ V, V = { W with drawn := W.drawn + 1 }.drewN m := ⟨_, rfl⟩
      have hVx : Ext W V := by rw [hV]; exact ext_base (Ext.drewN (Below.refl _ _) m)
      rw [← hV]
      clear hV
      have q5 := hVx.cell k5
      have q6 := hVx.cell k6
      have z5 := hVx.frozen k5 f5
      have z6 := hVx.frozen k6 f6
      go_wp2_with fail
      have hc2 : Chg [w.heap.size + 1 + 1] V ((V.setCell ⟨w.heap.size + 1 + 1, 0, none⟩ (.int .i64 0)).setCell ⟨w.heap.size + 1 + 1, 1, none⟩ (.slice none 0 0)) := ((Chg.refl _ V).setCell _ (.inl (by simp))).setCell _ (.inl (by simp))
      have e1 : ((V.setCell ⟨w.heap.size + 1 + 1, 0, none⟩ (.int .i64 0)).setCell ⟨w.heap.size + 1 + 1, 1, none⟩ (.slice none 0 0)).cell? ⟨w.heap.size + 1 + 1, 0, none⟩ = some (.int .i64 0) := by
        rw [World.cell?_setCell_other _ _ _ _ (by simp)]; exact World.cell?_setCell_same _ _ _ q5
      have e2 : ((V.setCell ⟨w.heap.size + 1 + 1, 0, none⟩ (.int .i64 0)).setCell ⟨w.heap.size + 1 + 1, 1, none⟩ (.slice none 0 0)).cell? ⟨w.heap.size + 1 + 1, 1, none⟩ = some (.slice none 0 0) :=
        World.cell?_setCell_same (u := .slice none 0 0) _ _ _ (by rw [World.cell?_setCell_other _ _ _ _ (by simp)]; exact q6)
      refine bodyPost_ret (v := .tuple #[.agg #[.int .i64 0, .slice none 0 0], .bool false]) (by simp [results, Tryd.results23, go_sem, e1, e2]) rfl ?_
      exact ⟨⟨_, rfl, Hb.out V hVx⟩, Chg.ext (hx.trans hVx) hc2 (by simp; omega)⟩
    · by_cases hn2 : (t.ks.length : Int) ≤ k
      · have hkid : t.kid k = none := by unfold Tm.kid; rw [if_pos (by omega), List.getElem?_eq_none (by omega)]
        have Hb := Lib.hid (hbad hkid); clear hbad hkid
        have hd1 : decide (k < 0) = false := decide_eq_false hn
        have hd2 : decide ((t.ks.length : Int) ≤ k) = true := decide_eq_true hn2
        go_enter Tryd.func23, Tryd.ntmps23
        go_wp2_with fail
        rw [← hW]
        clear hW
        refine wp_region_noPanic ?_
        refine wp_region_W Drawn 13 goes_drawn (by kernel_rfl) (by kernel_rfl) (fun _ _ _ _ _ h => h) ?_
        iterate 13 (first | (refine wpW_skip (by decide) (by rfl) ?_; simp only [Act.put, List.setIfInBounds_toArray, List.set_cons_zero, List.set_cons_succ]) | (apply wpW_want; (focus decide); (focus rfl); (focus (intro v1 hv; obtain ⟨m, rfl⟩ := hv; go_simp; first | done | rfl)); simp only [Act.put, List.setIfInBounds_toArray, List.set_cons_zero, List.set_cons_succ]))
        refine wpW_end (fun w4 hv => ?_)
        refine NoPanic.normal ?_
        obtain ⟨m, rfl⟩ := hv
        obtain ⟨V, hV⟩ : ∃ V, V = { W with drawn := W.drawn + 1 }.drewN m := ⟨_, rfl⟩
        have hVx : Ext W V := by rw [hV]; exact ext_base (Ext.drewN (Below.refl _ _) m)
        rw [← hV]
        clear hV
        have q5 := hVx.cell k5
        have q6 := hVx.cell k6
        have z5 := hVx.frozen k5 f5
        have z6 := hVx.frozen k6 f6
        go_wp2_with fail
        have hc2 : Chg [w.heap.size + 1 + 1] V ((V.setCell ⟨w.heap.size + 1 + 1, 0, none⟩ (.int .i64 0)).setCell ⟨w.heap.size + 1 + 1, 1, none⟩ (.slice none 0 0)) := ((Chg.refl _ V).setCell _ (.inl (by simp))).setCell _ (.inl (by simp))
        have e1 : ((V.setCell ⟨w.heap.size + 1 + 1, 0, none⟩ (.int .i64 0)).setCell ⟨w.heap.size + 1 + 1, 1, none⟩ (.slice none 0 0)).cell? ⟨w.heap.size + 1 + 1, 0, none⟩ = some (.int .i64 0) := by
          rw [World.cell?_setCell_other _ _ _ _ (by simp)]; exact World.cell?_setCell_same _ _ _ q5
        have e2 : ((V.setCell ⟨w.heap.size + 1 + 1, 0, none⟩ (.int .i64 0)).setCell ⟨w.heap.size + 1 + 1, 1, none⟩ (.slice none 0 0)).cell? ⟨w.heap.size + 1 + 1, 1, none⟩ = some (.slice none 0 0) :=
          World.cell?_setCell_same (u := .slice none 0 0) _ _ _ (by rw [World.cell?_setCell_other _ _ _ _ (by simp)]; exact q6)
        refine bodyPost_ret (v := .tuple #[.agg #[.int .i64 0, .slice none 0 0], .bool false]) (by simp [results, Tryd.results23, go_sem, e1, e2]) rfl ?_
        exact ⟨⟨_, rfl, Hb.out V hVx⟩, Chg.ext (hx.trans hVx) hc2 (by simp; omega)⟩
      · obtain ⟨n, hn3⟩ : ∃ n : Nat, k = (n : Int) := ⟨k.toNat, by omega⟩
        subst hn3
        have hn4 : n < t.ks.length := by omega
        have hn5 : (n : Int) < t.ks.length := by omega
        have hkid : t.kid (n : Int) = some t.ks[n] := by unfold Tm.kid; rw [if_pos (by omega), Int.toNat_natCast, List.getElem?_eq_getElem hn4]
        have hd1 : decide ((n : Int) < 0) = false := decide_eq_false (by omega)
        have hd2 : decide ((t.ks.length : Int) ≤ (n : Int)) = false := decide_eq_false (by omega)
        have Hkid := Lib.hid hkid; clear hkid hbad
        obtain ⟨b2, o2, a4, c4, rfl, h1, h2, h3⟩ := Hp.out.2.2.look hn4
        have g1 := hx.cell h1
        have g2 := hx.cell h2
        have hsz := size_le_sizes hn4
        have ih1 := fun a w' (h : Ext w w') (ha : a = some ⟨b, o + 1, none⟩ ∨ p = []) (pc' : Nat) (hpc' : p.length ≤ pc') (hpc3 : pc' ≤ 9223372036854775807) => ih t.ks[n] s w' _ _ _ _ a pc' (h3.ext h) (Hp.out.2.1.ext h) (by omega) hss ((Hp.out.1 a ha).ext h) hpc' hpc3
        clear ih h1 h2 h3 hn hn2
        have Hih := Lib.hid ih1; clear ih1
        have Htp1 := Lib.hid (show t.ks[n].put p s = none → t.put ((n : Int) :: p) s = none by intro h; simp only [Tm.put, Hkid.out]; rw [h])
        have Htp2 := Lib.hid (show ∀ x, t.ks[n].put p s = some x → t.put ((n : Int) :: p) s = some (.mk t.f (t.ks.set n x)) by intro x h; simp only [Tm.put, Hkid.out, Int.toNat_natCast]; rw [h])
        clear Hkid
        go_enter Tryd.func23, Tryd.ntmps23
        go_wp2_with fail
        rw [← hW]
        clear hW
        refine wp_region_noPanic ?_
        refine wp_region_W Drawn 13 goes_drawn (by kernel_rfl) (by kernel_rfl) (fun _ _ _ _ _ h => h) ?_
        iterate 13 (first | (refine wpW_skip (by decide) (by rfl) ?_; simp only [Act.put, List.setIfInBounds_toArray, List.set_cons_zero, List.set_cons_succ]) | (apply wpW_want; (focus decide); (focus rfl); (focus (intro v1 hv; obtain ⟨m, rfl⟩ := hv; go_simp; first | done | rfl)); simp only [Act.put, List.setIfInBounds_toArray, List.set_cons_zero, List.set_cons_succ]))
        refine wpW_end (fun w4 hv => ?_)
        refine NoPanic.normal ?_
        obtain ⟨m, rfl⟩ := hv
        obtain ⟨V, hV⟩ : ∃ V, V = { W with drawn := W.drawn + 1 }.drewN m := ⟨_, rfl⟩
        have hVx : Ext W V := by rw [hV]; exact ext_base (Ext.drewN (Below.refl _ _) m)
        rw [← hV]
        clear hV
        have j1 := hVx.cell k1
        have j2 := hVx.cell k2
        have j3 := hVx.cell k3
        have j4 := hVx.cell k4
        have j5 := hVx.cell m4
        have j6 := hVx.cell g1
        have j7 := hVx.cell g2
        have hxV := hx.trans hVx
        have hp1 : 0 < p.length + 1 := by omega
        have hp2 : (1 : Int) ≤ (p.length : Int) + 1 := by omega
        have hpcc : (p.length : Int) + 1 ≤ (pc : Int) := by omega
        have Hxv := Lib.hid hxV
        have HxV := Lib.hid hVx
        clear k1 k2 k3 k4 m4 g1 g2 hx hVx hxV
        go_wp2_with fail
        refine wp_region_noPanic ?_
        refine wp_region_An (by kernel_rfl) ?_
        have hB0 : Ext V { V with drawn := V.drawn + 1 } := Ext.drew (Below.refl _ _)
        refine An.walkz Ext [0, 1, 2, 3, 4, 5, 6, 7, 8, 9] 14 goes_ext (by kernel_rfl) (fun _ _ _ _ _ h => h) ?_
        have HJ := Lib.hid (And.intro j1 (And.intro j2 (And.intro j3 (And.intro j4 (And.intro j5 (And.intro j6 j7))))))
        clear j1 j2 j3 j4 j5 j6 j7
        have hA : (if pc = 1 then some ⟨b, o, none⟩ else some ⟨b, o + 1, none⟩ : Option Addr) = some ⟨b, o + 1, none⟩ ∨ p = [] := by
          by_cases h : pc = 1
          · right
            cases p with
            | nil => rfl
            | cons _ _ => simp at hpc; omega
          · left; rw [if_neg h]
        have Hc := Lib.hid (fun w' (h : Ext V w') => Hih.out (if pc = 1 then some ⟨b, o, none⟩ else some ⟨b, o + 1, none⟩) w' (Hxv.out.trans h) hA (pc - 1) (by omega) (by omega))
        clear Hih hA
        iterate 10 (apply wpS_open; (focus (simp only [List.getElem?_toArray, List.getElem?_cons_succ, List.getElem?_cons_zero]; rfl)); first | (refine St_skip (by rfl) ?_; simp only [Act.put, List.setIfInBounds_toArray, List.set_cons_zero, List.set_cons_succ]) | (apply St_want; (focus rfl); (focus (intro v1 hv; obtain ⟨j1, j2, j3, j4, j5, j6, j7⟩ := HJ.out; have hv2 := hB0.trans hv; replace j1 := hv2.cell j1; replace j2 := hv2.cell j2; replace j3 := hv2.cell j3; replace j4 := hv2.cell j4; replace j5 := hv2.cell j5; replace j6 := hv2.cell j6; replace j7 := hv2.cell j7; go_simp; first | done | rfl)); simp only [Act.put, List.setIfInBounds_toArray, List.set_cons_zero, List.set_cons_succ]))
        obtain ⟨A, hA0⟩ : ∃ A, A = (if pc = 1 then some ⟨b, o, none⟩ else some ⟨b, o + 1, none⟩ : Option Addr) := ⟨_, rfl⟩
        rw [← hA0] at Hc ⊢
        clear hA0
        refine wpS_nil (fun w1 hw1 => ?_)
        cases hres : t.ks[n].put p s with
        | none =>
          have Hres := Lib.hid hres; clear hres
          refine Beside.mk goes_ext (i := 10) (by (simp only [List.getElem?_toArray, List.getElem?_cons_succ, List.getElem?_cons_zero]; rfl)) (by (simp only [List.getElem?_toArray, List.getElem?_cons_succ, List.getElem?_cons_zero]; rfl)) (by kernel_rfl) (by rfl) (by rfl) (fun K hK => ?_) (fun K hK => ?_)
          · go_simp
            refine (Hc.out w1 ?_).mono ?_
            · exact hB0.trans hw1
            rintro e w2 ⟨⟨v, rfl, hv⟩, hx2⟩
            rw [Hres.out] at hv
            simp only [Got] at hv
            subst hv
            refine hK _ _ ?_
            (apply An.take (i := 11); (focus ((simp only [List.getElem?_toArray, List.getElem?_cons_succ, List.getElem?_cons_zero]; rfl))); (focus kernel_rfl); (focus (exact fun _ _ _ _ _ h => h)); (focus (left; refine ⟨by rfl, fun w0 => ?_⟩; go_simp; first | done | rfl)); simp only [Act.put, List.setIfInBounds_toArray, List.set_cons_zero, List.set_cons_succ])
            (apply An.take (i := 12); (focus ((simp only [List.getElem?_toArray, List.getElem?_cons_succ, List.getElem?_cons_zero]; rfl))); (focus kernel_rfl); (focus (exact fun _ _ _ _ _ h => h)); (focus (left; refine ⟨by rfl, fun w0 => ?_⟩; go_simp; first | done | rfl)); simp only [Act.put, List.setIfInBounds_toArray, List.set_cons_zero, List.set_cons_succ])
            (apply An.take (i := 13); (focus ((simp only [List.getElem?_toArray, List.getElem?_cons_succ, List.getElem?_cons_zero]; rfl))); (focus kernel_rfl); (focus (exact fun _ _ _ _ _ h => h)); (focus (left; refine ⟨by rfl, fun w0 => ?_⟩; go_simp; first | done | rfl)); simp only [Act.put, List.setIfInBounds_toArray, List.set_cons_zero, List.set_cons_succ])
            refine An.one (i := 14) (by (simp only [List.getElem?_toArray, List.getElem?_cons_succ, List.getElem?_cons_zero]; rfl)) (by kernel_rfl) (by rfl) (fun K hK => ?_)
            go_simp
            refine hK _ _ ?_
            clear hK
            have w3e : ∃ w3, w3 = w2 := ⟨_, rfl⟩
            obtain ⟨w3, h3e⟩ := w3e
            have hw3 : Ext w2 w3 := by rw [h3e]; exact Below.refl _ _
            rw [← h3e]
            clear h3e
            obtain ⟨w4, h4e⟩ : ∃ w4, w4 = w3.alloc (.cells #[.int .i64 0, .slice none 0 0] 27) := ⟨_, rfl⟩
            have hw4 : Ext (w3.alloc (.cells #[.int .i64 0, .slice none 0 0] 27)) w4 := by rw [h4e]; exact Below.refl _ _
            rw [← h4e]
            clear h4e
            have n0 := cells2 w3 (.int .i64 0) (.slice none 0 0) 27
            have n2 : (w3.alloc (.cells #[.int .i64 0, .slice none 0 0] 27)).frozen? ⟨w3.heap.size, 0, none⟩ = false := by go_simp
            have n3 : (w3.alloc (.cells #[.int .i64 0, .slice none 0 0] 27)).frozen? ⟨w3.heap.size, 1, none⟩ = false := by go_simp
            obtain ⟨B8, hB8⟩ : ∃ B8, B8 = w3.heap.size := ⟨_, rfl⟩
            rw [← hB8] at n0 n2 n3 ⊢
            obtain ⟨n0, n1⟩ := n0
            replace n2 := hw4.frozen n0 n2
            replace n3 := hw4.frozen n1 n3
            replace n0 := hw4.cell n0
            replace n1 := hw4.cell n1
            have hx4 : Ext V w4 := (((hB0.trans hw1).trans hx2).trans hw3).trans ((ext_alloc _ _).trans hw4)
            have hB8V : V.heap.size ≤ B8 := by rw [hB8]; exact (((hB0.trans hw1).trans hx2).trans hw3).size
            have H8 := Lib.hid hB8; clear hB8
            refine An.one (i := 15) (by (simp only [List.getElem?_toArray, List.getElem?_cons_succ, List.getElem?_cons_zero]; rfl)) (by kernel_rfl) (by rfl) (fun K hK => ?_)
            go_simp
            refine hK _ _ ?_
            clear hK
            refine An.one (i := 16) (by (simp only [List.getElem?_toArray, List.getElem?_cons_succ, List.getElem?_cons_zero]; rfl)) (by kernel_rfl) (by rfl) (fun K hK => ?_)
            go_simp
            refine hK _ _ ?_
            clear hK
            refine An.done (by kernel_rfl) ?_
            refine NoPanic.normal ?_
            obtain ⟨wf, hwf⟩ : ∃ wf, wf = ((w4.setCell ⟨B8, 0, none⟩ (.int .i64 0)).setCell ⟨B8, 1, none⟩ (.slice none 0 0)) := ⟨_, rfl⟩
            have hc8 : Chg [B8] w4 wf := by rw [hwf]; exact ((Chg.refl [B8] w4).setCell (p := ⟨B8, 0, none⟩) _ (.inl (by simp))).setCell (p := ⟨B8, 1, none⟩) _ (.inl (by simp))
            have b0 : wf.cell? ⟨B8, 0, none⟩ = some (.int .i64 0) := by rw [hwf, World.cell?_setCell_other _ _ _ _ (by simp)]; exact World.cell?_setCell_same _ _ _ n0
            have b1 : wf.cell? ⟨B8, 1, none⟩ = some (.slice none 0 0) := by rw [hwf]; exact World.cell?_setCell_same (u := .slice none 0 0) _ _ _ (by rw [World.cell?_setCell_other _ _ _ _ (by simp)]; exact n1)
            have hxf : Ext V wf := Chg.ext hx4 hc8 (by simp; omega)
            rw [← hwf]
            clear hwf hc8 n0 n1 n2 n3
            have q5 := hxf.cell (HxV.out.cell k5)
            have q6 := hxf.cell (HxV.out.cell k6)
            have z5 := hxf.frozen (HxV.out.cell k5) (HxV.out.frozen k5 f5)
            have z6 := hxf.frozen (HxV.out.cell k6) (HxV.out.frozen k6 f6)
            go_wp2_with fail
            all_goals
              have hc2 : Chg [w.heap.size + 1 + 1] wf ((wf.setCell ⟨w.heap.size + 1 + 1, 0, none⟩ (.int .i64 0)).setCell ⟨w.heap.size + 1 + 1, 1, none⟩ (.slice none 0 0)) := ((Chg.refl _ wf).setCell _ (.inl (by simp))).setCell _ (.inl (by simp))
              have e1 : ((wf.setCell ⟨w.heap.size + 1 + 1, 0, none⟩ (.int .i64 0)).setCell ⟨w.heap.size + 1 + 1, 1, none⟩ (.slice none 0 0)).cell? ⟨w.heap.size + 1 + 1, 0, none⟩ = some (.int .i64 0) := by
                rw [World.cell?_setCell_other _ _ _ _ (by simp)]; exact World.cell?_setCell_same _ _ _ q5
              have e2 : ((wf.setCell ⟨w.heap.size + 1 + 1, 0, none⟩ (.int .i64 0)).setCell ⟨w.heap.size + 1 + 1, 1, none⟩ (.slice none 0 0)).cell? ⟨w.heap.size + 1 + 1, 1, none⟩ = some (.slice none 0 0) :=
                World.cell?_setCell_same (u := .slice none 0 0) _ _ _ (by rw [World.cell?_setCell_other _ _ _ _ (by simp)]; exact q6)
              refine bodyPost_ret (v := .tuple #[.agg #[.int .i64 0, .slice none 0 0], .bool false]) (by simp [results, Tryd.results23, go_sem, e1, e2]) rfl ?_
              exact ⟨⟨_, rfl, by rw [Htp1.out Hres.out]; simp only [Got]⟩, Chg.ext (Hxv.out.trans hxf) hc2 (by simp <;> omega)⟩
          · go_simp
            refine hK _ _ (ext_alloc _ _) (fun w3 hw3 => ?_)
            clear hK
            have n0 := cells2 w1 (.int .i64 0) (.slice none 0 0) 27
            have n2 : (w1.alloc (.cells #[.int .i64 0, .slice none 0 0] 27)).frozen? ⟨w1.heap.size, 0, none⟩ = false := by go_simp
            have n3 : (w1.alloc (.cells #[.int .i64 0, .slice none 0 0] 27)).frozen? ⟨w1.heap.size, 1, none⟩ = false := by go_simp
            have hs1 : (w1.alloc (.cells #[.int .i64 0, .slice none 0 0] 27)).heap.size = w1.heap.size + 1 := by simp
            obtain ⟨B8, hB8⟩ : ∃ B8, B8 = w1.heap.size := ⟨_, rfl⟩
            rw [← hB8] at n0 n2 n3 hs1 ⊢
            obtain ⟨n0, n1⟩ := n0
            replace n2 := hw3.frozen n0 n2
            replace n3 := hw3.frozen n1 n3
            replace n0 := hw3.cell n0
            replace n1 := hw3.cell n1
            have hx3 : Ext V w3 := (hB0.trans hw1).trans ((ext_alloc _ _).trans hw3)
            have hB8V : V.heap.size ≤ B8 := by rw [hB8]; exact (hB0.trans hw1).size
            have H8 := Lib.hid hB8; clear hB8
            have hs3 : B8 < w3.heap.size := by have := hw3.size; omega
            refine An.one (i := 10) (by (simp only [List.getElem?_toArray, List.getElem?_cons_succ, List.getElem?_cons_zero]; rfl)) (by kernel_rfl) (by rfl) (fun K hK => ?_)
            go_simp
            refine (Hc.out w3 ?_).mono ?_
            · exact hx3
            rintro e w2 ⟨⟨v, rfl, hv⟩, hx2⟩
            rw [Hres.out] at hv
            simp only [Got] at hv
            subst hv
            refine hK _ _ ?_
            (apply An.take (i := 11); (focus ((simp only [List.getElem?_toArray, List.getElem?_cons_succ, List.getElem?_cons_zero]; rfl))); (focus kernel_rfl); (focus (exact fun _ _ _ _ _ h => h)); (focus (left; refine ⟨by rfl, fun w0 => ?_⟩; go_simp; first | done | rfl)); simp only [Act.put, List.setIfInBounds_toArray, List.set_cons_zero, List.set_cons_succ])
            (apply An.take (i := 12); (focus ((simp only [List.getElem?_toArray, List.getElem?_cons_succ, List.getElem?_cons_zero]; rfl))); (focus kernel_rfl); (focus (exact fun _ _ _ _ _ h => h)); (focus (left; refine ⟨by rfl, fun w0 => ?_⟩; go_simp; first | done | rfl)); simp only [Act.put, List.setIfInBounds_toArray, List.set_cons_zero, List.set_cons_succ])
            (apply An.take (i := 13); (focus ((simp only [List.getElem?_toArray, List.getElem?_cons_succ, List.getElem?_cons_zero]; rfl))); (focus kernel_rfl); (focus (exact fun _ _ _ _ _ h => h)); (focus (left; refine ⟨by rfl, fun w0 => ?_⟩; go_simp; first | done | rfl)); simp only [Act.put, List.setIfInBounds_toArray, List.set_cons_zero, List.set_cons_succ])
            obtain ⟨w4, h4e⟩ : ∃ w4, w4 = w2 := ⟨_, rfl⟩
            have hw4 : Ext w2 w4 := by rw [h4e]; exact Below.refl _ _
            rw [← h4e]
            clear h4e
            replace n2 := hw4.frozen (hx2.cell n0) (hx2.frozen n0 n2)
            replace n3 := hw4.frozen (hx2.cell n1) (hx2.frozen n1 n3)
            replace n0 := hw4.cell (hx2.cell n0)
            replace n1 := hw4.cell (hx2.cell n1)
            have hx4 : Ext V w4 := (hx3.trans hx2).trans hw4
            refine An.one (i := 15) (by (simp only [List.getElem?_toArray, List.getElem?_cons_succ, List.getElem?_cons_zero]; rfl)) (by kernel_rfl) (by rfl) (fun K hK => ?_)
            go_simp
            refine hK _ _ ?_
            clear hK
            refine An.one (i := 16) (by (simp only [List.getElem?_toArray, List.getElem?_cons_succ, List.getElem?_cons_zero]; rfl)) (by kernel_rfl) (by rfl) (fun K hK => ?_)
            go_simp
            refine hK _ _ ?_
            clear hK
            refine An.done (by kernel_rfl) ?_
            refine NoPanic.normal ?_
            obtain ⟨wf, hwf⟩ : ∃ wf, wf = ((w4.setCell ⟨B8, 0, none⟩ (.int .i64 0)).setCell ⟨B8, 1, none⟩ (.slice none 0 0)) := ⟨_, rfl⟩
            have hc8 : Chg [B8] w4 wf := by rw [hwf]; exact ((Chg.refl [B8] w4).setCell (p := ⟨B8, 0, none⟩) _ (.inl (by simp))).setCell (p := ⟨B8, 1, none⟩) _ (.inl (by simp))
            have b0 : wf.cell? ⟨B8, 0, none⟩ = some (.int .i64 0) := by rw [hwf, World.cell?_setCell_other _ _ _ _ (by simp)]; exact World.cell?_setCell_same _ _ _ n0
            have b1 : wf.cell? ⟨B8, 1, none⟩ = some (.slice none 0 0) := by rw [hwf]; exact World.cell?_setCell_same (u := .slice none 0 0) _ _ _ (by rw [World.cell?_setCell_other _ _ _ _ (by simp)]; exact n1)
            have hxf : Ext V wf := Chg.ext hx4 hc8 (by simp; omega)
            rw [← hwf]
            clear hwf hc8 n0 n1 n2 n3
            have q5 := hxf.cell (HxV.out.cell k5)
            have q6 := hxf.cell (HxV.out.cell k6)
            have z5 := hxf.frozen (HxV.out.cell k5) (HxV.out.frozen k5 f5)
            have z6 := hxf.frozen (HxV.out.cell k6) (HxV.out.frozen k6 f6)
            go_wp2_with fail
            all_goals
              have hc2 : Chg [w.heap.size + 1 + 1] wf ((wf.setCell ⟨w.heap.size + 1 + 1, 0, none⟩ (.int .i64 0)).setCell ⟨w.heap.size + 1 + 1, 1, none⟩ (.slice none 0 0)) := ((Chg.refl _ wf).setCell _ (.inl (by simp))).setCell _ (.inl (by simp))
              have e1 : ((wf.setCell ⟨w.heap.size + 1 + 1, 0, none⟩ (.int .i64 0)).setCell ⟨w.heap.size + 1 + 1, 1, none⟩ (.slice none 0 0)).cell? ⟨w.heap.size + 1 + 1, 0, none⟩ = some (.int .i64 0) := by
                rw [World.cell?_setCell_other _ _ _ _ (by simp)]; exact World.cell?_setCell_same _ _ _ q5
              have e2 : ((wf.setCell ⟨w.heap.size + 1 + 1, 0, none⟩ (.int .i64 0)).setCell ⟨w.heap.size + 1 + 1, 1, none⟩ (.slice none 0 0)).cell? ⟨w.heap.size + 1 + 1, 1, none⟩ = some (.slice none 0 0) :=
                World.cell?_setCell_same (u := .slice none 0 0) _ _ _ (by rw [World.cell?_setCell_other _ _ _ _ (by simp)]; exact q6)
              refine bodyPost_ret (v := .tuple #[.agg #[.int .i64 0, .slice none 0 0], .bool false]) (by simp [results, Tryd.results23, go_sem, e1, e2]) rfl ?_
              exact ⟨⟨_, rfl, by rw [Htp1.out Hres.out]; simp only [Got]⟩, Chg.ext (Hxv.out.trans hxf) hc2 (by simp <;> omega)⟩
        | some x =>
          have Hres := Lib.hid hres; clear hres
          refine Beside.mk goes_ext (i := 10) (by (simp only [List.getElem?_toArray, List.getElem?_cons_succ, List.getElem?_cons_zero]; rfl)) (by (simp only [List.getElem?_toArray, List.getElem?_cons_succ, List.getElem?_cons_zero]; rfl)) (by kernel_rfl) (by rfl) (by rfl) (fun K hK => ?_) (fun K hK => ?_)
          · go_simp
            refine (Hc.out w1 ?_).mono ?_
            · exact hB0.trans hw1
            rintro e w2 ⟨⟨v, rfl, hv⟩, hx2⟩
            rw [Hres.out] at hv
            simp only [Got] at hv
            obtain ⟨ax, cx, rfl, hat⟩ := hv
            refine hK _ _ ?_
            (apply An.take (i := 11); (focus ((simp only [List.getElem?_toArray, List.getElem?_cons_succ, List.getElem?_cons_zero]; rfl))); (focus kernel_rfl); (focus (exact fun _ _ _ _ _ h => h)); (focus (left; refine ⟨by rfl, fun w0 => ?_⟩; go_simp; first | done | rfl)); simp only [Act.put, List.setIfInBounds_toArray, List.set_cons_zero, List.set_cons_succ])
            (apply An.take (i := 12); (focus ((simp only [List.getElem?_toArray, List.getElem?_cons_succ, List.getElem?_cons_zero]; rfl))); (focus kernel_rfl); (focus (exact fun _ _ _ _ _ h => h)); (focus (left; refine ⟨by rfl, fun w0 => ?_⟩; go_simp; first | done | rfl)); simp only [Act.put, List.setIfInBounds_toArray, List.set_cons_zero, List.set_cons_succ])
            (apply An.take (i := 13); (focus ((simp only [List.getElem?_toArray, List.getElem?_cons_succ, List.getElem?_cons_zero]; rfl))); (focus kernel_rfl); (focus (exact fun _ _ _ _ _ h => h)); (focus (left; refine ⟨by rfl, fun w0 => ?_⟩; go_simp; first | done | rfl)); simp only [Act.put, List.setIfInBounds_toArray, List.set_cons_zero, List.set_cons_succ])
            refine An.one (i := 14) (by (simp only [List.getElem?_toArray, List.getElem?_cons_succ, List.getElem?_cons_zero]; rfl)) (by kernel_rfl) (by rfl) (fun K hK => ?_)
            go_simp
            refine hK _ _ ?_
            clear hK
            have w3e : ∃ w3, w3 = w2 := ⟨_, rfl⟩
            obtain ⟨w3, h3e⟩ := w3e
            have hw3 : Ext w2 w3 := by rw [h3e]; exact Below.refl _ _
            rw [← h3e]
            clear h3e
            obtain ⟨w4, h4e⟩ : ∃ w4, w4 = w3.alloc (.cells #[.int .i64 0, .slice none 0 0] 27) := ⟨_, rfl⟩
            have hw4 : Ext (w3.alloc (.cells #[.int .i64 0, .slice none 0 0] 27)) w4 := by rw [h4e]; exact Below.refl _ _
            rw [← h4e]
            clear h4e
            have n0 := cells2 w3 (.int .i64 0) (.slice none 0 0) 27
            have n2 : (w3.alloc (.cells #[.int .i64 0, .slice none 0 0] 27)).frozen? ⟨w3.heap.size, 0, none⟩ = false := by go_simp
            have n3 : (w3.alloc (.cells #[.int .i64 0, .slice none 0 0] 27)).frozen? ⟨w3.heap.size, 1, none⟩ = false := by go_simp
            obtain ⟨B8, hB8⟩ : ∃ B8, B8 = w3.heap.size := ⟨_, rfl⟩
            rw [← hB8] at n0 n2 n3 ⊢
            obtain ⟨n0, n1⟩ := n0
            replace n2 := hw4.frozen n0 n2
            replace n3 := hw4.frozen n1 n3
            replace n0 := hw4.cell n0
            replace n1 := hw4.cell n1
            have hx4 : Ext V w4 := (((hB0.trans hw1).trans hx2).trans hw3).trans ((ext_alloc _ _).trans hw4)
            have hB8V : V.heap.size ≤ B8 := by rw [hB8]; exact (((hB0.trans hw1).trans hx2).trans hw3).size
            have H8 := Lib.hid hB8; clear hB8
            have hsw2 : w2.heap.size ≤ B8 := by rw [H8.out]; exact hw3.size
            have hat4 : AtTm (fun c => V.heap.size ≤ c ∧ c ≠ B8) w4 (.int .i64 x.f) (.slice ax x.ks.length cx) x := (hat.mono (Q := fun c => V.heap.size ≤ c ∧ c ≠ B8) (fun c hc hlt => ⟨by have h1 : w1.heap.size ≤ c := hc; have := (hB0.trans hw1).size; omega, by omega⟩)).ext (hw3.trans ((ext_alloc _ _).trans hw4))
            refine An.one (i := 15) (by (simp only [List.getElem?_toArray, List.getElem?_cons_succ, List.getElem?_cons_zero]; rfl)) (by kernel_rfl) (by rfl) (fun K hK => ?_)
            go_simp
            refine hK _ _ ?_
            clear hK
            refine An.one (i := 16) (by (simp only [List.getElem?_toArray, List.getElem?_cons_succ, List.getElem?_cons_zero]; rfl)) (by kernel_rfl) (by rfl) (fun K hK => ?_)
            go_simp
            refine hK _ _ ?_
            clear hK
            refine An.done (by kernel_rfl) ?_
            refine NoPanic.normal ?_
            obtain ⟨wf, hwf⟩ : ∃ wf, wf = ((w4.setCell ⟨B8, 0, none⟩ (.int .i64 x.f)).setCell ⟨B8, 1, none⟩ (.slice ax x.ks.length cx)) := ⟨_, rfl⟩
            have hc8 : Chg [B8] w4 wf := by rw [hwf]; exact ((Chg.refl [B8] w4).setCell (p := ⟨B8, 0, none⟩) _ (.inl (by simp))).setCell (p := ⟨B8, 1, none⟩) _ (.inl (by simp))
            have b0 : wf.cell? ⟨B8, 0, none⟩ = some (.int .i64 x.f) := by rw [hwf, World.cell?_setCell_other _ _ _ _ (by simp)]; exact World.cell?_setCell_same _ _ _ n0
            have b1 : wf.cell? ⟨B8, 1, none⟩ = some (.slice ax x.ks.length cx) := by rw [hwf]; exact World.cell?_setCell_same (u := .slice none 0 0) _ _ _ (by rw [World.cell?_setCell_other _ _ _ _ (by simp)]; exact n1)
            have hxf : Ext V wf := Chg.ext hx4 hc8 (by simp; omega)
            have hatf := hat4.chg hc8 (by simp)
            rw [← hwf]
            clear hwf hc8 n0 n1 n2 n3
            have q1 := hxf.cell HJ.out.1
            have q2 := hxf.cell HJ.out.2.1
            have q7 := hxf.cell HJ.out.2.2.2.2.1
            have q5 := hxf.cell (HxV.out.cell k5)
            have q6 := hxf.cell (HxV.out.cell k6)
            have z5 := hxf.frozen (HxV.out.cell k5) (HxV.out.frozen k5 f5)
            have z6 := hxf.frozen (HxV.out.cell k6) (HxV.out.frozen k6 f6)
            have Hcp := Lib.hid (refCopyOf_any t wf _ _ (ht.ext (Hxv.out.trans hxf)) hts)
            go_wp2_with ((go_at_call 64; refine (Hcp.out).mono ?_; rintro e w5 ⟨⟨ac, cc, rfl, hcp⟩, hx5⟩; have r5 := hx5.cell q5; have r6 := hx5.cell q6; have y5 := hx5.frozen q5 z5; have y6 := hx5.frozen q6 z6; have r7 := hx5.cell q7; have d0 := hx5.cell b0; have d1 := hx5.cell b1))
            obtain ⟨g, rfl, hgB, hgl, hrow, hfz⟩ := hcp.2.2 (by omega)
            obtain ⟨y0, y1, o0, o1, -⟩ := hrow n hn4
            have o2 := hfz (n * 2) (by omega)
            have o3 := hfz (n * 2 + 1) (by omega)
            have hA6 := ext_alloc w5 (.cells #[.int .i64 t.f, .slice (some ⟨g, 0, none⟩) t.ks.length cc] 27)
            have c10 := cells2 w5 (.int .i64 t.f) (.slice (some ⟨g, 0, none⟩) t.ks.length cc) 27
            obtain ⟨w6, hw6⟩ : ∃ w6, w6 = w5.alloc (.cells #[.int .i64 t.f, .slice (some ⟨g, 0, none⟩) t.ks.length cc] 27) := ⟨_, rfl⟩
            rw [← hw6] at hA6 c10 ⊢
            have hs6 : w6.heap.size = w5.heap.size + 1 := by rw [hw6]; simp
            clear hw6
            obtain ⟨c10, c11⟩ := c10
            replace o2 := hA6.frozen o0 o2
            replace o3 := hA6.frozen o1 o3
            replace o0 := hA6.cell o0
            replace o1 := hA6.cell o1
            replace y5 := hA6.frozen r5 y5
            replace y6 := hA6.frozen r6 y6
            replace r5 := hA6.cell r5
            replace r6 := hA6.cell r6
            replace r7 := hA6.cell r7
            replace d0 := hA6.cell d0
            replace d1 := hA6.cell d1
            have hx6 : Ext V w6 := hxf.trans (hx5.trans hA6)
            have hVs := hxf.size
            have hWs := HxV.out.size
            have hrow6 : TmRow (fun c => W.heap.size ≤ c) g w6 t.ks := fun i hi => by
              obtain ⟨z0, z1, e0, e1, e2⟩ := hrow i hi
              exact ⟨z0, z1, hA6.cell e0, hA6.cell e1, (e2.mono (Q := fun c => W.heap.size ≤ c ∧ c ≠ g) (fun c hc _ => ⟨by have h1 : wf.heap.size ≤ c := hc.1; omega, hc.2⟩)).ext hA6⟩
            have hat6 : AtTm (fun c => W.heap.size ≤ c ∧ c ≠ g) w6 (.int .i64 x.f) (.slice ax x.ks.length cx) x := (hatf.mono (Q := fun c => W.heap.size ≤ c ∧ c ≠ g) (fun c hc hlt => ⟨by have := hc.1; omega, by have : wf.heap.size ≤ g := hgB; omega⟩)).ext (hx5.trans hA6)
            have HR6 := Lib.hid (And.intro hrow6 hat6)
            clear hrow6 hat6 hrow hfz hatf
            refine wp_region_noPanic ?_
            refine wp_region_W Drawn 7 goes_drawn (by kernel_rfl) (by kernel_rfl) (fun _ _ _ _ _ h => h) ?_
            iterate 7 (first | (refine wpW_skip (by decide) (by rfl) ?_; simp only [Act.put, List.setIfInBounds_toArray, List.set_cons_zero, List.set_cons_succ]) | (apply wpW_want; (focus decide); (focus rfl); (focus (intro v1 hv; obtain ⟨m, rfl⟩ := hv; go_simp; first | done | rfl)); simp only [Act.put, List.setIfInBounds_toArray, List.set_cons_zero, List.set_cons_succ]))
            refine wpW_turn (by kernel_rfl) (by rfl) (fun K w7 hw7 hK => ?_)
            have hx7 : Ext w6 w7 := ext_base hw7.ext
            obtain ⟨m2, rfl⟩ := hw7
            obtain ⟨w8, hw8⟩ : ∃ w8, w8 = { w6 with drawn := w6.drawn + 1 }.drewN m2 := ⟨_, rfl⟩
            rw [← hw8] at hx7 ⊢
            clear hw8
            replace o2 := hx7.frozen o0 o2
            replace o3 := hx7.frozen o1 o3
            replace o0 := hx7.cell o0
            replace o1 := hx7.cell o1
            go_simp
            refine hK _ _ Drawn 8 goes_drawn (by kernel_rfl) ?_
            clear hK
            refine wpW_end (fun w9 hv => ?_)
            refine NoPanic.normal ?_
            obtain ⟨w10, hw10⟩ : ∃ w10, w10 = ((w8.setCell ⟨g, n * 2, none⟩ (.int .i64 x.f)).setCell ⟨g, n * 2 + 1, none⟩ (.slice ax x.ks.length cx)) := ⟨_, rfl⟩
            rw [← hw10] at hv
            have hput := TmRow.put (P := fun c => W.heap.size ≤ c) (b := g) (w := w8) (ks := t.ks) (n := n) (x := .int .i64 x.f) (s := .slice ax x.ks.length cx) (u := x) (fun i hi => by
              obtain ⟨z0, z1, e0, e1, e2⟩ := HR6.out.1 i hi
              exact ⟨z0, z1, hx7.cell e0, hx7.cell e1, e2.ext hx7⟩) (by have : wf.heap.size ≤ g := hgB; omega) hn4 (HR6.out.2.ext hx7)
            rw [← hw10] at hput
            have hcg : Chg [g] w8 w10 := by rw [hw10]; exact ((Chg.refl [g] w8).setCell (p := ⟨g, n * 2, none⟩) _ (.inl (by simp))).setCell (p := ⟨g, n * 2 + 1, none⟩) _ (.inl (by simp))
            have hxv9 : Ext w10 w9 := hv.ext
            have hg1' : wf.heap.size ≤ g := hgB
            have hwV := Hxv.out.size
            have u0 := hxv9.cell (hcg.cell (hx7.cell c10) (by simp; omega))
            have u1 := hxv9.cell (hcg.cell (hx7.cell c11) (by simp; omega))
            have u5 := hxv9.cell (hcg.cell (hx7.cell r5) (by simp; omega))
            have u6 := hxv9.cell (hcg.cell (hx7.cell r6) (by simp; omega))
            have v5 := hxv9.frozen (hcg.cell (hx7.cell r5) (by simp; omega)) (hcg.frozen (hx7.cell r5) (by simp; omega) (hx7.frozen r5 y5))
            have v6 := hxv9.frozen (hcg.cell (hx7.cell r6) (by simp; omega)) (hcg.frozen (hx7.cell r6) (by simp; omega) (hx7.frozen r6 y6))
            have hE9 : Ext w w9 := (Chg.ext (Hxv.out.trans (hx6.trans hx7)) hcg (by simp; omega)).trans hxv9
            have hput9 := AtTms.ext hput hxv9
            have HF9 := Lib.hid (And.intro hput9 hE9)
            clear hput hput9 hE9 hcg hxv9 hw10 hv hx7 hx6 hA6 o0 o1 o2 o3 r5 r6 r7 d0 d1 y5 y6 c10 c11 q1 q2 q5 q6 q7 z5 z6 b0 b1
            go_wp2_with fail
            have hc2 : Chg [w.heap.size + 1 + 1] w9 ((w9.setCell ⟨w.heap.size + 1 + 1, 0, none⟩ (.int .i64 t.f)).setCell ⟨w.heap.size + 1 + 1, 1, none⟩ (.slice (some ⟨g, 0, none⟩) t.ks.length cc)) := ((Chg.refl _ w9).setCell _ (.inl (by simp))).setCell _ (.inl (by simp))
            have e1 : ((w9.setCell ⟨w.heap.size + 1 + 1, 0, none⟩ (.int .i64 t.f)).setCell ⟨w.heap.size + 1 + 1, 1, none⟩ (.slice (some ⟨g, 0, none⟩) t.ks.length cc)).cell? ⟨w.heap.size + 1 + 1, 0, none⟩ = some (.int .i64 t.f) := by
              rw [World.cell?_setCell_other _ _ _ _ (by simp)]; exact World.cell?_setCell_same _ _ _ u5
            have e2 : ((w9.setCell ⟨w.heap.size + 1 + 1, 0, none⟩ (.int .i64 t.f)).setCell ⟨w.heap.size + 1 + 1, 1, none⟩ (.slice (some ⟨g, 0, none⟩) t.ks.length cc)).cell? ⟨w.heap.size + 1 + 1, 1, none⟩ = some (.slice (some ⟨g, 0, none⟩) t.ks.length cc) :=
              World.cell?_setCell_same (u := .slice none 0 0) _ _ _ (by rw [World.cell?_setCell_other _ _ _ _ (by simp)]; exact u6)
            refine bodyPost_ret (v := .tuple #[.agg #[.int .i64 t.f, .slice (some ⟨g, 0, none⟩) t.ks.length cc], .bool true]) (by simp [results, Tryd.results23, go_sem, e1, e2]) rfl ?_
            refine ⟨⟨_, rfl, ?_⟩, Chg.ext HF9.out.2 hc2 (by simp <;> omega)⟩
            rw [Htp2.out _ Hres.out]
            have hll : (t.ks.set n x).length = t.ks.length := List.length_set
            have hfin := atTm_of (t := .mk t.f (t.ks.set n x)) (a := some ⟨g, 0, none⟩) (c := cc) hg1 hg2 (by show (t.ks.set n x).length ≤ cc; rw [hll]; exact hcp.1) HF9.out.1
            have hfin2 := (hfin.chg hc2 (by simp; omega)).mono (Q := fun c => w.heap.size ≤ c) (fun c hc _ => by have h1 : W.heap.size ≤ c := hc; omega)
            refine ⟨some ⟨g, 0, none⟩, cc, ?_, hfin2⟩
            show _ = Value.tuple #[.agg #[.int .i64 t.f, .slice (some ⟨g, 0, none⟩) (t.ks.set n x).length cc], .bool true]
            rw [hll]
          · go_simp
            refine hK _ _ (ext_alloc _ _) (fun w3 hw3 => ?_)
            clear hK
            have n0 := cells2 w1 (.int .i64 0) (.slice none 0 0) 27
            have n2 : (w1.alloc (.cells #[.int .i64 0, .slice none 0 0] 27)).frozen? ⟨w1.heap.size, 0, none⟩ = false := by go_simp
            have n3 : (w1.alloc (.cells #[.int .i64 0, .slice none 0 0] 27)).frozen? ⟨w1.heap.size, 1, none⟩ = false := by go_simp
            have hs1 : (w1.alloc (.cells #[.int .i64 0, .slice none 0 0] 27)).heap.size = w1.heap.size + 1 := by simp
            obtain ⟨B8, hB8⟩ : ∃ B8, B8 = w1.heap.size := ⟨_, rfl⟩
            rw [← hB8] at n0 n2 n3 hs1 ⊢
            obtain ⟨n0, n1⟩ := n0
            replace n2 := hw3.frozen n0 n2
            replace n3 := hw3.frozen n1 n3
            replace n0 := hw3.cell n0
            replace n1 := hw3.cell n1
            have hx3 : Ext V w3 := (hB0.trans hw1).trans ((ext_alloc _ _).trans hw3)
            have hB8V : V.heap.size ≤ B8 := by rw [hB8]; exact (hB0.trans hw1).size
            have H8 := Lib.hid hB8; clear hB8
            have hs3 : B8 < w3.heap.size := by have := hw3.size; omega
            refine An.one (i := 10) (by (simp only [List.getElem?_toArray, List.getElem?_cons_succ, List.getElem?_cons_zero]; rfl)) (by kernel_rfl) (by rfl) (fun K hK => ?_)
            go_simp
            refine (Hc.out w3 ?_).mono ?_
            · exact hx3
            rintro e w2 ⟨⟨v, rfl, hv⟩, hx2⟩
            rw [Hres.out] at hv
            simp only [Got] at hv
            obtain ⟨ax, cx, rfl, hat⟩ := hv
            refine hK _ _ ?_
            (apply An.take (i := 11); (focus ((simp only [List.getElem?_toArray, List.getElem?_cons_succ, List.getElem?_cons_zero]; rfl))); (focus kernel_rfl); (focus (exact fun _ _ _ _ _ h => h)); (focus (left; refine ⟨by rfl, fun w0 => ?_⟩; go_simp; first | done | rfl)); simp only [Act.put, List.setIfInBounds_toArray, List.set_cons_zero, List.set_cons_succ])
            (apply An.take (i := 12); (focus ((simp only [List.getElem?_toArray, List.getElem?_cons_succ, List.getElem?_cons_zero]; rfl))); (focus kernel_rfl); (focus (exact fun _ _ _ _ _ h => h)); (focus (left; refine ⟨by rfl, fun w0 => ?_⟩; go_simp; first | done | rfl)); simp only [Act.put, List.setIfInBounds_toArray, List.set_cons_zero, List.set_cons_succ])
            (apply An.take (i := 13); (focus ((simp only [List.getElem?_toArray, List.getElem?_cons_succ, List.getElem?_cons_zero]; rfl))); (focus kernel_rfl); (focus (exact fun _ _ _ _ _ h => h)); (focus (left; refine ⟨by rfl, fun w0 => ?_⟩; go_simp; first | done | rfl)); simp only [Act.put, List.setIfInBounds_toArray, List.set_cons_zero, List.set_cons_succ])
            obtain ⟨w4, h4e⟩ : ∃ w4, w4 = w2 := ⟨_, rfl⟩
            have hw4 : Ext w2 w4 := by rw [h4e]; exact Below.refl _ _
            rw [← h4e]
            clear h4e
            replace n2 := hw4.frozen (hx2.cell n0) (hx2.frozen n0 n2)
            replace n3 := hw4.frozen (hx2.cell n1) (hx2.frozen n1 n3)
            replace n0 := hw4.cell (hx2.cell n0)
            replace n1 := hw4.cell (hx2.cell n1)
            have hx4 : Ext V w4 := (hx3.trans hx2).trans hw4
            have hat4 : AtTm (fun c => V.heap.size ≤ c ∧ c ≠ B8) w4 (.int .i64 x.f) (.slice ax x.ks.length cx) x := (hat.mono (Q := fun c => V.heap.size ≤ c ∧ c ≠ B8) (fun c hc hlt => ⟨by have h1 : w3.heap.size ≤ c := hc; have := hx3.size; omega, by have h1 : w3.heap.size ≤ c := hc; omega⟩)).ext hw4
            refine An.one (i := 15) (by (simp only [List.getElem?_toArray, List.getElem?_cons_succ, List.getElem?_cons_zero]; rfl)) (by kernel_rfl) (by rfl) (fun K hK => ?_)
            go_simp
            refine hK _ _ ?_
            clear hK
            refine An.one (i := 16) (by (simp only [List.getElem?_toArray, List.getElem?_cons_succ, List.getElem?_cons_zero]; rfl)) (by kernel_rfl) (by rfl) (fun K hK => ?_)
            go_simp
            refine hK _ _ ?_
            clear hK
            refine An.done (by kernel_rfl) ?_
            refine NoPanic.normal ?_
            obtain ⟨wf, hwf⟩ : ∃ wf, wf = ((w4.setCell ⟨B8, 0, none⟩ (.int .i64 x.f)).setCell ⟨B8, 1, none⟩ (.slice ax x.ks.length cx)) := ⟨_, rfl⟩
            have hc8 : Chg [B8] w4 wf := by rw [hwf]; exact ((Chg.refl [B8] w4).setCell (p := ⟨B8, 0, none⟩) _ (.inl (by simp))).setCell (p := ⟨B8, 1, none⟩) _ (.inl (by simp))
            have b0 : wf.cell? ⟨B8, 0, none⟩ = some (.int .i64 x.f) := by rw [hwf, World.cell?_setCell_other _ _ _ _ (by simp)]; exact World.cell?_setCell_same _ _ _ n0
            have b1 : wf.cell? ⟨B8, 1, none⟩ = some (.slice ax x.ks.length cx) := by rw [hwf]; exact World.cell?_setCell_same (u := .slice none 0 0) _ _ _ (by rw [World.cell?_setCell_other _ _ _ _ (by simp)]; exact n1)
            have hxf : Ext V wf := Chg.ext hx4 hc8 (by simp; omega)
            have hatf := hat4.chg hc8 (by simp)
            rw [← hwf]
            clear hwf hc8 n0 n1 n2 n3
            have q1 := hxf.cell HJ.out.1
            have q2 := hxf.cell HJ.out.2.1
            have q7 := hxf.cell HJ.out.2.2.2.2.1
            have q5 := hxf.cell (HxV.out.cell k5)
            have q6 := hxf.cell (HxV.out.cell k6)
            have z5 := hxf.frozen (HxV.out.cell k5) (HxV.out.frozen k5 f5)
            have z6 := hxf.frozen (HxV.out.cell k6) (HxV.out.frozen k6 f6)
            have Hcp := Lib.hid (refCopyOf_any t wf _ _ (ht.ext (Hxv.out.trans hxf)) hts)
            go_wp2_with ((go_at_call 64; refine (Hcp.out).mono ?_; rintro e w5 ⟨⟨ac, cc, rfl, hcp⟩, hx5⟩; have r5 := hx5.cell q5; have r6 := hx5.cell q6; have y5 := hx5.frozen q5 z5; have y6 := hx5.frozen q6 z6; have r7 := hx5.cell q7; have d0 := hx5.cell b0; have d1 := hx5.cell b1))
            obtain ⟨g, rfl, hgB, hgl, hrow, hfz⟩ := hcp.2.2 (by omega)
            obtain ⟨y0, y1, o0, o1, -⟩ := hrow n hn4
            have o2 := hfz (n * 2) (by omega)
            have o3 := hfz (n * 2 + 1) (by omega)
            have hA6 := ext_alloc w5 (.cells #[.int .i64 t.f, .slice (some ⟨g, 0, none⟩) t.ks.length cc] 27)
            have c10 := cells2 w5 (.int .i64 t.f) (.slice (some ⟨g, 0, none⟩) t.ks.length cc) 27
            obtain ⟨w6, hw6⟩ : ∃ w6, w6 = w5.alloc (.cells #[.int .i64 t.f, .slice (some ⟨g, 0, none⟩) t.ks.length cc] 27) := ⟨_, rfl⟩
            rw [← hw6] at hA6 c10 ⊢
            have hs6 : w6.heap.size = w5.heap.size + 1 := by rw [hw6]; simp
            clear hw6
            obtain ⟨c10, c11⟩ := c10
            replace o2 := hA6.frozen o0 o2
            replace o3 := hA6.frozen o1 o3
            replace o0 := hA6.cell o0
            replace o1 := hA6.cell o1
            replace y5 := hA6.frozen r5 y5
            replace y6 := hA6.frozen r6 y6
            replace r5 := hA6.cell r5
            replace r6 := hA6.cell r6
            replace r7 := hA6.cell r7
            replace d0 := hA6.cell d0
            replace d1 := hA6.cell d1
            have hx6 : Ext V w6 := hxf.trans (hx5.trans hA6)
            have hVs := hxf.size
            have hWs := HxV.out.size
            have hrow6 : TmRow (fun c => W.heap.size ≤ c) g w6 t.ks := fun i hi => by
              obtain ⟨z0, z1, e0, e1, e2⟩ := hrow i hi
              exact ⟨z0, z1, hA6.cell e0, hA6.cell e1, (e2.mono (Q := fun c => W.heap.size ≤ c ∧ c ≠ g) (fun c hc _ => ⟨by have h1 : wf.heap.size ≤ c := hc.1; omega, hc.2⟩)).ext hA6⟩
            have hat6 : AtTm (fun c => W.heap.size ≤ c ∧ c ≠ g) w6 (.int .i64 x.f) (.slice ax x.ks.length cx) x := (hatf.mono (Q := fun c => W.heap.size ≤ c ∧ c ≠ g) (fun c hc hlt => ⟨by have := hc.1; omega, by have : wf.heap.size ≤ g := hgB; omega⟩)).ext (hx5.trans hA6)
            have HR6 := Lib.hid (And.intro hrow6 hat6)
            clear hrow6 hat6 hrow hfz hatf
            refine wp_region_noPanic ?_
            refine wp_region_W Drawn 7 goes_drawn (by kernel_rfl) (by kernel_rfl) (fun _ _ _ _ _ h => h) ?_
            iterate 7 (first | (refine wpW_skip (by decide) (by rfl) ?_; simp only [Act.put, List.setIfInBounds_toArray, List.set_cons_zero, List.set_cons_succ]) | (apply wpW_want; (focus decide); (focus rfl); (focus (intro v1 hv; obtain ⟨m, rfl⟩ := hv; go_simp; first | done | rfl)); simp only [Act.put, List.setIfInBounds_toArray, List.set_cons_zero, List.set_cons_succ]))
            refine wpW_turn (by kernel_rfl) (by rfl) (fun K w7 hw7 hK => ?_)
            have hx7 : Ext w6 w7 := ext_base hw7.ext
            obtain ⟨m2, rfl⟩ := hw7
            obtain ⟨w8, hw8⟩ : ∃ w8, w8 = { w6 with drawn := w6.drawn + 1 }.drewN m2 := ⟨_, rfl⟩
            rw [← hw8] at hx7 ⊢
            clear hw8
            replace o2 := hx7.frozen o0 o2
            replace o3 := hx7.frozen o1 o3
            replace o0 := hx7.cell o0
            replace o1 := hx7.cell o1
            go_simp
            refine hK _ _ Drawn 8 goes_drawn (by kernel_rfl) ?_
            clear hK
            refine wpW_end (fun w9 hv => ?_)
            refine NoPanic.normal ?_
            obtain ⟨w10, hw10⟩ : ∃ w10, w10 = ((w8.setCell ⟨g, n * 2, none⟩ (.int .i64 x.f)).setCell ⟨g, n * 2 + 1, none⟩ (.slice ax x.ks.length cx)) := ⟨_, rfl⟩
            rw [← hw10] at hv
            have hput := TmRow.put (P := fun c => W.heap.size ≤ c) (b := g) (w := w8) (ks := t.ks) (n := n) (x := .int .i64 x.f) (s := .slice ax x.ks.length cx) (u := x) (fun i hi => by
              obtain ⟨z0, z1, e0, e1, e2⟩ := HR6.out.1 i hi
              exact ⟨z0, z1, hx7.cell e0, hx7.cell e1, e2.ext hx7⟩) (by have : wf.heap.size ≤ g := hgB; omega) hn4 (HR6.out.2.ext hx7)
            rw [← hw10] at hput
            have hcg : Chg [g] w8 w10 := by rw [hw10]; exact ((Chg.refl [g] w8).setCell (p := ⟨g, n * 2, none⟩) _ (.inl (by simp))).setCell (p := ⟨g, n * 2 + 1, none⟩) _ (.inl (by simp))
            have hxv9 : Ext w10 w9 := hv.ext
            have hg1' : wf.heap.size ≤ g := hgB
            have hwV := Hxv.out.size
            have u0 := hxv9.cell (hcg.cell (hx7.cell c10) (by simp; omega))
            have u1 := hxv9.cell (hcg.cell (hx7.cell c11) (by simp; omega))
            have u5 := hxv9.cell (hcg.cell (hx7.cell r5) (by simp; omega))
            have u6 := hxv9.cell (hcg.cell (hx7.cell r6) (by simp; omega))
            have v5 := hxv9.frozen (hcg.cell (hx7.cell r5) (by simp; omega)) (hcg.frozen (hx7.cell r5) (by simp; omega) (hx7.frozen r5 y5))
            have v6 := hxv9.frozen (hcg.cell (hx7.cell r6) (by simp; omega)) (hcg.frozen (hx7.cell r6) (by simp; omega) (hx7.frozen r6 y6))
            have hE9 : Ext w w9 := (Chg.ext (Hxv.out.trans (hx6.trans hx7)) hcg (by simp; omega)).trans hxv9
            have hput9 := AtTms.ext hput hxv9
            have HF9 := Lib.hid (And.intro hput9 hE9)
            clear hput hput9 hE9 hcg hxv9 hw10 hv hx7 hx6 hA6 o0 o1 o2 o3 r5 r6 r7 d0 d1 y5 y6 c10 c11 q1 q2 q5 q6 q7 z5 z6 b0 b1
            go_wp2_with fail
            have hc2 : Chg [w.heap.size + 1 + 1] w9 ((w9.setCell ⟨w.heap.size + 1 + 1, 0, none⟩ (.int .i64 t.f)).setCell ⟨w.heap.size + 1 + 1, 1, none⟩ (.slice (some ⟨g, 0, none⟩) t.ks.length cc)) := ((Chg.refl _ w9).setCell _ (.inl (by simp))).setCell _ (.inl (by simp))
            have e1 : ((w9.setCell ⟨w.heap.size + 1 + 1, 0, none⟩ (.int .i64 t.f)).setCell ⟨w.heap.size + 1 + 1, 1, none⟩ (.slice (some ⟨g, 0, none⟩) t.ks.length cc)).cell? ⟨w.heap.size + 1 + 1, 0, none⟩ = some (.int .i64 t.f) := by
              rw [World.cell?_setCell_other _ _ _ _ (by simp)]; exact World.cell?_setCell_same _ _ _ u5
            have e2 : ((w9.setCell ⟨w.heap.size + 1 + 1, 0, none⟩ (.int .i64 t.f)).setCell ⟨w.heap.size + 1 + 1, 1, none⟩ (.slice (some ⟨g, 0, none⟩) t.ks.length cc)).cell? ⟨w.heap.size + 1 + 1, 1, none⟩ = some (.slice (some ⟨g, 0, none⟩) t.ks.length cc) :=
              World.cell?_setCell_same (u := .slice none 0 0) _ _ _ (by rw [World.cell?_setCell_other _ _ _ _ (by simp)]; exact u6)
            refine bodyPost_ret (v := .tuple #[.agg #[.int .i64 t.f, .slice (some ⟨g, 0, none⟩) t.ks.length cc], .bool true]) (by simp [results, Tryd.results23, go_sem, e1, e2]) rfl ?_
            refine ⟨⟨_, rfl, ?_⟩, Chg.ext HF9.out.2 hc2 (by simp <;> omega)⟩
            rw [Htp2.out _ Hres.out]
            have hll : (t.ks.set n x).length = t.ks.length := List.length_set
            have hfin := atTm_of (t := .mk t.f (t.ks.set n x)) (a := some ⟨g, 0, none⟩) (c := cc) hg1 hg2 (by show (t.ks.set n x).length ≤ cc; rw [hll]; exact hcp.1) HF9.out.1
            have hfin2 := (hfin.chg hc2 (by simp; omega)).mono (Q := fun c => w.heap.size ≤ c) (fun c hc _ => by have h1 : W.heap.size ≤ c := hc; omega)
            refine ⟨some ⟨g, 0, none⟩, cc, ?_, hfin2⟩
            show _ = Value.tuple #[.agg #[.int .i64 t.f, .slice (some ⟨g, 0, none⟩) (t.ks.set n x).length cc], .bool true]
            rw [hll]
end Go.Proofs.YtoidhdcbemmfhaaDoor
