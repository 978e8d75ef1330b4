/- What At of the reference of layer 2 returns. -/
import Derived.Test.YtoidhdcbemmfhaaDoorRefCopy
import Derived.Test.YtoidhdcbemmfhaaDoorSegRegion
namespace Go.Proofs.YtoidhdcbemmfhaaDoor
open Go.ChangeShapes Go.WideShapes Go.ChangeAt Go.RowKit
attribute [local go_sem] Oper.quiet Oper.quietAt Oper.quietUpon

set_option maxHeartbeats 1000000 in
set_option maxRecDepth 100000 in
theorem rTermAt_any (t : Tm) (p : List Int) (w : World) (x s : Value) (pa : Option Addr) (pc : Nat) (ht : IsTm w x s t) (hs : t.size ≤ 2097152) (hp : IsInts w pa p) (hpl : p.length ≤ 9000000000000000000) :
    Calls Tryd.prog 21 #[.agg #[x, s], .slice pa p.length pc] w fun e w' => (∃ v, e = .returned v ∧ Got w.heap.size w' v (t.at p)) ∧ Ext w w' := by
  have ht0 := ht
  obtain ⟨a', c', rfl, rfl, -, -, -, -⟩ := ht.form
  clear ht
  go_enter Tryd.func21, Tryd.ntmps21
  go_wp2_with fail
  obtain ⟨W, hW⟩ : ∃ W, W = ((w.alloc (.cells #[.int .i64 t.f, .slice a' t.ks.length c'] 27)).alloc (.cells #[.int .i64 0, .slice none 0 0] 27)) := ⟨_, rfl⟩
  have hx : Ext w W := by subst hW; go_grown
  have hsW : W.heap.size = w.heap.size + 2 := by subst hW; simp
  have k1 : W.cell? ⟨w.heap.size, 0, none⟩ = some (.int .i64 t.f) := by subst hW; go_simp
  have k2 : W.cell? ⟨w.heap.size, 1, none⟩ = some (.slice a' t.ks.length c') := by subst hW; go_simp
  have k3 : W.cell? ⟨w.heap.size + 1, 0, none⟩ = some (.int .i64 0) := by subst hW; go_simp
  have k4 : W.cell? ⟨w.heap.size + 1, 1, none⟩ = some (.slice none 0 0) := by subst hW; go_simp
  have f1 : W.frozen? ⟨w.heap.size, 0, none⟩ = false := by subst hW; go_simp
  have f2 : W.frozen? ⟨w.heap.size, 1, none⟩ = false := by subst hW; go_simp
  have f3 : W.frozen? ⟨w.heap.size + 1, 0, none⟩ = false := by subst hW; go_simp
  have f4 : W.frozen? ⟨w.heap.size + 1, 1, none⟩ = false := by subst hW; go_simp
  rw [← hW]
  clear hW
  go_loopw [6] (fun i wr => ∃ (k : Nat) (u : Tm) (a : Option Addr) (c : Nat), k ≤ p.length ∧ i = .int .i64 k ∧ t.at p = u.at (p.drop k) ∧ u.size ≤ t.size ∧ IsTm w (.int .i64 u.f) (.slice a u.ks.length c) u ∧ wr.cell? ⟨w.heap.size, 0, none⟩ = some (.int .i64 u.f) ∧ wr.cell? ⟨w.heap.size, 1, none⟩ = some (.slice a u.ks.length c) ∧ wr.frozen? ⟨w.heap.size, 0, none⟩ = false ∧ wr.frozen? ⟨w.heap.size, 1, none⟩ = false ∧ Chg [w.heap.size] W wr) (fun i _ => p.length - (intOf i).toNat)
  case atStart => exact ⟨0, t, _, _, by omega, rfl, rfl, Nat.le_refl _, ht0, k1, k2, f1, f2, Chg.refl _ _⟩
  case round =>
    obtain ⟨k, u, a, c, hkk, rfl, hat, hus, hu, q1, q2, z1, z2, hch⟩ := hrel
    have Hat := Lib.hid hat; clear hat
    have hext : Ext w wr := Chg.ext hx hch (by simp)
    have q3 := hch.cell k3 (by simp)
    have q4 := hch.cell k4 (by simp)
    have z3 := hch.frozen k3 (by simp) f3
    have z4 := hch.frozen k4 (by simp) f4
    by_cases hlt : k < p.length
    · have hk1 : (k : Int) < p.length := by omega
      obtain ⟨m1, m2, b, o, rfl, m3⟩ := hp k hlt
      have m3' := hext.cell m3
      have hul := length_le_sizes u.ks
      have hus2 : Tm.sizes u.ks + 1 = u.size := by cases u; simp [Tm.size, Tm.ks]
      by_cases hn : p[k] < 0
      · have hkid : u.kid p[k] = none := by unfold Tm.kid; rw [if_neg (by omega)]
        have Hst := Lib.hid (at_none hlt hkid)
        have hd1 : decide (p[k] < 0) = true := decide_eq_true hn
        have hdd : ((k : Int)).toNat = k := by omega
        go_wp2_with fail
        refine wp_region_noPanic ?_
        refine wp_region_W Drawn 15 goes_drawn (by kernel_rfl) (by kernel_rfl) (fun _ _ _ _ _ h => h) ?_
        iterate 15 (first | (refine wpW_skip (by decide) (by rfl) ?_; simp only [Act.put, List.setIfInBounds_toArray, List.set_cons_zero, List.set_cons_succ]) | (apply wpW_want; (focus decide); (focus rfl); (focus (intro v1 hv; obtain ⟨m, rfl⟩ := hv; go_simp; first | done | rfl)); simp only [Act.put, List.setIfInBounds_toArray, List.set_cons_zero, List.set_cons_succ]))
        refine wpW_end (fun w4 hv => ?_)
        refine NoPanic.normal ?_
        obtain ⟨m, rfl⟩ := hv
        obtain ⟨V, hV⟩ : ∃ V, V = { wr with drawn := wr.drawn + 1 }.drewN m := ⟨_, rfl⟩
        have hVx : Ext wr V := by rw [hV]; exact ext_base (Ext.drewN (Below.refl _ _) m)
        rw [← hV]
        clear hV
        replace q3 := hVx.cell q3
        replace q4 := hVx.cell q4
        replace z3 := hVx.frozen (hch.cell k3 (by simp)) z3
        replace z4 := hVx.frozen (hch.cell k4 (by simp)) z4
        go_wp2_with fail
        have hc2 : Chg [w.heap.size + 1] V ((V.setCell ⟨w.heap.size + 1, 0, none⟩ (.int .i64 0)).setCell ⟨w.heap.size + 1, 1, none⟩ (.slice none 0 0)) := ((Chg.refl _ V).setCell _ (.inl (by simp))).setCell _ (.inl (by simp))
        have c1 : ((V.setCell ⟨w.heap.size + 1, 0, none⟩ (.int .i64 0)).setCell ⟨w.heap.size + 1, 1, none⟩ (.slice none 0 0)).cell? ⟨w.heap.size + 1, 0, none⟩ = some (.int .i64 0) := by
          rw [World.cell?_setCell_other _ _ _ _ (by simp)]; exact World.cell?_setCell_same _ _ _ q3
        have c2 : ((V.setCell ⟨w.heap.size + 1, 0, none⟩ (.int .i64 0)).setCell ⟨w.heap.size + 1, 1, none⟩ (.slice none 0 0)).cell? ⟨w.heap.size + 1, 1, none⟩ = some (.slice none 0 0) :=
          World.cell?_setCell_same (u := .slice none 0 0) _ _ _ (by rw [World.cell?_setCell_other _ _ _ _ (by simp)]; exact q4)
        refine bodyPost_ret (v := .tuple #[.agg #[.int .i64 0, .slice none 0 0], .bool false]) (by simp [results, Tryd.results21, go_sem, c1, c2]) rfl ?_
        refine ⟨⟨_, rfl, ?_⟩, Chg.ext (hext.trans hVx) hc2 (by simp)⟩
        rw [Hat.out, Hst.out]; rfl
      · by_cases hn2 : (u.ks.length : Int) ≤ p[k]
        · have hkid : u.kid p[k] = none := by unfold Tm.kid; rw [if_pos (by omega), List.getElem?_eq_none (by omega)]
          have Hst := Lib.hid (at_none hlt hkid)
          have hd1 : decide (p[k] < 0) = false := decide_eq_false hn
          have hd2 : decide ((u.ks.length : Int) ≤ p[k]) = true := decide_eq_true hn2
          go_wp2_with fail
          refine wp_region_noPanic ?_
          refine wp_region_W Drawn 15 goes_drawn (by kernel_rfl) (by kernel_rfl) (fun _ _ _ _ _ h => h) ?_
          iterate 15 (first | (refine wpW_skip (by decide) (by rfl) ?_; simp only [Act.put, List.setIfInBounds_toArray, List.set_cons_zero, List.set_cons_succ]) | (apply wpW_want; (focus decide); (focus rfl); (focus (intro v1 hv; obtain ⟨m, rfl⟩ := hv; go_simp; first | done | rfl)); simp only [Act.put, List.setIfInBounds_toArray, List.set_cons_zero, List.set_cons_succ]))
          refine wpW_end (fun w4 hv => ?_)
          refine NoPanic.normal ?_
          obtain ⟨m, rfl⟩ := hv
          obtain ⟨V, hV⟩ : ∃ V, V = { wr with drawn := wr.drawn + 1 }.drewN m := ⟨_, rfl⟩
          have hVx : Ext wr V := by rw [hV]; exact ext_base (Ext.drewN (Below.refl _ _) m)
          rw [← hV]
          clear hV
          replace q3 := hVx.cell q3
          replace q4 := hVx.cell q4
          replace z3 := hVx.frozen (hch.cell k3 (by simp)) z3
          replace z4 := hVx.frozen (hch.cell k4 (by simp)) z4
          go_wp2_with fail
          have hc2 : Chg [w.heap.size + 1] V ((V.setCell ⟨w.heap.size + 1, 0, none⟩ (.int .i64 0)).setCell ⟨w.heap.size + 1, 1, none⟩ (.slice none 0 0)) := ((Chg.refl _ V).setCell _ (.inl (by simp))).setCell _ (.inl (by simp))
          have c1 : ((V.setCell ⟨w.heap.size + 1, 0, none⟩ (.int .i64 0)).setCell ⟨w.heap.size + 1, 1, none⟩ (.slice none 0 0)).cell? ⟨w.heap.size + 1, 0, none⟩ = some (.int .i64 0) := by
            rw [World.cell?_setCell_other _ _ _ _ (by simp)]; exact World.cell?_setCell_same _ _ _ q3
          have c2 : ((V.setCell ⟨w.heap.size + 1, 0, none⟩ (.int .i64 0)).setCell ⟨w.heap.size + 1, 1, none⟩ (.slice none 0 0)).cell? ⟨w.heap.size + 1, 1, none⟩ = some (.slice none 0 0) :=
            World.cell?_setCell_same (u := .slice none 0 0) _ _ _ (by rw [World.cell?_setCell_other _ _ _ _ (by simp)]; exact q4)
          refine bodyPost_ret (v := .tuple #[.agg #[.int .i64 0, .slice none 0 0], .bool false]) (by simp [results, Tryd.results21, go_sem, c1, c2]) rfl ?_
          refine ⟨⟨_, rfl, ?_⟩, Chg.ext (hext.trans hVx) hc2 (by simp)⟩
          rw [Hat.out, Hst.out]; rfl
        · obtain ⟨n, hn3⟩ : ∃ n : Nat, p[k] = (n : Int) := ⟨p[k].toNat, by omega⟩
          have hn4 : n < u.ks.length := by omega
          have hkid : u.kid p[k] = some u.ks[n] := by unfold Tm.kid; rw [if_pos (by omega), List.getElem?_eq_getElem (by omega)]; congr 2; omega
          have Hst := Lib.hid (at_some hlt hkid)
          rw [hn3] at m3'
          have hn5 : (n : Int) < u.ks.length := by omega
          have hd1 : decide ((n : Int) < 0) = false := decide_eq_false (by omega)
          have hd2 : decide ((u.ks.length : Int) ≤ (n : Int)) = false := decide_eq_false (by omega)
          obtain ⟨ka, kc, -, hka, -, -, -, hk⟩ := hu.form
          injection hka with e1 e2 e3
          subst e1
          obtain ⟨b2, o2, a2, c2, rfl, h1, h2, h3⟩ := hk.look hn4
          have g1 := hext.cell h1
          have g2 := hext.cell h2
          have hsz := size_le_sizes hn4
          clear hn hn2 hn3 hkid
          go_wp2_with fail
          refine wp_region_noPanic ?_
          refine wp_region_W Drawn 15 goes_drawn (by kernel_rfl) (by kernel_rfl) (fun _ _ _ _ _ h => h) ?_
          iterate 15 (first | (refine wpW_skip (by decide) (by rfl) ?_; simp only [Act.put, List.setIfInBounds_toArray, List.set_cons_zero, List.set_cons_succ]) | (apply wpW_want; (focus decide); (focus rfl); (focus (intro v1 hv; obtain ⟨m, rfl⟩ := hv; go_simp; first | done | rfl)); simp only [Act.put, List.setIfInBounds_toArray, List.set_cons_zero, List.set_cons_succ]))
          refine wpW_end (fun w4 hv => ?_)
          refine NoPanic.normal ?_
          obtain ⟨m, rfl⟩ := hv
          obtain ⟨V, hV⟩ : ∃ V, V = { wr with drawn := wr.drawn + 1 }.drewN m := ⟨_, rfl⟩
          have hVx : Ext wr V := by rw [hV]; exact ext_base (Ext.drewN (Below.refl _ _) m)
          rw [← hV]
          clear hV
          replace g1 := hVx.cell g1
          replace g2 := hVx.cell g2
          replace m3' := hVx.cell m3'
          replace z1 := hVx.frozen q1 z1
          replace z2 := hVx.frozen q2 z2
          replace q1 := hVx.cell q1
          replace q2 := hVx.cell q2
          go_wp2_with fail
          refine wp_region_noPanic ?_
          refine wp_region_W Drawn 8 goes_drawn (by kernel_rfl) (by kernel_rfl) (fun _ _ _ _ _ h => h) ?_
          iterate 8 (first | (refine wpW_skip (by decide) (by rfl) ?_; simp only [Act.put, List.setIfInBounds_toArray, List.set_cons_zero, List.set_cons_succ]) | (apply wpW_want; (focus decide); (focus rfl); (focus (intro v1 hv; obtain ⟨m, rfl⟩ := hv; go_simp; first | done | rfl)); simp only [Act.put, List.setIfInBounds_toArray, List.set_cons_zero, List.set_cons_succ]))
          refine wpW_turn (by kernel_rfl) (by rfl) (fun K w5 hw5 hK => ?_)
          obtain ⟨m2, rfl⟩ := hw5
          go_simp
          refine hK _ _ Drawn 9 goes_drawn (by kernel_rfl) ?_
          refine wpW_end (fun w6 hv => ?_)
          refine NoPanic.normal ?_
          obtain ⟨m3, rfl⟩ := hv
          go_wp2_with fail
          go_roundw
          case rel =>
            refine ⟨k + 1, u.ks[n], a2, c2, by omega, by go_num, by rw [Hat.out, Hst.out], by omega, h3, by go_simp, by go_simp, by go_simp, by go_simp, ?_⟩
            have e1 : Chg [w.heap.size] wr (V.drewN (1 + m2)) := Chg.of_ext (hVx.trans (Ext.drewN (Below.refl _ _) _))
            exact hch.trans (((e1.setCell _ (.inl (by simp))).setCell _ (.inl (by simp))).trans (Chg.of_ext (Ext.drewN (Below.refl _ _) _)))
          case measure => simp [intOf]; omega
    · have hk1 : ¬ (k : Int) < p.length := by omega
      have hke : k = p.length := by omega
      have h0 : u.at (p.drop k) = some u := by rw [hke, List.drop_length]; rfl
      have H0 := Lib.hid h0; clear h0 hke
      have Hc := Lib.hid (refCopy_any u wr _ _ (hu.ext hext) (by omega))
      go_wp2_with ((go_at_call 64; refine (Hc.out).mono ?_; rintro e w2 ⟨⟨V0, rfl, hn4⟩, hx2⟩; obtain ⟨av, cv, rfl, hcv⟩ := hn4.form; have q3' := hx2.cell q3; have q4' := hx2.cell q4; have z3' := hx2.frozen q3 z3; have z4' := hx2.frozen q4 z4))
      obtain ⟨V, hV⟩ : ∃ V, V = Value.slice av u.ks.length cv := ⟨_, rfl⟩
      rw [← hV] at hn4 ⊢
      have hc2 : Chg [w.heap.size + 1] w2 ((w2.setCell ⟨w.heap.size + 1, 0, none⟩ (.int .i64 u.f)).setCell ⟨w.heap.size + 1, 1, none⟩ V) := ((Chg.refl _ w2).setCell _ (.inl (by simp))).setCell _ (.inl (by simp))
      have c1 : ((w2.setCell ⟨w.heap.size + 1, 0, none⟩ (.int .i64 u.f)).setCell ⟨w.heap.size + 1, 1, none⟩ V).cell? ⟨w.heap.size + 1, 0, none⟩ = some (.int .i64 u.f) := by
        rw [World.cell?_setCell_other _ _ _ _ (by simp)]; exact World.cell?_setCell_same _ _ _ q3'
      have c2 : ((w2.setCell ⟨w.heap.size + 1, 0, none⟩ (.int .i64 u.f)).setCell ⟨w.heap.size + 1, 1, none⟩ V).cell? ⟨w.heap.size + 1, 1, none⟩ = some V :=
        World.cell?_setCell_same (u := .slice none 0 0) _ _ _ (by rw [World.cell?_setCell_other _ _ _ _ (by simp)]; exact q4')
      refine bodyPost_ret (v := .tuple #[.agg #[.int .i64 u.f, V], .bool true]) (by simp [results, Tryd.results21, go_sem, c1, c2]) rfl ?_
      refine ⟨⟨_, rfl, ?_⟩, Chg.ext (Ext.trans hext hx2) hc2 (by simp)⟩
      rw [Hat.out, H0.out]
      have hsz := hch.size
      have hr2 : GRow eltTm 27 w.heap.size _ V u.ks := GRow.down (hn4.chg hc2 (by simp; omega)) (by omega)
      obtain ⟨av', cv', hV', hcv', htv⟩ := hr2.tms
      obtain ⟨-, -, -, -, r1, r2, -, -⟩ := hu.form
      exact ⟨av', cv', by rw [hV'], atTm_of r1 r2 hcv' htv⟩
end Go.Proofs.YtoidhdcbemmfhaaDoor
