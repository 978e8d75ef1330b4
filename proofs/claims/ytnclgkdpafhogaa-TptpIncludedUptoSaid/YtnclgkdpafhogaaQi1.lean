/- What is measured of terms and formulas: formula.expr, Size, Depth; the reference's. Condition: at most 4194304 parts. -/
import Derived.Test.YtnclgkdpafhogaaQi0
import Derived.Deep.Light
namespace Go.Proofs.Ytnclgkdpafhogaa
open Go.ChangeShapes Go.WideShapes Go.ChangeAt Go.RowKit
set_option maxHeartbeats 1000000 in
theorem expr_any (t : Ex) : ∀ (P : Nat → Prop) (w : World) (x y z : Value), IsEx P w x y z t → t.size ≤ 4194304 →
    Calls Try.prog 27 #[.agg #[x, y, z]] w fun e w' => e = .returned (.agg #[.int .i64 t.size, .int .i64 t.depth, .int .i64 t.wide]) ∧ Ext w w' := by
  induction t using Ex.ind with
  | h v nm l ih =>
    intro P w x y z ht hs
    have hdw := Ex.depth_le_size (.mk v nm l)
    have hww := Ex.wide_le_size (.mk v nm l)
    obtain ⟨a, c, rfl, rfl, rfl, hn, hc1, hk⟩ := ht.form
    simp only [Ex.var, Ex.name, Ex.args] at hc1 hk ⊢
    simp only [Ex.size, Ex.depth, Ex.wide] at hs hdw hww
    have hkl := Ex.length_le_sizes l
    obtain ⟨W, hW⟩ : ∃ W, W = ((w.alloc (.cells #[.bool v, .string nm, .slice a l.length c] 67)).alloc (.cells #[.int .i64 0, .int .i64 0, .int .i64 0] 74)).alloc (.cells #[.int .i64 1, .int .i64 0, .int .i64 l.length] 74) := ⟨_, rfl⟩
    have hx : Ext w W := by subst hW; go_grown
    have o1 : Own W (w.heap.size + 1) [.int .i64 0, .int .i64 0, .int .i64 0] := by
      have := own3 (w.alloc (.cells #[.bool v, .string nm, .slice a l.length c] 67)) (.int .i64 0) (.int .i64 0) (.int .i64 0) 74
      rw [hW]; simpa using this.ext (ext_alloc _ _)
    have o2 : Own W (w.heap.size + 1 + 1) [.int .i64 1, .int .i64 0, .int .i64 l.length] := by
      have := own3 ((w.alloc (.cells #[.bool v, .string nm, .slice a l.length c] 67)).alloc (.cells #[.int .i64 0, .int .i64 0, .int .i64 0] 74)) (.int .i64 1) (.int .i64 0) (.int .i64 l.length) 74
      rw [hW]; simpa using this
    have hsW : W.heap.size = w.heap.size + 3 := by subst hW; simp
    go_enter Try.func27, Try.ntmps27
    go_wp2_with fail
    rw [← hW]
    clear hW
    go_loopw [14] (fun i wr => ∃ k : Nat, k ≤ l.length ∧ i = .int .i64 k ∧ Own wr (w.heap.size + 1 + 1) [.int .i64 ((Ex.sizes (l.take k) + 1 : Nat) : Int), .int .i64 (Ex.depths (l.take k) : Nat), .int .i64 ((max l.length (Ex.wides (l.take k)) : Nat) : Int)] ∧ Chg [w.heap.size + 1 + 1] W wr) (fun i _ => l.length - (intOf i).toNat)
    case atStart => exact ⟨0, Nat.zero_le _, rfl, by simpa [Ex.sizes, Ex.depths, Ex.wides] using o2, Chg.refl _ _⟩
    case round =>
      obtain ⟨k, hkk, rfl, ho, hext⟩ := hrel
      obtain ⟨c0, f0⟩ := ho 0 _ rfl
      obtain ⟨c1, f1⟩ := ho 1 _ rfl
      obtain ⟨c2, f2⟩ := ho 2 _ rfl
      by_cases hlt : k < l.length
      · have hEr : Ext w wr := Chg.ext hx hext (by simp; omega)
        obtain ⟨b, o, a', c', rfl, -, m0, m1, m2, hel⟩ := (hk.ext hEr).look hlt
        have hm := ih _ (List.getElem_mem hlt) P _ _ _ _ (hel.ext (ext_alloc wr (.cells #[.bool l[k].var, .string l[k].name, .slice a' l[k].args.length c'] 67))) (by have := Ex.size_le_sizes hlt; omega)
        have hs1 := Ex.sizes_take hlt
        have hs2 := Ex.sizes_take_le l (k + 1)
        have hd1 := Ex.depths_take hlt
        have hw1 := Ex.wides_take hlt
        have Hm := Lib.hid hm
        have Hs := Lib.hid (And.intro hs1 (And.intro hd1 hw1))
        have hsb : Ex.sizes (l.take k) + l[k].size ≤ 4194304 := by omega
        clear hm hs1 hd1 hw1 hs2 hel
        generalize Ex.sizes (l.take k) = ss at ho c0 hsb Hs
        generalize Ex.depths (l.take k) = dd at ho c1 Hs
        generalize Ex.wides (l.take k) = ww at ho c2 Hs
        generalize l[k].size = s1 at Hm Hs hsb
        generalize l[k].depth = d1 at Hm Hs
        generalize l[k].wide = w1 at Hm Hs
        go_wp2_with (refine (Hm.out).mono ?_; rintro e w' ⟨rfl, hw'⟩; have hx1 : Ext wr (w'.alloc (.cells #[.int .i64 s1, .int .i64 d1, .int .i64 w1] 74)) := ((ext_alloc _ _).trans hw').trans (ext_alloc _ _); have ho1 := ho.ext hx1; replace c0 := hx1.cell c0; replace c1 := hx1.cell c1; replace c2 := hx1.cell c2; replace f0 := hx1.frozen (ho 0 _ rfl).1 f0; replace f1 := hx1.frozen (ho 1 _ rfl).1 f1; replace f2 := hx1.frozen (ho 2 _ rfl).1 f2)
        go_roundw
        case rel =>
          refine ⟨k + 1, by omega, by go_num, ?_, ?_⟩
          · obtain ⟨e1, e2, e3⟩ := Hs.out
            rw [e1, e2, e3]
            refine (own_set3 ho1 _ _ _).eq ?_
            go_light
            rw [show (ss : Int) + 1 + s1 = ((ss + s1 + 1 : Nat) : Int) by omega, show (if dd < d1 then (d1 : Int) else dd) = ((max dd d1 : Nat) : Int) by split <;> omega, show (if max l.length ww < w1 then (w1 : Int) else ((max l.length ww : Nat) : Int)) = ((max l.length (max ww w1) : Nat) : Int) by split <;> omega]
          · exact (hext.trans (.of_ext hx1)).trans (chg_set3 _ _ _ _ _)
        case measure => simp [intOf]; omega
      · have hke : k = l.length := by omega
        subst hke
        rw [List.take_length] at ho c0 c1 c2
        obtain ⟨g0, h0⟩ := (o1.chg hext (by simp)) 0 _ rfl
        obtain ⟨g1, h1⟩ := (o1.chg hext (by simp)) 1 _ rfl
        obtain ⟨g2, h2⟩ := (o1.chg hext (by simp)) 2 _ rfl
        clear o2 hk
        have hdp : (Ex.depths l : Int) + 1 ≤ 4194304 := by omega
        have hq := o1.chg hext (by simp)
        clear o1
        go_wp2_with fail
        have hq2 := own_set3 (hq.chg ((Chg.refl [w.heap.size + 1 + 1] wr).setCell (p := ⟨w.heap.size + 1 + 1, 1, none⟩) (.int .i64 ((Ex.depths l : Int) + 1)) (.inl (by simp))) (by simp)) (.int .i64 ((Ex.sizes l : Int) + 1)) (.int .i64 ((Ex.depths l : Int) + 1)) (.int .i64 ((max l.length (Ex.wides l) : Nat) : Int))
        have r0 := (hq2 0 _ rfl).1
        have r1 := (hq2 1 _ rfl).1
        have r2 := (hq2 2 _ rfl).1
        refine bodyPost_ret (v := .agg #[.int .i64 ((Ex.sizes l : Int) + 1), .int .i64 ((Ex.depths l : Int) + 1), .int .i64 ((max l.length (Ex.wides l) : Nat) : Int)]) (by simp [results, Try.results27, go_sem, r0, r1, r2]) rfl ⟨by simp [Ex.size, Ex.depth, Ex.wide], ?_⟩
        refine Chg.ext hx (S := [w.heap.size + 1 + 1, w.heap.size + 1]) (((hext.mono (by simp)).setCell (p := ⟨w.heap.size + 1 + 1, 1, none⟩) (.int .i64 ((Ex.depths l : Int) + 1)) (.inl (by simp))).trans ((chg_set3 _ (w.heap.size + 1) _ _ _).mono (by simp))) (by simp; omega)

theorem vint {k : IntKind} {a b : Int} (h : a = b) : Value.int k a = .int k b := by rw [h]
theorem field_measure (x y z : Value) (w : World) : (Instr.field 74 (.agg #[x, y, z]) 0).run Try.prog w = .ok x w := by
  kernel_rfl
theorem cells4' (w : World) (x y z u : Value) (t : TypeId) : (w.alloc (.cells #[x, y, z, u] t)).cell? ⟨w.heap.size, 0, none⟩ = some x ∧ (w.alloc (.cells #[x, y, z, u] t)).cell? ⟨w.heap.size, 1, none⟩ = some y ∧ (w.alloc (.cells #[x, y, z, u] t)).cell? ⟨w.heap.size, 2, none⟩ = some z ∧ (w.alloc (.cells #[x, y, z, u] t)).cell? ⟨w.heap.size, 3, none⟩ = some u := by
  refine ⟨?_, ?_, ?_, ?_⟩ <;> go_simp

set_option maxRecDepth 100000 in
set_option maxHeartbeats 2000000 in
theorem fsize_any (t : Fm) : ∀ (P : Nat → Prop) (w : World) (x y z u : Value), IsFm P w x y z u t → t.size ≤ 4194304 →
    Calls Try.prog 24 #[.agg #[x, y, z, u]] w fun e w' => e = .returned (.int .i64 (t.size : Nat)) ∧ Ext w w' := by
  induction t using Fm.ind with
  | h op vs ts l ih =>
    intro P w x y z u ht hs
    have hdw := Fm.depth_le_size (.mk op vs ts l)
    obtain ⟨va, vc, ta, tc, a, c, rfl, rfl, rfl, rfl, ho1, ho2, hv1, ht1, hc1, hkv, hkt, hk⟩ := ht.form
    simp only [Fm.op, Fm.vars, Fm.terms, Fm.args] at hv1 ht1 hc1 hkv hkt hk ⊢
    simp only [Fm.size, Fm.depth] at hs hdw
    have hkl := Fm.length_le_sizes l
    have hkt2 := Ex.length_le_sizes ts
    obtain ⟨-, hcv, hct, hca⟩ := cells4' w (.int .i64 op) (.slice va vs.length vc) (.slice ta ts.length tc) (.slice a l.length c) 27
    have hfld := field_measure
    go_enter Try.func24, Try.ntmps24
    go_wp2_with fail
    go_loopw [3, 15] (fun n i wr => ∃ k : Nat, k ≤ ts.length ∧ i = .int .i64 k ∧ n = .int .i64 ((Ex.sizes (ts.take k) + vs.length + 1 : Nat) : Int) ∧ Ext w wr ∧ wr.cell? ⟨w.heap.size, 2, none⟩ = some (.slice ta ts.length tc) ∧ wr.cell? ⟨w.heap.size, 3, none⟩ = some (.slice a l.length c)) (fun _ i _ => ts.length - (intOf i).toNat)
    case atStart => exact ⟨0, Nat.zero_le _, rfl, by simp only [List.take_zero, Ex.sizes]; exact vint (by first | omega | (split <;> omega)), by go_grown, hct, hca⟩
    case round =>
      obtain ⟨k, hkk, rfl, rfl, hext, g2, g3⟩ := hrel
      clear hct hca hcv
      by_cases hlt : k < ts.length
      · obtain ⟨b, o, a', c', rfl, -, m0, m1, m2, hel⟩ := (hkt.ext hext).look hlt
        have Hm := Lib.hid (expr_any _ P _ _ _ _ (hel.ext (ext_alloc wr (.cells #[.bool ts[k].var, .string ts[k].name, .slice a' ts[k].args.length c'] 67))) (by have := Ex.size_le_sizes hlt; omega))
        have hst := Ex.sizes_take hlt
        have hs2 := Ex.sizes_take_le ts (k + 1)
        have hsb : Ex.sizes (ts.take k) + ts[k].size + vs.length ≤ 4194304 := by omega
        have Hst := Lib.hid hst
        clear hst hs2 hel
        go_wp2_with (refine (Hm.out).mono ?_; rintro e w' ⟨rfl, hw'⟩)
        all_goals
          go_roundw
          case rel => exact ⟨k + 1, by omega, by go_num, by rw [Hst.out]; exact vint (by omega), hext.trans ((ext_alloc _ _).trans hw'), ((ext_alloc _ _).trans hw').cell g2, ((ext_alloc _ _).trans hw').cell g3⟩
          case measure => simp [intOf]; omega
      · have : k = ts.length := by omega
        subst this
        rw [List.take_length]
        obtain ⟨wo, rfl⟩ : ∃ wo : World, wo = wr := ⟨_, rfl⟩
        go_wp2_with fail
        go_loopw [3, 29] (fun n i wr2 => ∃ j : Nat, j ≤ l.length ∧ i = .int .i64 j ∧ n = .int .i64 ((Fm.sizes (l.take j) + Ex.sizes ts + vs.length + 1 : Nat) : Int) ∧ Ext w wr2 ∧ wr2.cell? ⟨w.heap.size, 3, none⟩ = some (.slice a l.length c)) (fun _ i _ => l.length - (intOf i).toNat)
        case atStart => exact ⟨0, Nat.zero_le _, rfl, by simp only [List.take_zero, Fm.sizes]; exact vint (by omega), hext, g3⟩
        case round =>
          obtain ⟨j, hjj, rfl, rfl, hext2, g4⟩ := hrel
          clear g2 g3
          by_cases hlt : j < l.length
          · obtain ⟨b, o, va', vc', ta', tc', a', c', rfl, -, m0, m1, m2, m3, hel⟩ := (hk.ext hext2).look hlt
            have Hm := Lib.hid (ih _ (List.getElem_mem hlt) P _ _ _ _ _ (hel.ext (ext_alloc wr (.cells #[.int .i64 l[j].op, .slice va' l[j].vars.length vc', .slice ta' l[j].terms.length tc', .slice a' l[j].args.length c'] 27))) (by have := Fm.size_le_sizes hlt; omega))
            have hst := Fm.sizes_take hlt
            have hs2 := Fm.sizes_take_le l (j + 1)
            have hsb : Fm.sizes (l.take j) + l[j].size + Ex.sizes ts + vs.length ≤ 4194304 := by omega
            have Hst := Lib.hid hst
            clear hst hs2 hel
            go_wp2_with (refine (Hm.out).mono ?_; rintro e w' ⟨rfl, hw'⟩)
            all_goals
              go_roundw
              case rel => exact ⟨j + 1, by omega, by go_num, by rw [Hst.out]; congr 1; first | omega | (simp; omega) | (split <;> omega), hext2.trans ((ext_alloc _ _).trans hw'), ((ext_alloc _ _).trans hw').cell g4⟩
              case measure => simp [intOf]; omega
          · have : j = l.length := by omega
            subst this
            rw [List.take_length]
            go_wp2_with fail
            go_ret
            exact ⟨by simp only [Fm.size]; rfl, hext2⟩

set_option maxRecDepth 100000 in
set_option maxHeartbeats 2000000 in
theorem fdepth_any (t : Fm) : ∀ (P : Nat → Prop) (w : World) (x y z u : Value), IsFm P w x y z u t → t.size ≤ 4194304 →
    Calls Try.prog 25 #[.agg #[x, y, z, u]] w fun e w' => e = .returned (.int .i64 (t.depth : Nat)) ∧ Ext w w' := by
  induction t using Fm.ind with
  | h op vs ts l ih =>
    intro P w x y z u ht hs
    have hdw := Fm.depth_le_size (.mk op vs ts l)
    obtain ⟨va, vc, ta, tc, a, c, rfl, rfl, rfl, rfl, ho1, ho2, hv1, ht1, hc1, hkv, hkt, hk⟩ := ht.form
    simp only [Fm.op, Fm.vars, Fm.terms, Fm.args] at hv1 ht1 hc1 hkv hkt hk ⊢
    simp only [Fm.size, Fm.depth] at hs hdw
    have hkl := Fm.length_le_sizes l
    have hkt2 := Ex.length_le_sizes ts
    obtain ⟨-, hcv, hct, hca⟩ := cells4' w (.int .i64 op) (.slice va vs.length vc) (.slice ta ts.length tc) (.slice a l.length c) 27
    go_enter Try.func25, Try.ntmps25
    go_wp2_with fail
    go_loopw [3, 9] (fun n i wr => ∃ j : Nat, j ≤ l.length ∧ i = .int .i64 j ∧ n = .int .i64 ((Fm.depths (l.take j) : Nat) : Int) ∧ Ext w wr ∧ wr.cell? ⟨w.heap.size, 3, none⟩ = some (.slice a l.length c)) (fun _ i _ => l.length - (intOf i).toNat)
    case atStart => exact ⟨0, Nat.zero_le _, rfl, rfl, by go_grown, hca⟩
    case round =>
      obtain ⟨j, hjj, rfl, rfl, hext, g4⟩ := hrel
      clear hcv hct hca
      by_cases hlt : j < l.length
      · obtain ⟨b, o, va', vc', ta', tc', a', c', rfl, -, m0, m1, m2, m3, hel⟩ := (hk.ext hext).look hlt
        have Hm := Lib.hid (ih _ (List.getElem_mem hlt) P _ _ _ _ _ (hel.ext (ext_alloc wr (.cells #[.int .i64 l[j].op, .slice va' l[j].vars.length vc', .slice ta' l[j].terms.length tc', .slice a' l[j].args.length c'] 27))) (by have := Fm.size_le_sizes hlt; omega))
        have hst := Fm.depths_take hlt
        have Hst := Lib.hid hst
        clear hst hel
        go_wp2_with (refine (Hm.out).mono ?_; rintro e w' ⟨rfl, hw'⟩)
        all_goals
          go_roundw
          case rel => exact ⟨j + 1, by omega, by go_num, by rw [Hst.out]; congr 1; first | omega | (simp; omega) | (split <;> omega), hext.trans ((ext_alloc _ _).trans hw'), ((ext_alloc _ _).trans hw').cell g4⟩
          case measure => simp [intOf]; omega
      · have : j = l.length := by omega
        subst this
        rw [List.take_length]
        go_wp2_with fail
        go_ret
        exact ⟨by simp only [Fm.depth]; exact ret_int (by omega), hext⟩

end Go.Proofs.Ytnclgkdpafhogaa
