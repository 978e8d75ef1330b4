/- slices.Clone over texts, formula.Copy. Condition: at most 4194304 parts.
What a text read as a formula gives. No condition.
The reference's Reader: Term. Condition: a row of at most 2^30 tokens, not empty.
The reference's Reader: Term with arguments. Condition: a row of at most 2^30 tokens, not empty.
Rows whose cells are copied; the reference's of. Condition: a row of at most 2^30.
The reference's Reader: bound, from what unit does. Condition: a row of at most 2^30 tokens, not empty. -/
import Derived.Test.YtnclgkdpafhogaaGreatQ18
import Derived.Test.YtnclgkdpafhogaaGreatQ14
import Derived.Test.YtnclgkdpafhogaaGreatQ6
import Derived.Test.YtnclgkdpafhogaaGreatQ17
import Derived.Test.YtnclgkdpafhogaaGreatQ19
import Derived.Deep.RegionLaw
import Derived.Deep.LoopGhost
import Derived.Deep.Light
namespace Go.Proofs.YtnclgkdpafhogaaGreat
open Go.ChangeShapes Go.WideShapes Go.ChangeAt Go.RowKit
theorem own_strs {B : Nat} {w : World} {v : Value} {l : List ByteArray} (hl : ∀ s ∈ l, s.size ≤ 1073741824) (h : w.ownsRow B 9 1 v l.length (l.map Value.string)) : GRow (eltDat 1) 9 B w v (l.map strDat) := by
  refine ⟨l.map fun s => [.string s], by simp, ?_, fun j h1 h2 => ?_⟩
  · have e : (l.map fun s => [Value.string s]).flatten = l.map Value.string := by
      clear h hl
      induction l with
      | nil => rfl
      | cons a l ih => simp only [List.map_cons, List.flatten_cons, ih, List.cons_append, List.nil_append]
    rw [e, List.length_map]; exact h
  · simp only [List.getElem_map]
    exact str_el (hl _ (List.getElem_mem _))
theorem cloneStrs_any {P : Nat → Prop} {l : List ByteArray} {w : World} {a : Option Addr} {c : Nat} (h : IsStrs P w a l) (hl : l.length ≤ 1073741824) :
    Calls Tryz.prog 120 #[.slice a l.length c] w fun e w' => (∃ v, e = .returned v ∧ GRow (eltDat 1) 9 w.heap.size w' v (l.map strDat)) ∧ Ext w w' := by
  have hsz : ∀ s ∈ l, s.size ≤ 1073741824 := fun s hs => by
    obtain ⟨i, hi, rfl⟩ := List.getElem_of_mem hs
    obtain ⟨_, _, _, _, _, hz⟩ := h.look hi
    exact hz
  by_cases h0 : 0 < l.length
  · obtain ⟨b, o, rfl, -⟩ := Dat.Rows.addr h (by simpa using h0)
    have hK := Tryz.slices_Clone_string b o l.length c l w (Nat.le_refl _) (by omega) (fun j hj => by
      obtain ⟨b', o', e, -, h1, -⟩ := h.look hj
      injection e with e; injection e with e1 e2 _; subst e1; subst e2
      rw [h1, List.getD_eq_getElem?_getD, List.getElem?_eq_getElem hj]; rfl)
    refine hK.mono ?_
    rintro e w' ⟨v, rfl, ho, -, hx⟩
    rw [List.take_length] at ho
    exact ⟨⟨v, rfl, own_strs hsz ho⟩, hx⟩
  · have he := List.eq_nil_of_length_eq_zero (Nat.eq_zero_of_not_pos h0)
    subst he
    cases a with
    | none =>
      refine (Tryz.slices_Clone_string_nil 0 c w).mono ?_
      rintro e w' ⟨rfl, rfl⟩
      exact ⟨⟨_, rfl, GRow.nil⟩, Below.refl _ _⟩
    | some a =>
      refine (Tryz.slices_Clone_string_zero a c w).mono ?_
      rintro e w' ⟨v, rfl, ho, -, hx⟩
      exact ⟨⟨v, rfl, own_strs hsz ho⟩, hx⟩
theorem strs_own {B : Nat} {w : World} {v : Value} {l : List ByteArray} (h : GRow (eltDat 1) 9 B w v (l.map strDat)) : ∃ a c, v = .slice a l.length c ∧ l.length ≤ c ∧ IsStrs (fun g => B ≤ g ∧ g < w.heap.size) w a l := by
  obtain ⟨a, c, hv, hc, hd⟩ := GRow.dat (by decide) h
  rw [List.length_map] at hv hc
  exact ⟨a, c, hv, hc, Dat.Rows.mono hd fun g hg hlt => ⟨hg, hlt⟩⟩
set_option maxHeartbeats 16000000 in
set_option maxRecDepth 100000 in
theorem copyFm_any (t : Fm) : ∀ (P : Nat → Prop) (w : World) (x y z u : Value), IsFm P w x y z u t → t.size ≤ 4194304 →
    Calls Tryz.prog 67 #[.agg #[x, y, z, u]] w fun e w' => (∃ v, e = .returned v ∧ isFm' (fun g => w.heap.size ≤ g) w' v t) ∧ Ext w w' := by
  induction t using Fm.ind with
  | h op vs ts l ih =>
    intro P w x y z u ht hs
    obtain ⟨va, vc, ta, tc, a, c, rfl, rfl, rfl, rfl, ho1, ho2, hvc, htc, hc1, hkv, hkt, hk⟩ := ht.form
    have ho2' := ho2
    simp only [Fm.op, Fm.vars, Fm.terms, Fm.args] at ho1 ho2' ho2 hvc htc hc1 hkv hkt hk ⊢
    simp only [Fm.size] at hs
    have hkl := Fm.length_le_sizes l
    have htl := Ex.length_le_sizes ts
    obtain ⟨i0, hi0, hz0, hz1', hz2'⟩ := info_parts infoEx
    obtain ⟨j0, hj0, jz0, jz1', jz2'⟩ := info_parts infoFm
    have HIH := Lib.hid ih
    clear ih ht
    have HCL := Lib.hid (fun w' (hx : Ext w w') => cloneStrs_any (c := vc) (hkv.ext hx) (by omega))
    clear hkv
    go_enter Tryz.func67, Tryz.ntmps67
    go_upto_region 1 with fail
    obtain ⟨W, hW⟩ : ∃ W, W = (w.alloc (.cells #[.int .i64 op, .slice va vs.length vc, .slice ta ts.length tc, .slice a l.length c] 29)).alloc (.cells #[.int .i64 0, .slice none 0 0, .slice none 0 0, .slice none 0 0] 29) := ⟨_, rfl⟩
    have hx : Ext w W := by rw [hW]; exact (ext_alloc _ _).alloc _
    have hz : W.heap.size = w.heap.size + 2 := by rw [hW]; simp
    have hfb : Own W w.heap.size [.int .i64 op, .slice va vs.length vc, .slice ta ts.length tc, .slice a l.length c] := by rw [hW]; exact (own4 w _ _ _ _ _).ext (ext_alloc _ _)
    have hnb : Own W (w.heap.size + 1) [.int .i64 0, .slice none 0 0, .slice none 0 0, .slice none 0 0] := by
      rw [hW]
      have := own4 (w.alloc (.cells #[.int .i64 op, .slice va vs.length vc, .slice ta ts.length tc, .slice a l.length c] 29)) (.int .i64 0) (.slice none 0 0) (.slice none 0 0) (.slice none 0 0) 29
      rw [World.size_alloc] at this; exact this
    rw [← hW]
    clear hW
    obtain ⟨fb, hfbe⟩ : ∃ fb, fb = w.heap.size := ⟨_, rfl⟩
    obtain ⟨nb, hnbe⟩ : ∃ nb, nb = w.heap.size + 1 := ⟨_, rfl⟩
    rw [← hnbe] at hnb
    rw [← hfbe] at hfb
    rw [← hnbe, ← hfbe]
    have hw0 : w.heap.size ≤ fb := by omega
    have hw1 : w.heap.size ≤ nb := by omega
    have hw2 : fb < nb := by omega
    have hw3 : nb < W.heap.size := by omega
    clear hnbe hfbe hz
    obtain ⟨⟨b0, -⟩, ⟨b1, -⟩, ⟨b2, -⟩, ⟨b3, -⟩⟩ := hfb.cells4
    have hfl := hfb.lt
    go_cut [3] from 8 to 13 (fun xx wx => ∃ (ob : Nat) (va' : Option Addr) (vc' : Nat), xx = .pointer (some ⟨ob, 0, none⟩) ∧ Own wx ob [.int .i64 op, .slice va' vs.length vc', .slice none 0 0, .slice none 0 0] ∧ vs.length ≤ vc' ∧ W.heap.size ≤ ob ∧ IsStrs (fun g => W.heap.size ≤ g ∧ g ≠ ob ∧ g < wx.heap.size) wx va' vs ∧ Ext W wx)
    case first =>
      go_region_law ((go_simp; go_at_call 120; refine (HCL.out _ (by first | exact Ext.drew hx | exact (Ext.drew hx).alloc _ | exact Ext.drew (hx.alloc _))).mono ?_; rintro e w1 ⟨⟨v, rfl, hv⟩, hx1⟩; (obtain ⟨va', vc', rfl, hvc', hvs'⟩ := strs_own hv); (have hE : Ext W w1 := (by first | exact Ext.trans (Ext.drew (Below.refl _ _)) hx1 | exact Ext.trans (Ext.drew (ext_alloc _ _)) hx1)); (have e0 := hE.cell b0); (have hl1 : fb < w1.heap.size := cell_lt e0); (have e1 := hE.cell b1); (try (have hb := ((own4 W (.int .i64 0) (.slice none 0 0) (.slice none 0 0) (.slice none 0 0) 29).ext (Ext.trans (Ext.drew (Below.refl _ _)) hx1)); have hbl := hb.lt; (obtain ⟨y0, z0⟩ := hb 0 _ rfl); (obtain ⟨y1, z1⟩ := hb 1 _ rfl); (obtain ⟨y2, z2⟩ := hb 2 _ rfl); (obtain ⟨y3, z3⟩ := hb 3 _ rfl)))))
      all_goals
        go_wp2_with fail
        go_meet
        first
          | (have hb' := hb
             have hch := chg_set4 w1 W.heap.size (.int .i64 op) (.slice va' vs.length vc') (.slice none 0 0) (.slice none 0 0)
             have hch' := hch.size
             exact ⟨W.heap.size, va', vc', rfl, own_set4 hb _ _ _ _, hvc', Nat.le_refl _, Dat.Rows.mono (Dat.Rows.chg hvs' hch (fun g hg => by have h1 := hg.1; simp at h1 ⊢; omega)) (fun g hg _ => by have h1 := hg.1; simp at h1; omega), Chg.ext hE hch (by simp)⟩)
          | exact ⟨w1.heap.size, va', vc', rfl, own4 w1 _ _ _ _ _, hvc', hE.size, Dat.Rows.ext (Dat.Rows.mono hvs' fun g hg _ => ⟨by have h1 : W.heap.size ≤ g := hg.1; omega, by omega, by simp; omega⟩) (ext_alloc _ _), hE.alloc _⟩
    case rest =>
      generalize wc = W0 at hcut ⊢
      obtain ⟨ob, va', vc', rfl, ho, hvc', hobW, hvs', hxW⟩ := hcut
      have hx0 := hx.trans hxW
      have hf0 := hfb.ext hxW
      have hn0 := hnb.ext hxW
      have hob0 := ho.lt
      have hobn : ob ≠ nb := by omega
      have hobf : ob ≠ fb := by omega
      have hwob : w.heap.size ≤ ob := by omega
      have hnbl := hn0.lt
      have hfbl := hf0.lt
      have hwW := hx.size
      clear hfb hnb b0 b1 b2 b3 hfl HCL hx
      obtain ⟨-, -, ⟨b2, -⟩, ⟨b3, -⟩⟩ := hf0.cells4
      go_wp2_with fail
      go_loopw [17] (fun i wr => ∃ (k : Nat) (vv : Value), k ≤ ts.length ∧ i = .int .i64 k ∧ GRow (eltDat 3) 73 W0.heap.size wr vv ((ts.take k).map Ex.dat) ∧ Own wr ob [.int .i64 op, .slice va' vs.length vc', vv, .slice none 0 0] ∧ Chg [ob] W0 wr) (fun i _ => ts.length - (intOf i).toNat)
      case atStart => exact ⟨0, _, Nat.zero_le _, rfl, GRow.nil, ho, Chg.refl _ _⟩
      case round =>
        obtain ⟨k, vv, hkk, rfl, hrow, ho2, hch⟩ := hrel
        have hxr : Ext w wr := Chg.ext hx0 hch (by simp; omega)
        have HML : ((ts.take k).map Ex.dat).length = k := by rw [List.length_map, List.length_take]; omega
        obtain ⟨xa, xc, hv, hxc⟩ := hrow.form
        rw [HML] at hv hxc
        subst hv
        have Hml := Lib.hid HML
        clear HML ho b2 b3
        obtain ⟨q2, r2⟩ := ho2 2 _ rfl
        have hWr : W0.heap.size ≤ wr.heap.size := hch.size
        by_cases hlt : k < ts.length
        · have hk1 : (k : Int) < ts.length := by omega
          obtain ⟨b', o', a', c', rfl, hbP, g1, g2, g3, hi⟩ := (IsExs.ext hkt hxr).look hlt
          have Hi := Lib.hid (fun w' (hx : Ext wr w') => copyExpr_any ts[k] P w' _ _ _ (hi.ext hx) (by have := Ex.size_le_sizes hlt; omega))
          have hown : ∀ g, (Value.slice xa k xc).ownBlock = some g → g < wr.heap.size := fun g hg => (hrow.own_ge hg).2
          have hown2 : ∀ g, (Value.slice xa k xc).ownBlock = some g → W0.heap.size ≤ g := fun g hg => (hrow.own_ge hg).1
          go_upto_region 5 with fail
          obtain ⟨V, hV⟩ : ∃ V, V = wr.alloc (.cells #[.bool ts[k].var, .string ts[k].name, .slice a' ts[k].args.length c'] 73) := ⟨_, rfl⟩
          have hxV : Ext wr V := by rw [hV]; exact ext_alloc _ _
          have hbx : Own V wr.heap.size [.bool ts[k].var, .string ts[k].name, .slice a' ts[k].args.length c'] := by rw [hV]; exact own3 wr _ _ _ _
          obtain ⟨e0, -⟩ := hbx 0 _ rfl
          obtain ⟨e1, -⟩ := hbx 1 _ rfl
          obtain ⟨e2, -⟩ := hbx 2 _ rfl
          have p2 := hxV.cell q2
          have y2 := hxV.frozen q2 r2
          rw [← hV]
          clear hV hi g1 g2 g3
          go_region_law ((first
            | (go_simp; go_at_call 121; refine (Hi.out _ (hxV.trans (Ext.drew (Below.refl _ _)))).mono ?_; rintro e w2 ⟨⟨vv2, rfl, x0, x1, x2, rfl, hex⟩, hx2⟩; (have hx2' : Ext V w2 := (Ext.drew (Below.refl _ V)).trans hx2); (obtain ⟨d1, e1', rfl, rfl, rfl, -⟩ := hex.form); (have d5 := hx2'.cell p2); (have d6 := hx2'.frozen p2 y2); (have d7 := (ext_alloc w2 (.cells #[.bool ts[k].var, .string ts[k].name, .slice d1 ts[k].args.length e1'] 73)).cell d5); (try simp only []))
            | (refine step_append_row rfl (.tmp 22) (.tmp 25) _ rfl 73 i0 _ 48 Tryz.underlying26 hi0 hz0 hz1' hz2' rfl (by decide) W0.heap.size (.slice xa k xc) ((ts.take k).map Ex.dat) (by rfl) wr hrow ((hxV.trans hx2').trans (ext_alloc _ _)) w2.heap.size (by rfl) _ _ (heap_alloc_new _ _) ts[k].dat (ex_el (hex.ext (ext_alloc _ _)) fun g hg hlt => (show W0.heap.size ≤ g ∧ (Value.slice xa k xc).ownBlock ≠ some g from ⟨by have : V.heap.size ≤ g := hg; have := hxV.size; omega, fun e => by have := hown g e; have : V.heap.size ≤ g := hg; have := hxV.size; omega⟩)) (by rw [Hml.out]; simp only [maxLen]; omega) (by rw [Hml.out]; omega) (Nat.le_trans hWr ((hxV.trans hx2').trans (ext_alloc _ _)).size) ?_; intro g cap w4 hrow4 hgrow hat hlt4; (have hfar : (some (⟨ob, 2, none⟩ : Addr).block) ≠ (Value.slice xa k xc).ownBlock := fun e => by have := hown2 _ e.symm; simp only at this; omega); (have hlt5 : (⟨ob, 2, none⟩ : Addr).block < (w2.alloc (.cells #[.bool ts[k].var, .string ts[k].name, .slice d1 ts[k].args.length e1'] 73)).heap.size := Nat.lt_of_lt_of_le (cell_lt d5) (ext_alloc w2 _).size); (have e5 := (hgrow.cell_far ⟨ob, 2, none⟩ hlt5 hfar).trans ((ext_alloc w2 _).cell d5)); (have e6 := (hgrow.frozen_far ⟨ob, 2, none⟩ hlt5 hfar).trans ((ext_alloc w2 _).frozen d5 d6)))))
          all_goals
            go_wp2_with fail
            go_roundw
            case rel =>
              have hx5 := (hxV.trans hx2').trans (ext_alloc w2 (.cells #[.bool ts[k].var, .string ts[k].name, .slice d1 ts[k].args.length e1'] 73))
              have hset := (Chg.refl [ob] w4).setCell (p := ⟨ob, 2, none⟩) (.slice (some ⟨g, 0, none⟩) (k + 1) cap) (.inl (by simp))
              have hnot : ∀ b, b < W0.heap.size → (Value.slice xa k xc).ownBlock ≠ some b := fun b hb e => by have := hown2 _ e; omega
              have hrow5 := hrow4
              rw [Hml.out] at hrow5
              refine ⟨k + 1, .slice (some ⟨g, 0, none⟩) (k + 1) cap, by omega, by go_num, ?_, ?_, (chg_append hch hrow (Nat.le_refl _) hx5 hgrow).trans (by simpa [Hml.out] using hset)⟩
              · rw [List.take_succ_eq_append_getElem hlt, List.map_append]
                exact hrow5.chg hset (by simp; omega)
              · exact (own_append (ho2.ext hx5) hgrow (hnot ob hob0)).set (i := 2) (by simp) (.slice (some ⟨g, 0, none⟩) (k + 1) cap)
            case measure => simp [intOf]; omega
        · have hk1 : ¬ (k : Int) < ts.length := by omega
          have hke : k = ts.length := by omega
          obtain ⟨a1, c1, hv1, hvc1, hd⟩ := GRow.dat (by decide) hrow
          rw [Hml.out] at hv1 hvc1
          injection hv1 with e1 _ e3
          subst e1; subst e3
          have hke' := hke
          subst hke
          rw [List.take_length] at hd
          have hts : IsExs (fun g => W0.heap.size ≤ g ∧ g < wr.heap.size) wr xa ts := by unfold IsExs; rw [Ex.dats_map]; exact Dat.Rows.mono hd fun g hg hlt => ⟨hg, hlt⟩
          have hvs1 : IsStrs (fun g => W.heap.size ≤ g ∧ g ≠ ob ∧ g < W0.heap.size) wr va' vs := Dat.Rows.chg hvs' hch (fun g hg => by simpa using hg.2.1)
          have hn1 := hn0.chg hch (by simpa using Ne.symm hobn)
          have hf1 := hf0.chg hch (by simpa using Ne.symm hobf)
          clear hd hrow hke' Hml hk1 hlt q2 r2 hvs' hn0 hf0
          obtain ⟨-, -, -, ⟨b3, -⟩⟩ := hf1.cells4
          have hob1 := ho2.lt
          obtain ⟨V1, hV1⟩ : ∃ V1, V1 = wr := ⟨_, rfl⟩
          rw [← hV1] at ho2 hch hxr hWr hts hvs1 hn1 hf1 b3 hob1 ⊢
          clear hV1
          go_wp2_with fail
          go_loopw [32] (fun i wr => ∃ (k : Nat) (vv : Value), k ≤ l.length ∧ i = .int .i64 k ∧ GRow (eltDat 4) 29 V1.heap.size wr vv ((l.take k).map Fm.dat) ∧ Own wr ob [.int .i64 op, .slice va' vs.length vc', .slice xa ts.length xc, vv] ∧ Chg [ob] V1 wr) (fun i _ => l.length - (intOf i).toNat)
          case atStart => exact ⟨0, _, Nat.zero_le _, rfl, GRow.nil, ho2, Chg.refl _ _⟩
          case round =>
            obtain ⟨k, vv, hkk, rfl, hrow, ho3, hch3⟩ := hrel
            have hxr3 : Ext w wr := Chg.ext hxr hch3 (by simp; omega)
            have HML : ((l.take k).map Fm.dat).length = k := by rw [List.length_map, List.length_take]; omega
            obtain ⟨za, zc, hv, hzc⟩ := hrow.form
            rw [HML] at hv hzc
            subst hv
            have Hml := Lib.hid HML
            clear HML ho2 b3
            obtain ⟨q2, r2⟩ := ho3 3 _ rfl
            have hWr3 : V1.heap.size ≤ wr.heap.size := hch3.size
            by_cases hlt : k < l.length
            · have hk1 : (k : Int) < l.length := by omega
              obtain ⟨b', o', a1', c1', a2', c2', a', c', rfl, hbP, g1, g2, g3, g4, hi⟩ := (IsFms.ext hk hxr3).look hlt
              have Hi := Lib.hid (fun w' (hx : Ext wr w') => HIH.out _ (List.getElem_mem hlt) P w' _ _ _ _ (hi.ext hx) (by have := Fm.size_le_sizes hlt; omega))
              have hown : ∀ g, (Value.slice za k zc).ownBlock = some g → g < wr.heap.size := fun g hg => (hrow.own_ge hg).2
              have hown2 : ∀ g, (Value.slice za k zc).ownBlock = some g → V1.heap.size ≤ g := fun g hg => (hrow.own_ge hg).1
              go_upto_region 10 with fail
              obtain ⟨V, hV⟩ : ∃ V, V = wr.alloc (.cells #[.int .i64 l[k].op, .slice a1' l[k].vars.length c1', .slice a2' l[k].terms.length c2', .slice a' l[k].args.length c'] 29) := ⟨_, rfl⟩
              have hxV : Ext wr V := by rw [hV]; exact ext_alloc _ _
              have hbx : Own V wr.heap.size [.int .i64 l[k].op, .slice a1' l[k].vars.length c1', .slice a2' l[k].terms.length c2', .slice a' l[k].args.length c'] := by rw [hV]; exact own4 wr _ _ _ _ _
              obtain ⟨⟨e0, -⟩, ⟨e1, -⟩, ⟨e2, -⟩, ⟨e3, -⟩⟩ := hbx.cells4
              have p2 := hxV.cell q2
              have y2 := hxV.frozen q2 r2
              rw [← hV]
              clear hV hi g1 g2 g3 g4
              go_region_law ((first
                | (go_simp; go_at_call 67; refine (Hi.out _ (hxV.trans (Ext.drew (Below.refl _ _)))).mono ?_; rintro e w2 ⟨⟨vv2, rfl, x0, x1, x2, x3, rfl, hex⟩, hx2⟩; (have hx2' : Ext V w2 := (Ext.drew (Below.refl _ V)).trans hx2); (obtain ⟨d1, e1', d2, e2', d3, e3', rfl, rfl, rfl, rfl, -⟩ := hex.form); (have d5 := hx2'.cell p2); (have d6 := hx2'.frozen p2 y2); (have d7 := (ext_alloc w2 (.cells #[.int .i64 l[k].op, .slice d1 l[k].vars.length e1', .slice d2 l[k].terms.length e2', .slice d3 l[k].args.length e3'] 29)).cell d5); (try simp only []))
                | (refine step_append_row rfl (.tmp 37) (.tmp 40) _ rfl 29 j0 _ 80 Tryz.underlying27 hj0 jz0 jz1' jz2' rfl (by decide) V1.heap.size (.slice za k zc) ((l.take k).map Fm.dat) (by rfl) wr hrow ((hxV.trans hx2').trans (ext_alloc _ _)) w2.heap.size (by rfl) _ _ (heap_alloc_new _ _) l[k].dat (fm_el (hex.ext (ext_alloc _ _)) fun g hg hlt => (show V1.heap.size ≤ g ∧ (Value.slice za k zc).ownBlock ≠ some g from ⟨by have : V.heap.size ≤ g := hg; have := hxV.size; omega, fun e => by have := hown g e; have : V.heap.size ≤ g := hg; have := hxV.size; omega⟩)) (by rw [Hml.out]; simp only [maxLen]; omega) (by rw [Hml.out]; omega) (Nat.le_trans hWr3 ((hxV.trans hx2').trans (ext_alloc _ _)).size) ?_; intro g cap w4 hrow4 hgrow hat hlt4; (have hfar : (some (⟨ob, 3, none⟩ : Addr).block) ≠ (Value.slice za k zc).ownBlock := fun e => by have := hown2 _ e.symm; simp only at this; omega); (have hlt5 : (⟨ob, 3, none⟩ : Addr).block < (w2.alloc (.cells #[.int .i64 l[k].op, .slice d1 l[k].vars.length e1', .slice d2 l[k].terms.length e2', .slice d3 l[k].args.length e3'] 29)).heap.size := Nat.lt_of_lt_of_le (cell_lt d5) (ext_alloc w2 _).size); (have e5 := (hgrow.cell_far ⟨ob, 3, none⟩ hlt5 hfar).trans ((ext_alloc w2 _).cell d5)); (have e6 := (hgrow.frozen_far ⟨ob, 3, none⟩ hlt5 hfar).trans ((ext_alloc w2 _).frozen d5 d6)))))
              all_goals
                go_wp2_with fail
                go_roundw
                case rel =>
                  have hx5 := (hxV.trans hx2').trans (ext_alloc w2 (.cells #[.int .i64 l[k].op, .slice d1 l[k].vars.length e1', .slice d2 l[k].terms.length e2', .slice d3 l[k].args.length e3'] 29))
                  have hset := (Chg.refl [ob] w4).setCell (p := ⟨ob, 3, none⟩) (.slice (some ⟨g, 0, none⟩) (k + 1) cap) (.inl (by simp))
                  have hnot : ∀ b, b < V1.heap.size → (Value.slice za k zc).ownBlock ≠ some b := fun b hb e => by have := hown2 _ e; omega
                  have hrow5 := hrow4
                  rw [Hml.out] at hrow5
                  refine ⟨k + 1, .slice (some ⟨g, 0, none⟩) (k + 1) cap, by omega, by go_num, ?_, ?_, (chg_append hch3 hrow (Nat.le_refl _) hx5 hgrow).trans (by simpa [Hml.out] using hset)⟩
                  · rw [List.take_succ_eq_append_getElem hlt, List.map_append]
                    exact hrow5.chg hset (by simp; omega)
                  · exact (own_append (ho3.ext hx5) hgrow (hnot ob hob1)).set (i := 3) (by simp) (.slice (some ⟨g, 0, none⟩) (k + 1) cap)
                case measure => simp [intOf]; omega
            · have hk1 : ¬ (k : Int) < l.length := by omega
              have hke : k = l.length := by omega
              obtain ⟨a1, c1, hv1, hvc1, hd⟩ := GRow.dat (by decide) hrow
              rw [Hml.out] at hv1 hvc1
              injection hv1 with e1 _ e3
              subst e1; subst e3
              subst hke
              rw [List.take_length] at hd
              have hn3 := hn1.chg hch3 (by simpa using Ne.symm hobn)
              have hts3 : IsExs (fun g => W0.heap.size ≤ g ∧ g < V1.heap.size) wr xa ts := Dat.Rows.chg hts hch3 (fun g hg => by simp; omega)
              have hvs3 : IsStrs (fun g => W.heap.size ≤ g ∧ g ≠ ob ∧ g < W0.heap.size) wr va' vs := Dat.Rows.chg hvs1 hch3 (fun g hg => by simpa using hg.2.1)
              clear hrow Hml hk1 hlt q2 r2 hn1 hts hvs1 hf1
              obtain ⟨⟨m0, -⟩, ⟨m1, -⟩, ⟨m2, -⟩, ⟨m3, -⟩⟩ := ho3.cells4
              obtain ⟨⟨n0, s0⟩, ⟨n1, s1⟩, ⟨n2, s2⟩, ⟨n3, s3⟩⟩ := hn3.cells4
              have hnl3 := hn3.lt
              have HD := Lib.hid (And.intro hd (And.intro hts3 hvs3))
              clear hd hts3 hvs3
              go_wp2_with fail
              obtain ⟨W2, hW2⟩ : ∃ W2, W2 = (((wr.setCell ⟨nb, 0, none⟩ (.int .i64 op)).setCell ⟨nb, 1, none⟩ (.slice va' vs.length vc')).setCell ⟨nb, 2, none⟩ (.slice xa ts.length xc)).setCell ⟨nb, 3, none⟩ (.slice za l.length zc) := ⟨_, rfl⟩
              have hch4 := chg_set4 wr nb (.int .i64 op) (.slice va' vs.length vc') (.slice xa ts.length xc) (.slice za l.length zc)
              have hn4 := own_set4 hn3 (.int .i64 op) (.slice va' vs.length vc') (.slice xa ts.length xc) (.slice za l.length zc)
              rw [← hW2] at hch4 hn4 ⊢
              clear hW2
              obtain ⟨f0, f1, f2, f3⟩ := own_res4 hn4
              have hxf := Chg.ext hxr3 hch4 (by simp; omega)
              obtain ⟨hd, hts3, hvs3⟩ := HD.out
              have hWW := hxW.size
              have hd4 : IsFms (fun g => w.heap.size ≤ g) W2 za l := by unfold IsFms; rw [Fm.dats_map]; exact Dat.Rows.mono (Dat.Rows.chg hd hch4 (fun g hg => by simp; omega)) fun g hg _ => by have := hxr.size; omega
              have ht4 : IsExs (fun g => w.heap.size ≤ g) W2 xa ts := Dat.Rows.mono (Dat.Rows.chg hts3 hch4 (fun g hg => by simp; omega)) fun g hg _ => by have := hx0.size; omega
              have hv4 : IsStrs (fun g => w.heap.size ≤ g) W2 va' vs := Dat.Rows.mono (Dat.Rows.chg hvs3 hch4 (fun g hg => by simp; omega)) fun g hg _ => by omega
              refine bodyPost_ret (v := .agg #[.int .i64 op, .slice va' vs.length vc', .slice xa ts.length xc, .slice za l.length zc]) (by simp [results, Tryz.results67, go_sem, f0, f1, f2, f3]) rfl ⟨⟨_, rfl, _, _, _, _, rfl, IsFm.mk' ho1 ho2' hvc' hxc hzc hv4 ht4 hd4⟩, hxf⟩
end Go.Proofs.YtnclgkdpafhogaaGreat
namespace Go.Proofs.YtnclgkdpafhogaaGreat
open Go.ChangeShapes Go.WideShapes Go.ChangeAt Go.RowKit
def tokOf (l : List Tok) (i : Int) : Tok := (l[i.toNat]?).getD ⟨7, ⟨#[]⟩, 0⟩
theorem tokOf_lt {l : List Tok} {i : Int} (h0 : 0 ≤ i) (h : i < l.length) : tokOf l i = l[i.toNat]'(by omega) := by
  unfold tokOf; rw [List.getElem?_eq_getElem (by omega)]; rfl
/-- from what is cut: the formula, the place of a fault, the error -/
def parseC (ct : List Tok × Nat × Int) : Fm × Int × Int :=
  if ct.2.2 ≠ 0 then (Fm.zero, (ct.2.1 : Nat), ct.2.2)
  else if (readS ct.1 0).2.2 ≠ 0 then (Fm.zero, (tokOf ct.1 (readS ct.1 0).2.1).at', (readS ct.1 0).2.2)
  else if (tokOf ct.1 (readS ct.1 0).2.1).kind ≠ 7 then (Fm.zero, (tokOf ct.1 (readS ct.1 0).2.1).at', 230)
  else ((readS ct.1 0).1, 0, 0)
/-- a text read as a formula -/
def parseS (s : ByteArray) : Fm × Int × Int := parseC (cutS s)
theorem cutS_ends {s : ByteArray} (h : (cutS s).2.2 = 0) : Ends (cutS s).1 := by
  unfold cutS at h ⊢
  split at h
  · cases h
  · rename_i hl
    rw [if_neg hl]
    unfold cutAll at h ⊢
    split at h
    · rename_i h0; rw [if_pos h0]; exact cutFrom_ends (Nat.zero_le _) h0
    · rename_i h0; exact absurd h h0
theorem cutS_len (s : ByteArray) : (cutS s).1.length ≤ 8001 := by
  unfold cutS
  split
  · simp
  · rename_i hl
    unfold cutAll
    split
    · have := cutFrom_len (s := s) (Nat.zero_le _); simp only; omega
    · simp
theorem Ends.pos {l : List Tok} (h : Ends l) : 0 < l.length := by obtain ⟨p, t, rfl, -⟩ := h; simp
theorem readS_range {l : List Tok} (h : Ends l) : 0 ≤ (readS l 0).2.1 ∧ (readS l 0).2.1 < l.length ∧ ((readS l 0).2.2 = 0 ∨ (readS l 0).2.2 = 2 ∨ (readS l 0).2.2 = 3 ∨ (readS l 0).2.2 = 230) := by
  have hp := h.pos
  unfold readS
  rw [if_neg (by omega)]
  simp only [Int.toNat_zero, List.drop_zero]
  cases hr : rForm l with
  | bad r => simp only; refine ⟨by omega, ?_, by simp⟩; have : badAt l r ≤ l.length - 1 := Nat.min_le_right _ _; omega
  | ok f r =>
    have he := rForm_pres _ _ _ h hr
    have hr1 := he.pos
    have hs := rForm_lt hr
    simp only
    split
    · refine ⟨by simp, by simp; omega, ?_⟩
      rcases check_range f with h | h | h <;> simp [h]
    · simp only; exact ⟨by omega, by omega, .inl trivial⟩
end Go.Proofs.YtnclgkdpafhogaaGreat
namespace Go.Proofs.YtnclgkdpafhogaaGreat
open Go.ChangeShapes Go.WideShapes Go.ChangeAt Go.RowKit
/-- how much is left to read; 0: nothing more is read -/
def toGo : Rd Unit → Nat
  | .ok _ r => r.length + 1
  | .bad _ => 0
section
variable {α : Type} {one : List Tok → Rd α} {sep : ByteArray}
theorem st_left {ks : List Tok} {n : Nat} (hs : Shrinks one n) (hn : ks.length ≤ n) : toGo (one ks).st ≤ ks.length := by
  cases h : one ks with
  | bad r => exact Nat.zero_le _
  | ok x r => exact hs ks x r hn h
theorem row_first {ks : List Tok} {x' : α} (hv : ∀ x r, one ks = .ok x r → x' = x) : rowR one sep ks = (one ks).st.bind fun _ r => (more one sep r).map ([x'] ++ ·) := by
  unfold rowR
  cases h : one ks with
  | bad r => rfl
  | ok x r => rw [hv x r h]; rfl
theorem row_next {r r1 : List Tok} {u : Unit} {x' : α} {pre : List α} {A : Rd (List α)} (hs : ∀ n, Shrinks one n) (hA : A = (Rd.ok u r).bind fun _ r => (more one sep r).map (pre ++ ·)) (ht : takeS sep r = some r1) (hv : ∀ x k, one r1 = .ok x k → x' = x) :
    A = (one r1).st.bind fun _ r => (more one sep r).map ((pre ++ [x']) ++ ·) := by
  rw [hA, Rd.bind_ok, more_eq (hs _), ht]
  simp only
  cases h : one r1 with
  | bad r => rfl
  | ok x k =>
    rw [hv x k h, Rd.bind_ok]
    show _ = (more one sep k).map _
    cases more one sep k <;> simp
theorem row_end {st : Rd Unit} {pre : List α} {A : Rd (List α)} (hs : ∀ n, Shrinks one n) (hA : A = st.bind fun _ r => (more one sep r).map (pre ++ ·)) (ht : takeB sep st = false) : A = (st.map fun _ => pre) ∧ takeSt sep st = st := by
  rw [hA]
  cases st with
  | bad r => exact ⟨rfl, rfl⟩
  | ok u r =>
    have hn : takeS sep r = none := by
      unfold takeB at ht
      cases h : takeS sep r with
      | none => rfl
      | some r1 => simp [h] at ht
    refine ⟨?_, (takeSt_none hn).1⟩
    rw [Rd.bind_ok, more_eq (hs _), hn]
    simp
theorem take_true {st : Rd Unit} (ht : takeB sep st = true) : ∃ r r1, st = .ok () r ∧ takeS sep r = some r1 ∧ takeSt sep st = .ok () r1 ∧ r1.length + 1 = r.length := by
  cases st with
  | bad r => cases ht
  | ok u r =>
    unfold takeB at ht
    cases h : takeS sep r with
    | none => simp [h] at ht
    | some r1 => exact ⟨r, r1, rfl, h, (takeSt_some h).1, takeS_lt h⟩
end
def RTermOK (rb : Nat) (l : List Tok) (n : Nat) : Prop := ∀ ks u, ks.length ≤ n → ∀ w, RSt rb l w (.ok u ks) → Calls Tryz.prog 170 #[.pointer (some ⟨rb, 0, none⟩)] w (RPost isEx' rb l w (rTerm ks))
section
variable {rb : Nat} {l : List Tok}
set_option maxHeartbeats 4000000 in
set_option maxRecDepth 100000 in
theorem rterm_bad (hl : l.length ≤ 1073741824) {u : Unit} {ks : List Tok} {w : World} (h : RSt rb l w (.ok u ks)) (h2 : (peekT ks).kind ≠ 2) (hn : (peekT ks).named = false) :
    Calls Tryz.prog 170 #[.pointer (some ⟨rb, 0, none⟩)] w (RPost isEx' rb l w (rTerm ks)) := by
  have HE := Lib.hid (show rTerm ks = .bad ks by
    rw [rTerm_eq]
    cases ks with
    | nil => rfl
    | cons t r =>
      have h2 : t.kind ≠ 2 := h2
      have hn : t.named = false := hn
      rw [termStep_cons, if_neg h2, hn]; rfl)
  have HS := Lib.hid h
  have HP := Lib.hid (fun w' (hx : Ext w w') => rpeek_any hl (h.ext hx))
  obtain ⟨a, c, p, hown, hp, hpk, hsuf, -, -⟩ := h.good
  have hlt := hown.lt
  obtain ⟨c2, f2⟩ := hown 2 _ rfl
  clear hown hpk hsuf h
  obtain ⟨W, hW⟩ : ∃ W, W = w.alloc (.cells #[.bool false, .string ⟨#[]⟩, .slice none 0 0] 73) := ⟨_, rfl⟩
  have hx : Ext w W := by rw [hW]; exact ext_alloc _ _
  have hnew : Own W w.heap.size [.bool false, .string ⟨#[]⟩, .slice none 0 0] := by rw [hW]; exact own3 w _ _ _ _
  go_enter Tryz.func170, Tryz.ntmps170
  go_upto_region 2 with (rw [← hW]; clear hW; go_at_call 84; refine (HP.out _ hx).mono ?_; rintro e w1 ⟨⟨t2, rfl, hsz, ht2⟩, hx1⟩; replace c2 := (hx.trans hx1).cell c2; replace hnew := hnew.ext hx1; have hlt1 : rb < w1.heap.size := cell_lt c2; simp only [Tok.vals])
  have htp := ht2 u ks rfl
  rw [← htp] at h2 hn
  clear htp ht2
  have HNM := Lib.hid (fun w => rnamed_any (w := w) t2 hsz)
  rw [hn] at HNM
  obtain ⟨kd, tx, ta⟩ := t2
  simp only at hsz h2 ⊢
  have q1 : (kd == 2) = false := by rw [beq_eq_false_iff_ne]; exact h2
  clear hn h2
  simp only [Tok.vals] at HNM
  go_wp2_with (first | (go_at_call 183; refine (HNM.out _).mono ?_; rintro e w2 ⟨rfl, hx2⟩; have hx3 := (hx.trans hx1).trans ((ext_alloc _ _).trans hx2); have hn3 := hnew.ext ((ext_alloc _ _).trans hx2)) | (go_at_call 117; refine (rwrong_any hl (HS.out.ext hx3)).mono ?_; rintro e w3 ⟨rfl, h4, hx4⟩; have hn4 := hn3.chg hx4 (by simp; omega); (obtain ⟨n0, g0⟩ := hn4 0 _ rfl); (obtain ⟨n1, g1⟩ := hn4 1 _ rfl); (obtain ⟨n2, g2⟩ := hn4 2 _ rfl)))
  have hres := own_set3 hn4 (.bool false) (.string ⟨#[]⟩) (.slice none 0 0)
  have hch := chg_set3 w3 w.heap.size (.bool false) (.string ⟨#[]⟩) (.slice none 0 0)
  have hcf := h4.chg hch (by simp; omega)
  have hcq := Chg.drop (T := [rb]) (Below.refl _ _) ((((Chg.of_ext hx3).trans hx4).mono (T := [rb, w.heap.size]) (by simp)).trans (hch.mono (by simp))) (by simp)
  clear hch n0 n1 n2 g0 g1 g2
  generalize ((w3.setCell ⟨w.heap.size, 0, none⟩ (.bool false)).setCell ⟨w.heap.size, 1, none⟩ (.string ⟨#[]⟩)).setCell ⟨w.heap.size, 2, none⟩ (.slice none 0 0) = W2 at *
  obtain ⟨r0, r1, r2⟩ := own_res3 hres
  refine bodyPost_ret (v := .agg #[.bool false, .string ⟨#[]⟩, .slice none 0 0]) (by simp [results, Tryz.results170, go_sem, r0, r1, r2]) rfl ⟨hcq, ?_⟩
  rw [HE.out]
  exact ⟨hcf, _, _, rfl, ⟨_, _, _, rfl, ex_leaf false (Nat.zero_le _)⟩, fun x r he => by cases he⟩
set_option maxHeartbeats 4000000 in
set_option maxRecDepth 100000 in
theorem rterm_var (hl : l.length ≤ 1073741824) {u : Unit} {t : Tok} {r : List Tok} {w : World} (h : RSt rb l w (.ok u (t :: r))) (h2 : t.kind = 2) :
    Calls Tryz.prog 170 #[.pointer (some ⟨rb, 0, none⟩)] w (RPost isEx' rb l w (rTerm (t :: r))) := by
  have HP := Lib.hid (fun w' (hx : Ext w w') => rpeek_any hl (h.ext hx))
  obtain ⟨a, c, p, hown, hp, hpk, hsuf, hmove, -⟩ := h.good
  have hlt := hown.lt
  have hsz := (h.toks t (hsuf.subset (by simp))).2.1
  obtain ⟨c1, f1⟩ := hown 1 _ rfl
  obtain ⟨c2, f2⟩ := hown 2 _ rfl
  have HM := Lib.hid hmove
  have HK := Lib.hid (show ((p : Int) + 1) = ((l.length - r.length : Nat) : Int) by have := hsuf.length_le; simp at this; simp at hpk; omega)
  have HR := Lib.hid ((List.suffix_cons t r).trans hsuf)
  have hp1 : (p : Int) + 1 ≤ 1073741824 := by have := hsuf.length_le; simp at this; simp at hpk; omega
  have HE := Lib.hid (show rTerm (t :: r) = .ok (.mk true t.text []) r by rw [rTerm_eq, termStep_cons, if_pos h2])
  clear hown h hmove hpk hsuf
  obtain ⟨kd, tx, ta⟩ := t
  simp only at HE hsz
  have q1 : (kd == 2) = true := by rw [beq_iff_eq]; exact h2
  clear h2
  obtain ⟨W, hW⟩ : ∃ W, W = w.alloc (.cells #[.bool false, .string ⟨#[]⟩, .slice none 0 0] 73) := ⟨_, rfl⟩
  have hx : Ext w W := by rw [hW]; exact ext_alloc _ _
  have hnew : Own W w.heap.size [.bool false, .string ⟨#[]⟩, .slice none 0 0] := by rw [hW]; exact own3 w _ _ _ _
  go_enter Tryz.func170, Tryz.ntmps170
  go_wp2_with (rw [← hW]; clear hW; go_at_call 84; refine (HP.out _ hx).mono ?_; rintro e w1 ⟨⟨t2, rfl, -, ht2⟩, hx1⟩; obtain rfl : t2 = ⟨kd, tx, ta⟩ := ht2 _ _ rfl; simp only [Tok.vals]; clear ht2; replace f1 := (hx.trans hx1).frozen c1 f1; replace c1 := (hx.trans hx1).cell c1; replace c2 := (hx.trans hx1).cell c2; replace hnew := hnew.ext hx1; have hlt1 : rb < w1.heap.size := cell_lt c1; have hlt2 := hnew.lt; (obtain ⟨n0, g0⟩ := hnew 0 _ rfl); (obtain ⟨n1, g1⟩ := hnew 1 _ rfl); (obtain ⟨n2, g2⟩ := hnew 2 _ rfl); have hne : w.heap.size ≠ rb := by omega)
  have hch := (chg_set3 (w1.setCell ⟨rb, 1, none⟩ (.int .i64 ((p : Int) + 1))) w.heap.size (.bool true) (.string tx) (.slice none 0 0)).alloc (.cells #[.int .i64 kd, .string tx, .int .i64 ta] 77)
  have k1 := (HM.out w1 (Chg.of_ext (hx.trans hx1)) _ _ HR.out HK.out).chg hch (by simp; omega)
  have k2 := Chg.drop (T := [rb]) (Below.refl _ _) ((((Chg.of_ext (S := [rb]) (hx.trans hx1)).setCell (p := ⟨rb, 1, none⟩) (.int .i64 ((p : Int) + 1)) (.inl (by simp))).mono (T := [rb, w.heap.size]) (by simp)).trans (hch.mono (by simp))) (by simp)
  have hres := (own_set3 (hnew.chg ((Chg.refl [rb] w1).setCell (p := ⟨rb, 1, none⟩) (.int .i64 ((p : Int) + 1)) (.inl (by simp))) (by simpa using hne)) (.bool true) (.string tx) (.slice none 0 0)).ext (ext_alloc _ (.cells #[.int .i64 kd, .string tx, .int .i64 ta] 77))
  clear hch hnew c1 f1 n0 n1 n2 g0 g1 g2 hlt1 hlt2
  generalize ((((w1.setCell ⟨rb, 1, none⟩ (.int .i64 ((p : Int) + 1))).setCell ⟨w.heap.size, 0, none⟩ (.bool true)).setCell ⟨w.heap.size, 1, none⟩ (.string tx)).setCell ⟨w.heap.size, 2, none⟩ (.slice none 0 0)).alloc (.cells #[.int .i64 kd, .string tx, .int .i64 ta] 77) = W2 at *
  obtain ⟨r0, r1, r2⟩ := own_res3 hres
  refine bodyPost_ret (v := .agg #[.bool true, .string tx, .slice none 0 0]) (by simp [results, Tryz.results170, go_sem, r0, r1, r2]) rfl ⟨k2, ?_⟩
  rw [HE.out]
  exact ⟨k1, _, _, rfl, ⟨_, _, _, rfl, ex_leaf true hsz⟩, fun x r he => by injection he⟩
end
end Go.Proofs.YtnclgkdpafhogaaGreat
namespace Go.Proofs.YtnclgkdpafhogaaGreat
open Go.ChangeShapes Go.WideShapes Go.ChangeAt Go.RowKit
/-- between two arguments: what the reader's block, the term's, the result's hold -/
def RTRel (rb : Nat) (l : List Tok) (V : World) (B xb nb : Nat) (nm : ByteArray) (m : Nat) (A : Rd (List Ex)) (g : Nat) (wr : World) : Prop :=
  ∃ (st : Rd Unit) (pre : List Ex) (vv : Value), g = toGo st ∧ RSt rb l wr st ∧ GRow (eltDat 3) 73 B wr vv (pre.map Ex.dat) ∧ Own wr xb [.bool false, .string nm, vv] ∧ Own wr nb [.bool false, .string ⟨#[]⟩, .slice none 0 0] ∧ Chg [rb, xb] V wr ∧
    pre.length + toGo st ≤ m ∧ A = st.bind fun _ r => (more rTerm sComma r).map (pre ++ ·)
theorem RSt.append {α : Type} {E : Elt α} {e B rb : Nat} {l : List Tok} {w w1 w2 : World} {st : Rd Unit} {v : Value} {m : List α} (h : RSt rb l w1 st) (hr : GRow E e B w v m) (hB : rb < B) (hg : w1.grownBy w2 v.ownBlock) : RSt rb l w2 st := by
  cases ho : v.ownBlock with
  | none =>
    rw [ho] at hg
    exact h.chg (S := []) (Chg.of_grown hg (by simp)) (by simp)
  | some g =>
    rw [ho] at hg
    have := (hr.own_ge ho).1
    exact h.chg (S := [g]) (Chg.of_grown hg (by simp)) (by simp; omega)
theorem rt_rel {rb : Nat} {l : List Tok} {V wr w4 w5 : World} {B xb nb : Nat} {nm : ByteArray} {m : Nat} {A : Rd (List Ex)} {st : Rd Unit} {pre : List Ex} {x' : Ex} {vv vv' : Value} {o : Obj}
    (hq : Chg [rb, xb] V wr) (hx4 : Chg [rb] wr w4) (hst : RSt rb l w4 st) (hrow4 : GRow (eltDat 3) 73 B w4 vv (pre.map Ex.dat)) (hxb : Own wr xb [.bool false, .string nm, vv]) (hnb : Own wr nb [.bool false, .string ⟨#[]⟩, .slice none 0 0])
    (hgrow : (w4.alloc o).grownBy w5 vv.ownBlock) (hrow5 : GRow (eltDat 3) 73 B w5 vv' (pre.map Ex.dat ++ [x'.dat])) (h1 : rb < xb) (h2 : xb < B) (h3 : nb < B) (h4 : nb ≠ xb) (h5 : nb ≠ rb) (hV : V.heap.size ≤ B)
    (hlen : pre.length + 1 + toGo st ≤ m) (hA : A = st.bind fun _ r => (more rTerm sComma r).map ((pre ++ [x']) ++ ·)) : RTRel rb l V B xb nb nm m A (toGo st) (w5.setCell ⟨xb, 2, none⟩ vv') := by
  have hset := (Chg.refl [xb] w5).setCell (p := ⟨xb, 2, none⟩) vv' (.inl (by simp))
  have hnot : ∀ b, b < B → vv.ownBlock ≠ some b := fun b hb e => by have := (hrow4.own_ge e).1; omega
  refine ⟨st, pre ++ [x'], vv', rfl, ((hst.ext (ext_alloc _ o)).append hrow4 (by omega) hgrow).chg hset (by simp; omega), ?_, ?_, ?_, ?_, by simp; omega, hA⟩
  · rw [List.map_append]
    exact hrow5.chg hset (by simp; omega)
  · exact (own_append ((hxb.chg hx4 (by simp; omega)).ext (ext_alloc _ o)) hgrow (hnot _ h2)).set (i := 2) (by simp) vv'
  · exact (own_append ((hnb.chg hx4 (by simpa using h5)).ext (ext_alloc _ o)) hgrow (hnot _ h3)).chg hset (by simpa using h4)
  · exact (chg_append (hq.trans (hx4.mono (by simp))) hrow4 hV (ext_alloc _ o) hgrow).trans (hset.mono (by simp))
set_option maxHeartbeats 16000000 in
set_option maxRecDepth 100000 in
theorem rterm_named {rb : Nat} {l : List Tok} (hl : l.length ≤ 1073741823) {n : Nat} (ih : RTermOK rb l n) {u : Unit} {t : Tok} {r : List Tok} {w : World} (h : RSt rb l w (.ok u (t :: r))) (hrn : r.length ≤ n) (hnm : t.named = true) :
    Calls Tryz.prog 170 #[.pointer (some ⟨rb, 0, none⟩)] w (RPost isEx' rb l w (rTerm (t :: r))) := by
  have h2 : t.kind ≠ 2 := fun h2 => by rw [named_two h2] at hnm; cases hnm
  have hl2 : l.length ≤ 1073741824 := by omega
  have HP := Lib.hid (fun w' (hx : Ext w w') => rpeek_any hl2 (h.ext hx))
  obtain ⟨a, c, p, hown, hp, hpk, hsuf, hmove, -⟩ := h.good
  have hlt := hown.lt
  have hsz := (h.toks t (hsuf.subset (by simp))).2.1
  obtain ⟨c1, f1⟩ := hown 1 _ rfl
  obtain ⟨c2, f2⟩ := hown 2 _ rfl
  have HM := Lib.hid hmove
  have HK := Lib.hid (show ((p : Int) + 1) = ((l.length - r.length : Nat) : Int) by have := hsuf.length_le; simp at this; simp at hpk; omega)
  have HR := Lib.hid ((List.suffix_cons t r).trans hsuf)
  have hp1 : (p : Int) + 1 ≤ 1073741824 := by have := hsuf.length_le; simp at this; simp at hpk; omega
  have hrl : r.length + 1 ≤ l.length := by have := hsuf.length_le; simpa using this
  have HE := Lib.hid (show rTerm (t :: r) = match takeS sLpar r with
        | none => .ok (.mk false t.text []) r
        | some r => (rowR rTerm sComma r).bind fun l r' => (mustS sRpar r').map fun _ => .mk false t.text l by rw [rTerm_eq, termStep_cons, if_neg h2, if_pos hnm]; rfl)
  have HNM := Lib.hid (fun w => rnamed_any (w := w) t hsz)
  rw [hnm] at HNM
  have HIH := Lib.hid ih
  clear hown h hmove hpk hsuf hnm ih
  obtain ⟨kd, tx, ta⟩ := t
  simp only at HE hsz
  have q1 : (kd == 2) = false := by rw [beq_eq_false_iff_ne]; exact h2
  clear h2
  simp only [Tok.vals] at HNM
  obtain ⟨W, hW⟩ : ∃ W, W = w.alloc (.cells #[.bool false, .string ⟨#[]⟩, .slice none 0 0] 73) := ⟨_, rfl⟩
  have hx : Ext w W := by rw [hW]; exact ext_alloc _ _
  have hnew : Own W w.heap.size [.bool false, .string ⟨#[]⟩, .slice none 0 0] := by rw [hW]; exact own3 w _ _ _ _
  obtain ⟨i0, hi0, hz0, hz1', hz2'⟩ := info_parts infoEx
  go_enter Tryz.func170, Tryz.ntmps170
  go_upto_region 12 with (first | (rw [← hW]; clear hW; go_at_call 84; refine (HP.out _ hx).mono ?_; rintro e w1 ⟨⟨t2, rfl, -, ht2⟩, hx1⟩; obtain rfl : t2 = ⟨kd, tx, ta⟩ := ht2 _ _ rfl; simp only [Tok.vals]; clear ht2; replace f1 := (hx.trans hx1).frozen c1 f1; replace c1 := (hx.trans hx1).cell c1; replace c2 := (hx.trans hx1).cell c2; replace hnew := hnew.ext hx1; have hlt1 : rb < w1.heap.size := cell_lt c1; have hlt2 := hnew.lt; (obtain ⟨n0, g0⟩ := hnew 0 _ rfl); (obtain ⟨n1, g1⟩ := hnew 1 _ rfl); (obtain ⟨n2, g2⟩ := hnew 2 _ rfl); have hne : w.heap.size ≠ rb := by omega) | (go_at_call 183; refine (HNM.out _).mono ?_; rintro e w2 ⟨rfl, hx2'⟩; have hx2 := (ext_alloc _ _).trans hx2'; (have hne2 : w1.heap.size ≠ rb := by omega); have t1 := (((own3 w1 (.int .i64 kd) (.string tx) (.int .i64 ta) 77).ext hx2') 1 _ rfl).1; clear hx2' n0 n1 n2 g0 g1 g2 hlt1 hlt2; replace f1 := hx2.frozen c1 f1; replace c1 := hx2.cell c1; replace hnew := hnew.ext hx2; have hlt1 : rb < w2.heap.size := cell_lt c1; have hlt2 := hnew.lt))
  have hchV : Chg [rb] w2 (w2.setCell ⟨rb, 1, none⟩ (.int .i64 ((p : Int) + 1))) := (Chg.refl [rb] w2).setCell _ (.inl (by simp))
  have HV := Lib.hid (HM.out w2 (Chg.of_ext ((hx.trans hx1).trans hx2)) r _ HR.out HK.out)
  obtain ⟨V1, hV1⟩ : ∃ V1, V1 = w2.setCell ⟨rb, 1, none⟩ (.int .i64 ((p : Int) + 1)) := ⟨_, rfl⟩
  rw [← hV1] at hchV HV ⊢
  have hz1 := hchV.size
  have hzV : V1.heap.size = w2.heap.size := by rw [hV1]; simp [World.setCell]
  have HZ := Lib.hid hzV
  have hxb := own3 V1 (.bool false) (.string tx) (.slice none 0 0) 73
  have hnV := (hnew.chg hchV (by simpa using hne)).ext (ext_alloc V1 (.cells #[.bool false, .string tx, .slice none 0 0] 73))
  have hcV := HV.out.ext (ext_alloc V1 (.cells #[.bool false, .string tx, .slice none 0 0] 73))
  have hqV : Chg [rb] w (V1.alloc (.cells #[.bool false, .string tx, .slice none 0 0] 73)) := (((Chg.of_ext ((hx.trans hx1).trans hx2)).trans hchV).alloc _)
  rw [hzV] at hxb
  clear hchV HV hV1 hz1 hzV HZ hnew c1 f1 t1 c2 f2
  generalize V1.alloc (.cells #[.bool false, .string tx, .slice none 0 0] 73) = V at *
  have hxn : w2.heap.size ≠ w.heap.size := by omega
  have hwx : w.heap.size < w2.heap.size := hlt2
  clear hx hx1 hx2 hne2 hlt1 hlt2 HP HNM
  generalize w1.heap.size = tb at *
  generalize w2.heap.size = xb at *
  have hcx : rb < xb := by omega
  have hcx' : xb ≠ rb := by omega
  have HT := rtake_any hl2 hcV sLpar
  cases ht : takeS sLpar r with
  | none =>
    rw [ht] at HE
    rw [(takeSt_none ht).1, (takeSt_none ht).2] at HT
    replace HT := Lib.hid HT
    clear ht
    simp only [sLpar] at HT
    go_wp2_with (go_at_call 132; refine (HT.out).mono ?_; rintro e w3 ⟨rfl, hc3, hx3⟩; have hxb3 := hxb.chg hx3 (by simpa using hcx'); have hnV3 := hnV.chg hx3 (by simpa using hne); (obtain ⟨m0, -⟩ := hxb3 0 _ rfl); (obtain ⟨m1, -⟩ := hxb3 1 _ rfl); (obtain ⟨m2, -⟩ := hxb3 2 _ rfl); (obtain ⟨n0, g0⟩ := hnV3 0 _ rfl); (obtain ⟨n1, g1⟩ := hnV3 1 _ rfl); (obtain ⟨n2, g2⟩ := hnV3 2 _ rfl))
    have hres := own_set3 hnV3 (.bool false) (.string tx) (.slice none 0 0)
    have hch := chg_set3 w3 w.heap.size (.bool false) (.string tx) (.slice none 0 0)
    have hcf := hc3.chg hch (by simp; omega)
    have hcq := Chg.drop (T := [rb]) (Below.refl _ _) (((hqV.trans hx3).mono (T := [rb, w.heap.size]) (by simp)).trans (hch.mono (by simp))) (by simp)
    clear hch m0 m1 m2 n0 n1 n2 g0 g1 g2
    generalize ((w3.setCell ⟨w.heap.size, 0, none⟩ (.bool false)).setCell ⟨w.heap.size, 1, none⟩ (.string tx)).setCell ⟨w.heap.size, 2, none⟩ (.slice none 0 0) = W2 at *
    obtain ⟨r0, r1, r2⟩ := own_res3 hres
    refine bodyPost_ret (v := .agg #[.bool false, .string tx, .slice none 0 0]) (by simp [results, Tryz.results170, go_sem, r0, r1, r2]) rfl ⟨hcq, ?_⟩
    rw [HE.out]
    exact ⟨hcf, _, _, rfl, ⟨_, _, _, rfl, ex_leaf false hsz⟩, fun x r he => by injection he⟩
  | some r1 =>
    have hr1 := takeS_lt ht
    rw [ht] at HE
    rw [(takeSt_some ht).1, (takeSt_some ht).2] at HT
    replace HT := Lib.hid HT
    simp only at HE
    clear ht
    simp only [sLpar] at HT
    have HTT := Lib.hid (fun w' (h : RSt rb l w' (.ok () r1)) => HIH.out r1 () (by omega) w' h)
    unfold RPost at HTT
    go_upto_region 14 with (go_at_call 132; refine (HT.out).mono ?_; rintro e w3 ⟨rfl, hc3, hx3⟩)
    have hxb3 := hxb.chg hx3 (by simpa using hcx')
    have hnV3 := hnV.chg hx3 (by simpa using hne)
    have hq3 := hqV.trans hx3
    have hxl := hxb3.lt
    clear hxb hnV hcV hqV hx3 HT
    obtain ⟨p2, y2⟩ := hxb3 2 _ rfl
    have hrow : GRow (eltDat 3) 73 w3.heap.size w3 (.slice none 0 0) (([] : List Ex).map Ex.dat) := GRow.nil
    have hrbl := hc3.lt
    go_cut [] from 46 to 52 (fun wx => ∃ g, RTRel rb l w3 w3.heap.size xb w.heap.size tx (r1.length + 1) (rowR rTerm sComma r1) g wx)
    case first =>
      go_region_law ((first
        | (go_simp; go_at_call 170; refine (HTT.out _ (hc3.ext (Ext.drew (Below.refl _ w3)))).mono ?_; rintro e w4 ⟨hx4', hst4, v4, x4, rfl, ⟨xa, xv, xc, rfl, hex⟩, hval⟩; (have hx4 : Chg [rb] w3 w4 := (Chg.of_ext (Ext.drew (Below.refl _ w3))).trans hx4'); (have hrow4 := hrow.chg hx4 (by simpa using hrbl)); (obtain ⟨d1, e1, rfl, rfl, rfl, -⟩ := hex.form); (have d5 := hx4.cell p2 (by simpa using hcx')); (have d6 := hx4.frozen p2 (by simpa using hcx') y2); (have d7 := (ext_alloc w4 (.cells #[.bool x4.var, .string x4.name, .slice d1 x4.args.length e1] 73)).cell d5); (try simp only []))
        | (refine step_append_row rfl (.tmp 47) (.tmp 50) _ rfl 73 i0 _ 48 Tryz.underlying26 hi0 hz0 hz1' hz2' rfl (by decide) w3.heap.size (.slice none 0 0) (([] : List Ex).map Ex.dat) (by rfl) w4 hrow4 (ext_alloc _ _) w4.heap.size (by rfl) _ _ (heap_alloc_new _ _) x4.dat (ex_el (hex.ext (ext_alloc _ _)) fun g hg hlt => (show w3.heap.size ≤ g ∧ (Value.slice none 0 0).ownBlock ≠ some g from ⟨by have : w3.drew.heap.size ≤ g := hg; simpa using this, fun e => by cases e⟩)) (by decide) (by decide) (by have := hx4.size; simp; omega) ?_; intro g cap w5 hrow5 hgrow hat hlt5; (have hfar : (some (⟨xb, 2, none⟩ : Addr).block) ≠ (Value.slice none 0 0).ownBlock := fun e => by cases e); (have hlt6 : (⟨xb, 2, none⟩ : Addr).block < (w4.alloc (.cells #[.bool x4.var, .string x4.name, .slice d1 x4.args.length e1] 73)).heap.size := Nat.lt_of_lt_of_le (cell_lt d5) (ext_alloc w4 _).size); (have e5 := (hgrow.cell_far ⟨xb, 2, none⟩ hlt6 hfar).trans ((ext_alloc w4 _).cell d5)); (have e6 := (hgrow.frozen_far ⟨xb, 2, none⟩ hlt6 hfar).trans ((ext_alloc w4 _).frozen d5 d6)))))
      all_goals
        go_wp2_with fail
        go_meet
        exact ⟨_, rt_rel (pre := []) (Chg.refl _ _) hx4 hst4 hrow4 hxb3 hnV3 hgrow hrow5 hcx hxl (by omega) (Ne.symm hxn) hne (Nat.le_refl _) (by have := st_left (rTerm_shrinks _) (Nat.le_refl r1.length); simp; omega) (row_first hval)⟩
    case rest =>
      generalize wc = w6 at hcut ⊢
      obtain ⟨g6, hr6⟩ := hcut
      have HC6 := Lib.hid hr6
      clear hr6
      obtain ⟨B, hB⟩ : ∃ B, B = w3.heap.size := ⟨_, rfl⟩
      rw [← hB] at HC6 hxl
      have hB1 : w3.heap.size ≤ B := by omega
      have hB0 : B ≤ w3.heap.size := by omega
      have hB2 : w.heap.size < B := by omega
      clear hB hc3 hxb3 hnV3 p2 y2 hrow hrbl HTT
      go_wp2_with fail
      go_loopg [] g6 (fun g wr => RTRel rb l w3 B xb w.heap.size tx (r1.length + 1) (rowR rTerm sComma r1) g wr)
      case atStart => exact HC6.out
      case round =>
        obtain ⟨st, pre, vv, hg, hst, hrow, hxb, hnb, hq, hlen, hA⟩ := hrel
        have HG := Lib.hid hg
        have HA := Lib.hid hA
        have HML := Lib.hid (show (pre.map Ex.dat).length = pre.length by simp)
        obtain ⟨va, vc, hv, hvc⟩ := hrow.form
        rw [HML.out] at hv hvc
        subst hv
        clear hg hA HC6
        have HT := rtake_any hl2 hst sComma
        have hpl : pre.length ≤ 1073741823 := by omega
        cases hb : takeB sComma st with
        | false =>
          obtain ⟨hA, hS⟩ := row_end rTerm_shrinks HA.out hb
          have HA2 := Lib.hid hA
          rw [hb, hS] at HT
          replace HT := Lib.hid HT
          clear hA hS hb
          simp only [sComma] at HT
          have HM2 := Lib.hid (fun w' (h : RSt rb l w' st) => rmust_any hl2 h sRpar)
          simp only [sRpar] at HM2
          obtain ⟨oa, oc, ho, hoc, hod⟩ := GRow.dat (by decide) hrow
          rw [HML.out] at ho hoc
          injection ho with e1 _ e3
          subst e1; subst e3
          have hxl2 := hxb.lt
          have hdat : Dat.Rows (fun g => B ≤ g) wr va (pre.map Ex.dat) := hod
          clear hod hoc
          go_wp2_with (first | (go_at_call 132; refine (HT.out).mono ?_; rintro e w7 ⟨rfl, hc7, hx7⟩) | (go_at_call 134; refine (HM2.out _ hc7).mono ?_; rintro e w8 ⟨rfl, hc8, hx8⟩; have hxb8 := (hxb.chg hx7 (by simpa using hcx')).chg hx8 (by simpa using hcx'); have hnb8 := (hnb.chg hx7 (by simpa using hne)).chg hx8 (by simpa using hne); (obtain ⟨m0, -⟩ := hxb8 0 _ rfl); (obtain ⟨m1, -⟩ := hxb8 1 _ rfl); (obtain ⟨m2, -⟩ := hxb8 2 _ rfl); (obtain ⟨n0, g0⟩ := hnb8 0 _ rfl); (obtain ⟨n1, g1⟩ := hnb8 1 _ rfl); (obtain ⟨n2, g2⟩ := hnb8 2 _ rfl)))
          have hres := own_set3 hnb8 (.bool false) (.string tx) (.slice va pre.length vc)
          have hch := chg_set3 w8 w.heap.size (.bool false) (.string tx) (.slice va pre.length vc)
          have hcf := hc8.chg hch (by simp; omega)
          have h78 : Chg [rb, w.heap.size] wr _ := ((hx7.trans hx8).mono (T := [rb, w.heap.size]) (by simp)).trans (hch.mono (by simp))
          have hcq := Chg.drop (T := [rb]) (Below.refl _ _) ((((hq3.mono (T := [rb, xb, w.heap.size]) (by simp)).trans (hq.mono (by simp))).trans (h78.mono (by simp)))) (by simp; omega)
          have hdat' := Dat.Rows.mono (Dat.Rows.chg hdat h78 (fun b hb => by simp; omega)) (Q := fun g => w.heap.size ≤ g) (fun b hb _ => by omega)
          clear hch m0 m1 m2 n0 n1 n2 g0 g1 g2 h78
          generalize ((w8.setCell ⟨w.heap.size, 0, none⟩ (.bool false)).setCell ⟨w.heap.size, 1, none⟩ (.string tx)).setCell ⟨w.heap.size, 2, none⟩ (.slice va pre.length vc) = W2 at *
          obtain ⟨r0, r1', r2⟩ := own_res3 hres
          refine bodyPost_ret (v := .agg #[.bool false, .string tx, .slice va pre.length vc]) (by simp [results, Tryz.results170, go_sem, r0, r1', r2]) rfl ⟨hcq, ?_⟩
          rw [HE.out, HA2.out]
          refine ⟨?_, _, .mk false tx pre, rfl, ⟨_, _, _, rfl, IsEx.mk' hsz hvc (by unfold IsExs; rw [Ex.dats_map]; exact hdat')⟩, fun x k he => ?_⟩
          · cases st with
            | bad k => exact hcf
            | ok u k =>
              simp only [Rd.map_ok, Rd.bind_ok] at hcf ⊢
              cases hm : mustS sRpar k with
              | bad k2 => simp only [sRpar] at hm; rw [hm] at hcf; exact hcf
              | ok u2 k2 => simp only [sRpar] at hm; rw [hm] at hcf; exact hcf
          · cases st with
            | bad k => cases he
            | ok u k =>
              simp only [Rd.map_ok, Rd.bind_ok] at he
              cases hm : mustS sRpar k with
              | bad k2 => rw [hm] at he; cases he
              | ok u2 k2 => rw [hm] at he; injection he
        | true =>
          obtain ⟨r2, r3, rfl, ht, hS, hr3⟩ := take_true hb
          rw [hb, hS] at HT
          replace HT := Lib.hid HT
          clear hS hb
          simp only [sComma] at HT
          have HTT := Lib.hid (fun w' (h : RSt rb l w' (.ok () r3)) => HIH.out r3 () (by simp only [toGo] at hlen; omega) w' h)
          unfold RPost at HTT
          have HAT := Lib.hid ht
          have hlen2 : pre.length + (r2.length + 1) ≤ r1.length + 1 := hlen
          have HG2 := Lib.hid (show _ = r2.length + 1 from HG.out)
          clear ht hlen HG
          go_upto_region 16 with (go_at_call 132; refine (HT.out).mono ?_; rintro e w7 ⟨rfl, hc7, hx7⟩)
          have hxb7 := hxb.chg hx7 (by simpa using hcx')
          have hnb7 := hnb.chg hx7 (by simpa using hne)
          have hrow7 := hrow.chg hx7 (by simp; omega)
          have hq7 := hq.trans (hx7.mono (T := [rb, xb]) (by simp))
          have hsz7 := hq7.size
          have hown2 : ∀ g, (Value.slice va pre.length vc).ownBlock = some g → B ≤ g ∧ g < w7.heap.size := fun g hg => hrow7.own_ge hg
          obtain ⟨p2, y2⟩ := hxb7 2 _ rfl
          clear hxb hnb hrow hq hst hx7 HT
          go_region_law ((first
            | (go_simp; go_at_call 170; refine (HTT.out _ (hc7.ext (Ext.drew (Below.refl _ w7)))).mono ?_; rintro e w4 ⟨hx4', hst4, v4, x4, rfl, ⟨xa, xv, xc, rfl, hex⟩, hval⟩; (have hx4 : Chg [rb] w7 w4 := (Chg.of_ext (Ext.drew (Below.refl _ w7))).trans hx4'); (have hrow4 := hrow7.chg hx4 (by simp; omega)); (obtain ⟨d1, e1, rfl, rfl, rfl, -⟩ := hex.form); (have d5 := hx4.cell p2 (by simpa using hcx')); (have d6 := hx4.frozen p2 (by simpa using hcx') y2); (have d7 := (ext_alloc w4 (.cells #[.bool x4.var, .string x4.name, .slice d1 x4.args.length e1] 73)).cell d5); (try simp only []))
            | (refine step_append_row rfl (.tmp 56) (.tmp 59) _ rfl 73 i0 _ 48 Tryz.underlying26 hi0 hz0 hz1' hz2' rfl (by decide) B (.slice va pre.length vc) (pre.map Ex.dat) (by rfl) w4 hrow4 (ext_alloc _ _) w4.heap.size (by rfl) _ _ (heap_alloc_new _ _) x4.dat (ex_el (hex.ext (ext_alloc _ _)) fun g hg hlt => (show B ≤ g ∧ (Value.slice va pre.length vc).ownBlock ≠ some g from ⟨by have h2 : w7.drew.heap.size ≤ g := hg; simp at h2; omega, fun e => by have h1 := hown2 g e; have h2 : w7.drew.heap.size ≤ g := hg; simp at h2; omega⟩)) (by rw [HML.out]; simp only [maxLen]; omega) (by rw [HML.out]; omega) (by have := hx4.size; simp; omega) ?_; intro g5 cap w5 hrow5 hgrow hat hlt5; rw [HML.out] at hrow5 ⊢; (have hfar : (some (⟨xb, 2, none⟩ : Addr).block) ≠ (Value.slice va pre.length vc).ownBlock := fun e => by have := hown2 _ e.symm; simp only at this; omega); (have hlt6 : (⟨xb, 2, none⟩ : Addr).block < (w4.alloc (.cells #[.bool x4.var, .string x4.name, .slice d1 x4.args.length e1] 73)).heap.size := Nat.lt_of_lt_of_le (cell_lt d5) (ext_alloc w4 _).size); (have e5 := (hgrow.cell_far ⟨xb, 2, none⟩ hlt6 hfar).trans ((ext_alloc w4 _).cell d5)); (have e6 := (hgrow.frozen_far ⟨xb, 2, none⟩ hlt6 hfar).trans ((ext_alloc w4 _).frozen d5 d6)))))
          all_goals
            go_wp2_with fail
            go_roundg (toGo (rTerm r3).st)
            case measure => have := HG2.out; have := st_left (rTerm_shrinks _) (Nat.le_refl r3.length); go_light; omega
            case rel => exact rt_rel hq7 hx4 hst4 hrow4 hxb7 hnb7 hgrow hrow5 hcx hxl hB2 (Ne.symm hxn) hne hB1 (by have := st_left (rTerm_shrinks _) (Nat.le_refl r3.length); omega) (row_next rTerm_shrinks HA.out HAT.out hval)
theorem rterm_any {rb : Nat} {l : List Tok} (hl : l.length ≤ 1073741823) : ∀ n, RTermOK rb l n
  | 0 => fun ks u hk w h => by
    have : ks = [] := List.eq_nil_of_length_eq_zero (by omega)
    subst this
    exact rterm_bad (by omega) h (by decide) rfl
  | n + 1 => fun ks u hk w h => by
    by_cases h2 : (peekT ks).kind = 2
    · cases ks with
      | nil => exact absurd h2 (by decide)
      | cons t r => exact rterm_var (by omega) h h2
    · cases hn : (peekT ks).named with
      | false => exact rterm_bad (by omega) h h2 hn
      | true =>
        cases ks with
        | nil => exact absurd hn (by decide)
        | cons t r => exact rterm_named hl (rterm_any hl n) h (by simpa using hk) hn
end Go.Proofs.YtnclgkdpafhogaaGreat
namespace Go.Proofs.YtnclgkdpafhogaaGreat
open Go.ChangeShapes Go.WideShapes Go.ChangeAt Go.RowKit
theorem addr_add (b o j : Nat) : (⟨b, o, none⟩ : Addr).add j = ⟨b, o + j, none⟩ := by unfold Addr.add; split <;> simp_all
/-- the cells of a row, one behind the other -/
theorem Dat.Rows.cells {P : Nat → Prop} {w : World} {m : Nat} : ∀ {L : List (List Dat)} {b o : Nat}, Dat.Rows P w (some ⟨b, o, none⟩) L → (∀ e ∈ L, e.length = m) →
    ∃ css : List (List Value), css.length = L.length ∧ (∀ j (h : j < css.length) (h' : j < L.length), Dat.Fs P w css[j] L[j]) ∧ (∀ c ∈ css, c.length = m) ∧ ∀ j u, css.flatten[j]? = some u → w.cell? ⟨b, o + j, none⟩ = some u
  | [], _, _, _, _ => ⟨[], rfl, fun j h => by simp at h, by simp, fun j u h => by simp at h⟩
  | e :: L, b, o, h, hm => by
    obtain ⟨b', o', vs, h1, -, -, h2, h3, h4⟩ := h
    injection h1 with h1
    injection h1 with e1 e2 _
    subst e1; subst e2
    have he := hm e (by simp)
    obtain ⟨css, g1, g2, g3, g4⟩ := Dat.Rows.cells h4 (fun x hx => hm x (by simp [hx]))
    have hv : vs.length = m := by rw [h3.length, he]
    refine ⟨vs :: css, by simp [g1], fun j hj hj' => ?_, fun c hc => ?_, fun j u hu => ?_⟩
    · cases j with
      | zero => exact h3
      | succ j => exact g2 j (by simpa using hj) (by simpa using hj')
    · rcases List.mem_cons.1 hc with rfl | hc
      · exact hv
      · exact g3 c hc
    · rw [List.flatten_cons] at hu
      rcases Nat.lt_or_ge j vs.length with hj | hj
      · rw [List.getElem?_append_left hj] at hu; exact h2 j u hu
      · rw [List.getElem?_append_right hj] at hu
        have := g4 _ _ hu
        rw [he, show o + m + (j - vs.length) = o + j by omega] at this
        exact this
/-- a row whose cells are another one's -/
theorem Dat.Rows.copied {P : Nat → Prop} {w w' : World} {m e B n : Nat} {v : Value} {L : List (List Dat)} {css : List (List Value)} (hm : 0 < m) (hc : css.length = L.length) (hf : ∀ j (h : j < css.length) (h' : j < L.length), Dat.Fs P w css[j] L[j]) (hl : ∀ c ∈ css, c.length = m)
    (ho : w'.ownsRow B e m v n css.flatten) (hn : n = L.length) (h0 : 0 < n) (hx : Ext w w') : ∃ a c, v = .slice a n c ∧ n ≤ c ∧ Dat.Rows (fun g => P g ∨ B ≤ g) w' a L := by
  obtain ⟨g, cap, rfl, hb, hlt⟩ := ho.form h0
  have hcap : n ≤ cap := by
    rcases ho.2 with ⟨h1, -⟩ | ⟨g', cap', cur, h1, -, -, h4, -⟩
    · cases h1
    · injection h1 with _ _ h1; subst h1; exact h4
  refine ⟨_, _, rfl, hcap, ?_⟩
  have hlen : ∀ e ∈ L, e.length = m := by
    intro x hx
    obtain ⟨i, hi, rfl⟩ := List.getElem_of_mem hx
    rw [← (hf i (by omega) hi).length]
    exact hl _ (List.getElem_mem _)
  refine Dat.Rows.of_at (.inr hb) hm hlen fun i hi => ⟨css[i]'(by omega), fun j u hu => ?_, ((hf i (by omega) hi).ext hx).mono fun b hb _ => .inl hb⟩
  have hj : j < m := by
    have := hl _ (List.getElem_mem (show i < css.length by omega))
    rcases Nat.lt_or_ge j (css[i]'(by omega)).length with h1 | h1
    · omega
    · rw [List.getElem?_eq_none h1] at hu; cases hu
  have := ho.cells (g := g) rfl (i * m + j) u (by rw [flatten_at css hl i (by omega) j hj]; exact hu)
  rw [addr_add] at this
  simpa using this
theorem Dat.Fs.flat_one {P : Nat → Prop} {w : World} {L : List (List Dat)} {css : List (List Value)} (hc : css.length = L.length) (hf : ∀ j (h : j < css.length) (h' : j < L.length), Dat.Fs P w css[j] L[j]) : ∀ u ∈ css.flatten, u.oneCell' = true := by
  intro u hu
  obtain ⟨c, hc1, hu⟩ := List.mem_flatten.1 hu
  obtain ⟨j, hj, rfl⟩ := List.getElem_of_mem hc1
  exact (hf j hj (by omega)).one u hu
theorem flat_len {css : List (List Value)} {m : Nat} (hl : ∀ c ∈ css, c.length = m) : css.flatten.length = css.length * m := by
  induction css with
  | nil => simp
  | cons c css ih =>
    rw [List.flatten_cons, List.length_append, hl c (by simp), ih (fun x hx => hl x (by simp [hx])), List.length_cons, Nat.add_mul]; omega
set_option maxHeartbeats 2000000 in
set_option maxRecDepth 100000 in
theorem rof_any (op : Int) {P : Nat → Prop} {l : List Fm} {w : World} {a : Option Addr} {c : Nat} (h : IsFms P w a l) (hl : l.length ≤ 1073741824) :
    Calls Tryz.prog 86 #[.int .i64 op, .slice a l.length c] w fun e w' => (∃ a' c', e = .returned (.agg #[.int .i64 op, .slice none 0 0, .slice none 0 0, .slice a' l.length c']) ∧ l.length ≤ c' ∧ IsFms (fun g => P g ∨ w.heap.size ≤ g) w' a' l) ∧ Ext w w' := by
  obtain ⟨W, hW⟩ : ∃ W, W = w.alloc (.cells #[.int .i64 0, .slice none 0 0, .slice none 0 0, .slice none 0 0] 29) := ⟨_, rfl⟩
  have hx : Ext w W := by rw [hW]; exact ext_alloc _ _
  have hnew : Own W w.heap.size [.int .i64 0, .slice none 0 0, .slice none 0 0, .slice none 0 0] := by rw [hW]; exact own4 w _ _ _ _ _
  have hsW : w.heap.size < W.heap.size := hnew.lt
  rcases Nat.eq_zero_or_pos l.length with h0 | h0
  · have hl0 : l = [] := List.length_eq_zero_iff.1 h0
    subst hl0
    obtain ⟨j0, hj0, jz0, jz1', jz2'⟩ := info_parts infoFm
    clear h0
    simp only [List.length_nil]
    subst hW
    cases a with
    | none =>
      have hap : ∀ w, (Builtin.append_ #[27, 27] 27 #[.slice none 0 0, .slice none 0 c]).run Tryz.prog w = .ok (.slice none 0 0) w := fun w => by
        simp [Builtin.append_, run_underlying Tryz.underlying27, sizeOf, typeInfo, hj0, Builtin.lenOf, Builtin.firstCells]
      go_enter Tryz.func86, Tryz.ntmps86
      go_wp2
      refine bodyPost_ret (v := .agg #[.int .i64 op, .slice none 0 0, .slice none 0 0, .slice none 0 0]) (by simp [results, Tryz.results86, go_sem]) rfl ?_
      exact ⟨⟨none, 0, rfl, Nat.le_refl _, fms_nil⟩, ext_alloc _ _⟩
    | some ad =>
      have hap : ∀ w, (Builtin.append_ #[27, 27] 27 #[.slice none 0 0, .slice (some ad) 0 c]).run Tryz.prog w = .ok (.slice none 0 0) w := fun w => by
        simp [Builtin.append_, run_underlying Tryz.underlying27, sizeOf, typeInfo, hj0, Builtin.lenOf, Builtin.firstCells]
        rfl
      go_enter Tryz.func86, Tryz.ntmps86
      go_wp2
      refine bodyPost_ret (v := .agg #[.int .i64 op, .slice none 0 0, .slice none 0 0, .slice none 0 0]) (by simp [results, Tryz.results86, go_sem]) rfl ?_
      exact ⟨⟨none, 0, rfl, Nat.le_refl _, fms_nil⟩, ext_alloc _ _⟩
  · have hlen : (Fm.dats l).length = l.length := by rw [Fm.dats_map, List.length_map]
    replace h : Dat.Rows (fun g => P g ∧ g < w.heap.size) w a (Fm.dats l) := Dat.Rows.mono h fun g hg hlt => ⟨hg, hlt⟩
    obtain ⟨b, o, rfl, hb⟩ := Dat.Rows.addr h (by omega)
    obtain ⟨css, k1, k2, k3, k4⟩ := Dat.Rows.cells (m := 4) h (fun e he => by rw [Fm.dats_map] at he; obtain ⟨x, -, rfl⟩ := List.mem_map.1 he; exact x.dat_length)
    have hfl : css.flatten.length = l.length * 4 := by rw [flat_len k3, k1, hlen]
    have HC := Lib.hid (fun j u hu => (by rw [addr_add]; exact hx.cell (k4 j u hu) : W.cell? ((⟨b, o, none⟩ : Addr).add j) = some u))
    have H1 := Lib.hid (Dat.Fs.flat_one k1 k2)
    obtain ⟨j0, hj0, jz0, jz1', jz2'⟩ := info_parts infoFm
    have HK := Lib.hid (And.intro k1 (And.intro k2 k3))
    have HFL := Lib.hid hfl
    have hpos : 0 < l.length := h0
    have HLen := Lib.hid hlen
    clear k1 k2 k3 k4 h h0 hfl hlen
    go_enter Tryz.func86, Tryz.ntmps86
    go_wp2_with (first | (at_builtin; rw [← hW]; refine wpList_append_lies _ rfl _ _ _ rfl W.heap.size 29 j0 _ 4 80 Tryz.underlying27 hj0 jz0 jz1' jz2' rfl (by decide) (.slice none 0 0) 0 [] rfl (World.ownsRow_nil _ _ _ _) ⟨b, o, none⟩ l.length c css.flatten rfl HFL.out HC.out H1.out hpos (by simp only [maxLen]; omega) (by omega) (Nat.le_refl _) _ rfl ?_; intro g cap w2 hown2 hgrow hat hlt; have hx2 : Ext W w2 := ⟨hgrow.os, hgrow.tape, hgrow.output, hgrow.size, fun k hk => hgrow.block k hk (by simp [Value.ownBlock])⟩; have hn2 := hnew.ext hx2; (obtain ⟨⟨n0, g0⟩, ⟨n1, g1⟩, ⟨n2, g2⟩, ⟨n3, g3⟩⟩ := hn2.cells4); simp only [Nat.zero_add, List.nil_append] at hown2 ⊢))
    have hres := own_set4 hn2 (.int .i64 op) (.slice none 0 0) (.slice none 0 0) (.slice (some ⟨g, 0, none⟩) l.length cap)
    have hch := chg_set4 w2 w.heap.size (.int .i64 op) (.slice none 0 0) (.slice none 0 0) (.slice (some ⟨g, 0, none⟩) l.length cap)
    obtain ⟨q1, q2, q3⟩ := HK.out
    obtain ⟨a2, c2, hv, hc2, hrows⟩ := Dat.Rows.copied (by decide) q1 q2 q3 hown2 HLen.out.symm hpos (hx.trans hx2)
    injection hv with e1 _ e3
    subst e1; subst e3
    clear n0 n1 n2 n3 g0 g1 g2 g3
    obtain ⟨r0, r1, r2, r3⟩ := own_res4 hres
    refine bodyPost_ret (v := .agg #[.int .i64 op, .slice none 0 0, .slice none 0 0, .slice (some ⟨g, 0, none⟩) l.length cap]) (by simp [results, Tryz.results86, go_sem, r0, r1, r2, r3]) rfl ?_
    exact ⟨⟨_, _, rfl, hc2, Dat.Rows.mono (Dat.Rows.chg hrows hch (fun g hg => by simp; rcases hg with h1 | h1 <;> omega)) fun g hg _ => hg.imp (fun h => h.1) fun h => by omega⟩, Chg.ext (hx.trans hx2) hch (by simp)⟩
end Go.Proofs.YtnclgkdpafhogaaGreat
namespace Go.Proofs.YtnclgkdpafhogaaGreat
open Go.ChangeShapes Go.WideShapes Go.ChangeAt Go.RowKit
def RUnitOK (rb : Nat) (l : List Tok) (n : Nat) : Prop := ∀ st, toGo st ≤ n + 1 → ∀ w, RSt rb l w st → Calls Tryz.prog 83 #[.pointer (some ⟨rb, 0, none⟩)] w (RPost isFm' rb l w (st.bind fun _ ks => rUnit ks))
theorem row_first_st {α : Type} {one : List Tok → Rd α} {sep : ByteArray} {st : Rd Unit} {x' : α} (hv : ∀ x r, (st.bind fun _ ks => one ks) = .ok x r → x' = x) : (st.bind fun _ r => rowR one sep r) = (st.bind fun _ ks => one ks).st.bind fun _ r => (more one sep r).map ([x'] ++ ·) := by
  cases st with
  | bad r => rfl
  | ok u r => exact row_first hv
theorem left_bind {α : Type} {one : List Tok → Rd α} {st : Rd Unit} (hs : ∀ n, Shrinks one n) : toGo (st.bind fun _ ks => one ks).st + 1 ≤ toGo st ∨ toGo (st.bind fun _ ks => one ks).st = 0 := by
  cases st with
  | bad r => exact .inr rfl
  | ok u r =>
    simp only [Rd.bind_ok]
    cases h : one r with
    | bad r => exact .inr rfl
    | ok x k => have := hs _ r x k (Nat.le_refl _) h; exact .inl (by simp only [Rd.st, toGo]; omega)
theorem left_must {s : ByteArray} {st : Rd Unit} : toGo (st.bind fun _ ks => mustS s ks) ≤ toGo st := by
  cases st with
  | bad r => exact Nat.le_refl _
  | ok u r =>
    simp only [Rd.bind_ok]
    cases h : mustS s r with
    | bad r => exact Nat.zero_le _
    | ok x k => have := mustS_lt h; simp only [toGo]; omega
/-- a struct of four cells has been put into the result, a new block -/
theorem rfin4 {rb nb : Nat} {l : List Tok} {st : Rd Unit} {w w2 : World} {z0 z1 z2 z3 x0 x1 x2 x3 : Value} {fn : Func} {R : Ending → World → Prop} {a : Act} (hq : Chg [rb] w w2) (hnb : w.heap.size ≤ nb) (hcb : rb < nb) (hc : RSt rb l w2 st) (hn : Own w2 nb [z0, z1, z2, z3])
    (hr : ∀ W2 : World, W2.cell? ⟨nb, 0, none⟩ = some x0 → W2.cell? ⟨nb, 1, none⟩ = some x1 → W2.cell? ⟨nb, 2, none⟩ = some x2 → W2.cell? ⟨nb, 3, none⟩ = some x3 → (results fn a.tmps).run Tryz.prog W2 = .ok (.agg #[x0, x1, x2, x3]) W2)
    (hd : a.defers = []) (hR : ∀ W2, RSt rb l W2 st → Chg [rb] w W2 → Chg [nb] w2 W2 → R (.returned (.agg #[x0, x1, x2, x3])) W2) :
    bodyPost Tryz.prog fn R .ret a ((((w2.setCell ⟨nb, 0, none⟩ x0).setCell ⟨nb, 1, none⟩ x1).setCell ⟨nb, 2, none⟩ x2).setCell ⟨nb, 3, none⟩ x3) := by
  have hres := own_set4 hn x0 x1 x2 x3
  have hch := chg_set4 w2 nb x0 x1 x2 x3
  have hcq := Chg.drop (T := [rb]) (Below.refl _ _) ((hq.mono (T := [rb, nb]) (by simp)).trans (hch.mono (by simp))) (by simp; omega)
  obtain ⟨r0, r1, r2, r3⟩ := own_res4 hres
  exact bodyPost_ret (hr _ r0 r1 r2 r3) hd (hR _ (hc.chg hch (by simpa using hcb)) hcq hch)
/-- between two names: what the reader's block, the formula's, the result's hold -/
def RBRel (rb : Nat) (l : List Tok) (V : World) (B xb nb : Nat) (op : Int) (m : Nat) (A : Rd (List ByteArray)) (g : Nat) (wr : World) : Prop :=
  ∃ (st : Rd Unit) (pre : List ByteArray) (vv : Value), g = toGo st ∧ RSt rb l wr st ∧ GRow (eltDat 1) 9 B wr vv (pre.map strDat) ∧ Own wr xb [.int .i64 op, vv, .slice none 0 0, .slice none 0 0] ∧ Own wr nb [.int .i64 0, .slice none 0 0, .slice none 0 0, .slice none 0 0] ∧ Chg [rb, xb] V wr ∧
    pre.length + toGo st ≤ m ∧ A = st.bind fun _ r => (more (kindK 2) sComma r).map (pre ++ ·)
theorem rb_rel {rb : Nat} {l : List Tok} {V wr w4 w5 : World} {B xb nb : Nat} {op : Int} {m : Nat} {A : Rd (List ByteArray)} {st : Rd Unit} {pre : List ByteArray} {x' : ByteArray} {vv vv' : Value} {o : Obj}
    (hq : Chg [rb, xb] V wr) (hx4 : Chg [rb] wr w4) (hst : RSt rb l w4 st) (hrow4 : GRow (eltDat 1) 9 B w4 vv (pre.map strDat)) (hxb : Own wr xb [.int .i64 op, vv, .slice none 0 0, .slice none 0 0]) (hnb : Own wr nb [.int .i64 0, .slice none 0 0, .slice none 0 0, .slice none 0 0])
    (hgrow : (w4.alloc o).grownBy w5 vv.ownBlock) (hrow5 : GRow (eltDat 1) 9 B w5 vv' (pre.map strDat ++ [strDat x'])) (h1 : rb < xb) (h2 : xb < B) (h3 : nb < B) (h4 : nb ≠ xb) (h5 : nb ≠ rb) (hV : V.heap.size ≤ B)
    (hlen : pre.length + 1 + toGo st ≤ m) (hA : A = st.bind fun _ r => (more (kindK 2) sComma r).map ((pre ++ [x']) ++ ·)) : RBRel rb l V B xb nb op m A (toGo st) (w5.setCell ⟨xb, 1, none⟩ vv') := by
  have hset := (Chg.refl [xb] w5).setCell (p := ⟨xb, 1, none⟩) vv' (.inl (by simp))
  have hnot : ∀ b, b < B → vv.ownBlock ≠ some b := fun b hb e => by have := (hrow4.own_ge e).1; omega
  refine ⟨st, pre ++ [x'], vv', rfl, ((hst.ext (ext_alloc _ o)).append hrow4 (by omega) hgrow).chg hset (by simp; omega), ?_, ?_, ?_, ?_, by simp; omega, hA⟩
  · rw [List.map_append]
    exact hrow5.chg hset (by simp; omega)
  · exact (own_append ((hxb.chg hx4 (by simp; omega)).ext (ext_alloc _ o)) hgrow (hnot _ h2)).set (i := 1) (by simp) vv'
  · exact (own_append ((hnb.chg hx4 (by simpa using h5)).ext (ext_alloc _ o)) hgrow (hnot _ h3)).chg hset (by simpa using h4)
  · exact (chg_append (hq.trans (hx4.mono (by simp))) hrow4 hV (ext_alloc _ o) hgrow).trans (hset.mono (by simp))
set_option maxHeartbeats 16000000 in
set_option maxRecDepth 100000 in
theorem rbound_any {rb : Nat} {l : List Tok} (hl : l.length ≤ 1073741820) {n : Nat} (ih : RUnitOK rb l n) {u : Unit} {ks : List Tok} (hkn : ks.length ≤ n) {w : World} (h : RSt rb l w (.ok u ks)) (op : Int) (h0 : -9223372036854775808 ≤ op) (h0' : op ≤ 9223372036854775807) :
    Calls Tryz.prog 133 #[.pointer (some ⟨rb, 0, none⟩), .int .i64 op] w (RPost isFm' rb l w (boundStep rUnit op ks)) := by
  have hl2 : l.length ≤ 1073741824 := by omega
  have hlt := h.lt
  have hkl : ks.length ≤ l.length := by obtain ⟨_, _, _, _, _, _, hs, _⟩ := h.good; exact hs.length_le
  have HIH := Lib.hid ih
  clear ih
  obtain ⟨W, hW⟩ : ∃ W, W = (w.alloc (.cells #[.int .i64 0, .slice none 0 0, .slice none 0 0, .slice none 0 0] 29)).alloc (.cells #[.int .i64 op, .slice none 0 0, .slice none 0 0, .slice none 0 0] 29) := ⟨_, rfl⟩
  have hx : Ext w W := by rw [hW]; exact (ext_alloc _ _).alloc _
  have hnb0 : Own W w.heap.size [.int .i64 0, .slice none 0 0, .slice none 0 0, .slice none 0 0] := by rw [hW]; exact (own4 w _ _ _ _ _).ext (ext_alloc _ _)
  have hxb0 : Own W (w.heap.size + 1) [.int .i64 op, .slice none 0 0, .slice none 0 0, .slice none 0 0] := by
    rw [hW]; have := own4 (w.alloc (.cells #[.int .i64 0, .slice none 0 0, .slice none 0 0, .slice none 0 0] 29)) (.int .i64 op) (.slice none 0 0) (.slice none 0 0) (.slice none 0 0) 29
    rw [World.size_alloc] at this; exact this
  have hc0 := h.ext hx
  have hq0 : Chg [rb] w W := Chg.of_ext hx
  have HM := Lib.hid (rmust_any hl2 hc0 sLbra)
  simp only [sLbra] at HM
  obtain ⟨i0, hi0, hz0, hz1', hz2'⟩ := info_parts infoStr
  obtain ⟨j0, hj0, jz0, jz1', jz2'⟩ := info_parts infoFm
  have hE1 := Lib.hid (show boundStep rUnit op ks = ((mustS sLbra ks).bind fun _ r1 => rowR (kindK 2) sComma r1).bind fun vs r2 => (mustS sRbra r2).bind fun _ r3 => (mustS sColon r3).bind fun _ r4 => (rUnit r4).map fun f => .mk op vs [] [f] by
    unfold boundStep
    cases mustS sLbra ks <;> rfl)
  clear h hc0
  go_enter Tryz.func133, Tryz.ntmps133
  go_upto_region 3 with (rw [← hW]; clear hW; go_at_call 134; refine (HM.out).mono ?_; rintro e w1 ⟨rfl, hc1, hx1⟩)
  obtain ⟨nb, hnb⟩ : ∃ nb, nb = w.heap.size := ⟨_, rfl⟩
  obtain ⟨xb, hxb⟩ : ∃ xb, xb = w.heap.size + 1 := ⟨_, rfl⟩
  rw [← hxb] at hxb0
  rw [← hnb] at hnb0
  rw [← hxb, ← hnb]
  have hwn : w.heap.size ≤ nb := by omega
  have hwx : w.heap.size ≤ xb := by omega
  have hnc : nb ≠ rb := by omega
  have hxc : xb ≠ rb := by omega
  have hxn : nb ≠ xb := by omega
  have hrx : rb < xb := by omega
  have hrn : rb < nb := by omega
  clear hnb hxb hx
  have hq1 := hq0.trans hx1
  have hn1 := hnb0.chg hx1 (by simpa using hnc)
  have hx1b := hxb0.chg hx1 (by simpa using hxc)
  have hc1 : RSt rb l w1 (mustS sLbra ks) := hc1
  have hlm : toGo (mustS sLbra ks) ≤ ks.length := by
    cases hm : mustS sLbra ks with
    | bad r => exact Nat.zero_le _
    | ok u r => have := mustS_lt hm; simp only [toGo]; omega
  clear hx1 hq0 hnb0 hxb0 HM
  have HU := Lib.hid (fun w' (h : RSt rb l w' (mustS sLbra ks)) => rupper_any hl2 h)
  unfold RPost at HU
  generalize mustS sLbra ks = s1 at *
  obtain ⟨p2, y2⟩ := hx1b 1 _ rfl
  have hrow : GRow (eltDat 1) 9 w1.heap.size w1 (.slice none 0 0) (([] : List ByteArray).map strDat) := GRow.nil
  have hrbl := hc1.lt
  have hxl := hx1b.lt
  have hnl := hn1.lt
  go_cut [] from 10 to 16 (fun wx => ∃ g, RBRel rb l w1 w1.heap.size xb nb op (ks.length + 1) (s1.bind fun _ r1 => rowR (kindK 2) sComma r1) g wx)
  case first =>
    go_region_law ((first
      | (go_simp; go_at_call 169; refine (HU.out _ (hc1.ext (Ext.drew (Below.refl _ w1)))).mono ?_; rintro e w4 ⟨hx4', hst4, v4, x4, rfl, ⟨rfl, hsz4⟩, hval⟩; (have hx4 : Chg [rb] w1 w4 := (Chg.of_ext (Ext.drew (Below.refl _ w1))).trans hx4'); (have hrow4 := hrow.chg hx4 (by simpa using hrbl)); (have d5 := hx4.cell p2 (by simpa using hxc)); (have d6 := hx4.frozen p2 (by simpa using hxc) y2); (have d7 := (ext_alloc w4 (.cells #[.string x4] 9)).cell d5); (try simp only []))
      | (refine step_append_row rfl (.tmp 11) (.tmp 14) _ rfl 9 i0 _ 16 Tryz.underlying25 hi0 hz0 hz1' hz2' rfl (by decide) w1.heap.size (.slice none 0 0) (([] : List ByteArray).map strDat) (by rfl) w4 hrow4 (ext_alloc _ _) w4.heap.size (by rfl) _ _ (heap_alloc_new _ _) (strDat x4) (str_el hsz4) (by decide) (by decide) (by have := hx4.size; simp; omega) ?_; intro g cap w5 hrow5 hgrow hat hlt5; (have hfar : (some (⟨xb, 1, none⟩ : Addr).block) ≠ (Value.slice none 0 0).ownBlock := fun e => by cases e); (have hlt6 : (⟨xb, 1, none⟩ : Addr).block < (w4.alloc (.cells #[.string x4] 9)).heap.size := Nat.lt_of_lt_of_le (cell_lt d5) (ext_alloc w4 _).size); (have e5 := (hgrow.cell_far ⟨xb, 1, none⟩ hlt6 hfar).trans ((ext_alloc w4 _).cell d5)); (have e6 := (hgrow.frozen_far ⟨xb, 1, none⟩ hlt6 hfar).trans ((ext_alloc w4 _).frozen d5 d6)))))
    all_goals
      go_wp2_with fail
      go_meet
      exact ⟨_, rb_rel (pre := []) (Chg.refl _ _) hx4 hst4 hrow4 hx1b hn1 hgrow hrow5 hrx hxl hnl hxn hnc (Nat.le_refl _) (by have := left_bind (st := s1) (kindK_shrinks 2); simp; omega) (row_first_st hval)⟩
  case rest =>
    generalize wc = w6 at hcut ⊢
    obtain ⟨g6, hr6⟩ := hcut
    have HC6 := Lib.hid hr6
    clear hr6
    obtain ⟨B, hB⟩ : ∃ B, B = w1.heap.size := ⟨_, rfl⟩
    rw [← hB] at HC6 hxl hnl
    have hB1 : w1.heap.size ≤ B := by omega
    have hB0 : B ≤ w1.heap.size := by omega
    clear hB hc1 hx1b hn1 p2 y2 hrow hrbl HU
    go_wp2_with fail
    go_loopg [] g6 (fun g wr => RBRel rb l w1 B xb nb op (ks.length + 1) (s1.bind fun _ r1 => rowR (kindK 2) sComma r1) g wr)
    case atStart => exact HC6.out
    case round =>
      obtain ⟨st, pre, vv, hg, hst, hrow, hxb, hnb, hq, hlen, hA⟩ := hrel
      have HG := Lib.hid hg
      have HA := Lib.hid hA
      have HML := Lib.hid (show (pre.map strDat).length = pre.length by simp)
      obtain ⟨va, vc, hv, hvc⟩ := hrow.form
      rw [HML.out] at hv hvc
      subst hv
      clear hg hA HC6
      have HT := rtake_any hl2 hst sComma
      have hpl : pre.length ≤ 1073741823 := by omega
      cases hb : takeB sComma st with
      | true =>
        obtain ⟨r2, r3, rfl, ht, hS, hr3⟩ := take_true hb
        rw [hb, hS] at HT
        replace HT := Lib.hid HT
        clear hS hb
        simp only [sComma] at HT
        have HTT := Lib.hid (fun w' (h : RSt rb l w' (.ok () r3)) => rupper_any hl2 h)
        unfold RPost at HTT
        simp only [Rd.bind_ok] at HTT
        have HAT := Lib.hid ht
        have hlen2 : pre.length + (r2.length + 1) ≤ ks.length + 1 := hlen
        have HG2 := Lib.hid (show _ = r2.length + 1 from HG.out)
        clear ht hlen HG
        go_upto_region 5 with (go_at_call 132; refine (HT.out).mono ?_; rintro e w7 ⟨rfl, hc7, hx7⟩)
        have hxb7 := hxb.chg hx7 (by simpa using hxc)
        have hnb7 := hnb.chg hx7 (by simpa using hnc)
        have hrow7 := hrow.chg hx7 (by simp; omega)
        have hq7 := hq.trans (hx7.mono (T := [rb, xb]) (by simp))
        have hsz7 := hq7.size
        have hown2 : ∀ g, (Value.slice va pre.length vc).ownBlock = some g → B ≤ g ∧ g < w7.heap.size := fun g hg => hrow7.own_ge hg
        obtain ⟨p2, y2⟩ := hxb7 1 _ rfl
        clear hxb hnb hrow hq hst hx7 HT
        go_region_law ((first
          | (go_simp; go_at_call 169; refine (HTT.out _ (hc7.ext (Ext.drew (Below.refl _ w7)))).mono ?_; rintro e w4 ⟨hx4', hst4, v4, x4, rfl, ⟨rfl, hsz4⟩, hval⟩; (have hx4 : Chg [rb] w7 w4 := (Chg.of_ext (Ext.drew (Below.refl _ w7))).trans hx4'); (have hrow4 := hrow7.chg hx4 (by simp; omega)); (have d5 := hx4.cell p2 (by simpa using hxc)); (have d6 := hx4.frozen p2 (by simpa using hxc) y2); (have d7 := (ext_alloc w4 (.cells #[.string x4] 9)).cell d5); (try simp only []))
          | (refine step_append_row rfl (.tmp 20) (.tmp 23) _ rfl 9 i0 _ 16 Tryz.underlying25 hi0 hz0 hz1' hz2' rfl (by decide) B (.slice va pre.length vc) (pre.map strDat) (by rfl) w4 hrow4 (ext_alloc _ _) w4.heap.size (by rfl) _ _ (heap_alloc_new _ _) (strDat x4) (str_el hsz4) (by rw [HML.out]; simp only [maxLen]; omega) (by rw [HML.out]; omega) (by have := hx4.size; simp; omega) ?_; intro g5 cap w5 hrow5 hgrow hat hlt5; rw [HML.out] at hrow5 ⊢; (have hfar : (some (⟨xb, 1, none⟩ : Addr).block) ≠ (Value.slice va pre.length vc).ownBlock := fun e => by have := hown2 _ e.symm; simp only at this; omega); (have hlt6 : (⟨xb, 1, none⟩ : Addr).block < (w4.alloc (.cells #[.string x4] 9)).heap.size := Nat.lt_of_lt_of_le (cell_lt d5) (ext_alloc w4 _).size); (have e5 := (hgrow.cell_far ⟨xb, 1, none⟩ hlt6 hfar).trans ((ext_alloc w4 _).cell d5)); (have e6 := (hgrow.frozen_far ⟨xb, 1, none⟩ hlt6 hfar).trans ((ext_alloc w4 _).frozen d5 d6)))))
        all_goals
          go_wp2_with fail
          go_roundg (toGo (kindK 2 r3).st)
          case measure => have := HG2.out; have := st_left (kindK_shrinks 2 _) (Nat.le_refl r3.length); go_light; omega
          case rel => exact rb_rel hq7 hx4 hst4 hrow4 hxb7 hnb7 hgrow hrow5 hrx hxl hnl hxn hnc hB1 (by have := st_left (kindK_shrinks 2 _) (Nat.le_refl r3.length); omega) (row_next (kindK_shrinks 2) HA.out HAT.out hval)
      | false =>
        obtain ⟨hA, hS⟩ := row_end (kindK_shrinks 2) HA.out hb
        rw [hb, hS] at HT
        replace HT := Lib.hid HT
        have HE2 := Lib.hid (show boundStep rUnit op ks = (((st.bind fun _ r => mustS sRbra r).bind fun _ r => mustS sColon r).bind fun _ r => rUnit r).map fun f => .mk op pre [] [f] by
          rw [hE1.out, hA]
          cases st with
          | bad r => rfl
          | ok u r =>
            simp only [Rd.map_ok, Rd.bind_ok]
            cases mustS sRbra r with
            | bad r => rfl
            | ok u2 k =>
              simp only [Rd.bind_ok]
              cases mustS sColon k with
              | bad r => rfl
              | ok u3 k2 => rfl)
        clear hA hS hb hE1
        simp only [sComma] at HT
        have HM2 := Lib.hid (fun w' (h : RSt rb l w' st) => rmust_any hl2 h sRbra)
        simp only [sRbra] at HM2
        have HM3 := Lib.hid (fun w' (h : RSt rb l w' (st.bind fun _ r => mustS sRbra r)) => rmust_any hl2 h sColon)
        simp only [sColon] at HM3
        obtain ⟨oa, oc, ho, hoc, hod⟩ := GRow.dat (by decide) hrow
        rw [HML.out] at ho hoc
        injection ho with e1 _ e3
        subst e1; subst e3
        have hxl2 := hxb.lt
        have hdat : IsStrs (fun g => B ≤ g ∧ g < wr.heap.size) wr va pre := Dat.Rows.mono hod fun g hg hlt => ⟨hg, hlt⟩
        clear hod hoc hrow
        go_upto_region 8 with (first | (go_at_call 132; refine (HT.out).mono ?_; rintro e w7 ⟨rfl, hc7, hx7⟩) | (go_at_call 134; refine (HM2.out _ hc7).mono ?_; rintro e w8 ⟨rfl, hc8, hx8⟩) | (go_at_call 134; refine (HM3.out _ hc8).mono ?_; rintro e w9 ⟨rfl, hc9, hx9⟩))
        clear HT HM2 HM3
        have hls : toGo ((st.bind fun _ r => mustS sRbra r).bind fun _ r => mustS sColon r) ≤ n + 1 := by
          have h1 := left_must (s := sRbra) (st := st)
          have h2 := left_must (s := sColon) (st := st.bind fun _ r => mustS sRbra r)
          omega
        have HU := Lib.hid (fun w' (h : RSt rb l w' ((st.bind fun _ r => mustS sRbra r).bind fun _ r => mustS sColon r)) => HIH.out _ hls w' h)
        have hc9 : RSt rb l w9 ((st.bind fun _ r => mustS sRbra r).bind fun _ r => mustS sColon r) := hc9
        clear hls hlen HG
        generalize ((st.bind fun _ r => mustS sRbra r).bind fun _ r => mustS sColon r) = s5 at *
        unfold RPost at HU
        have h79 := (hx7.trans hx8).trans hx9
        have hxb9 := hxb.chg h79 (by simpa using hxc)
        have hnb9 := hnb.chg h79 (by simpa using hnc)
        have hq9 := (hq1.mono (T := [rb, xb]) (by simp)).trans (hq.trans (h79.mono (by simp)))
        have hs9 := hq9.size
        have hB9 := h79.size
        have hwr := hq.size
        have hdat9 := Dat.Rows.chg hdat h79 (fun g hg => by simp; omega)
        obtain ⟨p3, y3⟩ := hxb9 3 _ rfl
        have hrow : GRow (eltDat 4) 29 w9.heap.size w9 (.slice none 0 0) (([] : List Fm).map Fm.dat) := GRow.nil
        have hrbl := hc9.lt
        have hxl9 := hxb9.lt
        have hnl9 := hnb9.lt
        clear hxb hnb hq hx7 hx8 hx9 hc7 hc8 hst h79 hdat hq1
        go_cut [] from 30 to 36 (fun wx => ∃ (ga : Option Addr) (cap : Nat) (f' : Fm), RSt rb l wx (s5.bind fun _ r => rUnit r).st ∧ Own wx xb [.int .i64 op, .slice va pre.length vc, .slice none 0 0, .slice ga 1 cap] ∧ 1 ≤ cap ∧ Own wx nb [.int .i64 0, .slice none 0 0, .slice none 0 0, .slice none 0 0] ∧ Chg [rb] w wx ∧
          IsStrs (fun g => w.heap.size ≤ g ∧ g ≠ nb) wx va pre ∧ IsFms (fun g => w.heap.size ≤ g ∧ g ≠ nb) wx ga [f'] ∧ ∀ x r, (s5.bind fun _ r => rUnit r) = .ok x r → f' = x)
        case first =>
          go_region_law ((first
            | (go_simp; go_at_call 83; refine (HU.out _ (hc9.ext (Ext.drew (Below.refl _ w9)))).mono ?_; rintro e w4 ⟨hx4', hst4, v4, x4, rfl, ⟨xa, xv, xc, xd, rfl, hex⟩, hval⟩; (have hx4 : Chg [rb] w9 w4 := (Chg.of_ext (Ext.drew (Below.refl _ w9))).trans hx4'); (have hrow4 := hrow.chg hx4 (by simpa using hrbl)); (obtain ⟨d1, e1, d2, e2, d3, e3, rfl, rfl, rfl, rfl, -⟩ := hex.form); (have d5 := hx4.cell p3 (by simpa using hxc)); (have d6 := hx4.frozen p3 (by simpa using hxc) y3); (have d7 := (ext_alloc w4 (.cells #[.int .i64 x4.op, .slice d1 x4.vars.length e1, .slice d2 x4.terms.length e2, .slice d3 x4.args.length e3] 29)).cell d5); (try simp only []))
            | (refine step_append_row rfl (.tmp 31) (.tmp 34) _ rfl 29 j0 _ 80 Tryz.underlying27 hj0 jz0 jz1' jz2' rfl (by decide) w9.heap.size (.slice none 0 0) (([] : List Fm).map Fm.dat) (by rfl) w4 hrow4 (ext_alloc _ _) w4.heap.size (by rfl) _ _ (heap_alloc_new _ _) x4.dat (fm_el (hex.ext (ext_alloc _ _)) fun g hg hlt => (show w9.heap.size ≤ g ∧ (Value.slice none 0 0).ownBlock ≠ some g from ⟨by have : w9.drew.heap.size ≤ g := hg; simpa using this, fun e => by cases e⟩)) (by decide) (by decide) (by have := hx4.size; simp; omega) ?_; intro g cap w5 hrow5 hgrow hat hlt5; (have hfar : (some (⟨xb, 3, none⟩ : Addr).block) ≠ (Value.slice none 0 0).ownBlock := fun e => by cases e); (have hlt6 : (⟨xb, 3, none⟩ : Addr).block < (w4.alloc (.cells #[.int .i64 x4.op, .slice d1 x4.vars.length e1, .slice d2 x4.terms.length e2, .slice d3 x4.args.length e3] 29)).heap.size := Nat.lt_of_lt_of_le (cell_lt d5) (ext_alloc w4 _).size); (have e5 := (hgrow.cell_far ⟨xb, 3, none⟩ hlt6 hfar).trans ((ext_alloc w4 _).cell d5)); (have e6 := (hgrow.frozen_far ⟨xb, 3, none⟩ hlt6 hfar).trans ((ext_alloc w4 _).frozen d5 d6)))))
          all_goals
            go_wp2_with fail
            go_meet
            have h45 := chg_append hx4 hrow4 (Nat.le_refl _) (ext_alloc _ (.cells #[.int .i64 x4.op, .slice d1 x4.vars.length e1, .slice d2 x4.terms.length e2, .slice d3 x4.args.length e3] 29)) hgrow
            have hset := (Chg.refl [xb] w5).setCell (p := ⟨xb, 3, none⟩) (.slice (some ⟨g, 0, none⟩) 1 cap) (.inl (by simp))
            have h5 : Chg [rb, xb] w9 (w5.setCell ⟨xb, 3, none⟩ (.slice (some ⟨g, 0, none⟩) 1 cap)) := (h45.mono (by simp)).trans (hset.mono (by simp))
            obtain ⟨ya, yc, hv, hyc, hyd⟩ := GRow.dat (by decide) hrow5
            injection hv with z1 _ z3
            subst z1; subst z3
            refine ⟨_, cap, x4, ((hst4.ext (ext_alloc _ _)).append hrow4 hrbl hgrow).chg hset (by simp; omega), ((hxb9.chg h45 (by simpa using hxc)).set (i := 3) (by simp) _), hyc, hnb9.chg h5 (by simp; omega), Chg.drop (T := [rb]) (Below.refl _ _) (hq9.trans h5) (by simp; omega),
              Dat.Rows.mono (Dat.Rows.chg hdat9 h5 (fun g hg => by simp; omega)) (fun g hg _ => by omega), ?_, hval⟩
            refine Dat.Rows.mono (P := fun g => w9.heap.size ≤ g) ?_ (fun g hg _ => by omega)
            exact Dat.Rows.chg hyd hset (fun g hg => by simp; omega)
        case rest =>
          generalize wc = w6 at hcut ⊢
          obtain ⟨ga, cap, f', k1, k2, k3, k4, k5, k6, k7, hval⟩ := hcut
          obtain ⟨⟨m0, -⟩, ⟨m1, -⟩, ⟨m2, -⟩, ⟨m3, -⟩⟩ := k2.cells4
          obtain ⟨⟨n0, g0⟩, ⟨n1, g1⟩, ⟨n2, g2⟩, ⟨n3, g3⟩⟩ := k4.cells4
          have HVAL := Lib.hid hval
          clear hval hxb9 hnb9 hq9 hdat9 p3 y3 hrow hc9
          go_wp2_with fail
          refine rfin4 k5 hwn hrn k1 k4 (fun W2 r0 r1 r2 r3 => by simp [results, Tryz.results133, go_sem, r0, r1, r2, r3]) rfl fun W2 c1 c2 c3 => ⟨c2, ?_⟩
          rw [HE2.out]
          refine ⟨?_, _, .mk op pre [] [f'], rfl, ⟨_, _, _, _, rfl, IsFm.mk' (t := []) (l := [f']) h0 h0' hvc (Nat.le_refl _) k3 (Dat.Rows.mono (Dat.Rows.chg k6 c3 (fun g hg => by simpa using hg.2)) fun g hg _ => hg.1) exs_nil (Dat.Rows.mono (Dat.Rows.chg k7 c3 (fun g hg => by simpa using hg.2)) fun g hg _ => hg.1)⟩, fun x k he => ?_⟩
          · cases hr : (s5.bind fun _ r => rUnit r) with
            | bad k => rw [hr] at c1; exact c1
            | ok x k => rw [hr] at c1; exact c1
          · cases hr : (s5.bind fun _ r => rUnit r) with
            | bad k => rw [hr] at he; cases he
            | ok y k => rw [hr] at he; injection he with he; rw [← he, HVAL.out y k hr]
end Go.Proofs.YtnclgkdpafhogaaGreat
