/- The reference's SameExpr. Condition: at most 4194304 parts.
The reference's Same. Condition: at most 4194304 parts. -/
import Derived.Test.YtnclgkdpafhogaaQi13
import Derived.StillTailTactics
namespace Go.Proofs.Ytnclgkdpafhogaa
open Go.ChangeShapes Go.WideShapes Go.ChangeAt Go.RowKit
theorem Ex.same_false {a b : Ex} (h : a ≠ b) : Ex.same a b = false := by
  cases hs : Ex.same a b with
  | false => rfl
  | true => exact absurd ((Ex.same_iff a b).1 hs) h
theorem Ex.same_true {a b : Ex} (h : a = b) : Ex.same a b = true := (Ex.same_iff a b).2 h
set_option maxHeartbeats 8000000 in
set_option maxRecDepth 100000 in
theorem refSameExpr_any (t : Ex) : ∀ (u : Ex) (P Q : Nat → Prop) (w : World) (x y z x' y' z' : Value), IsEx P w x y z t → IsEx Q w x' y' z' u → t.size ≤ 4194304 →
    Calls Try.prog 57 #[.agg #[x, y, z], .agg #[x', y', z']] w fun e w' => e = .returned (.bool (Ex.same t u)) ∧ Ext w w' := by
  induction t using Ex.ind with
  | h v nm l ih =>
    intro u P Q w x y z x' y' z' ht hu hs
    obtain ⟨v', nm', l'⟩ := u
    obtain ⟨a, c, rfl, rfl, rfl, hn, hc1, hk⟩ := ht.form
    obtain ⟨a', c', rfl, rfl, rfl, hn', hc1', hk'⟩ := hu.form
    simp only [Ex.var, Ex.name, Ex.args] at hn hc1 hk hn' hc1' hk' ⊢
    simp only [Ex.size] at hs
    have hkl := Ex.length_le_sizes l
    have HIH := Lib.hid ih
    clear ih ht hu
    by_cases hv : v = v'
    case neg =>
      have q1 : (v != v') = true := by rw [bne_iff_ne]; exact hv
      have HR := Lib.hid (Ex.same_false (a := .mk v nm l) (b := .mk v' nm' l') (fun h => hv (by injection h)))
      have hvf : (v == v') = false := by rw [beq_eq_false_iff_ne]; exact hv
      go_enter Try.func57, Try.ntmps57
      go_wp2_with fail
      go_ret
      exact ⟨ret_bool (by rw [HR.out]), (ext_alloc _ _).alloc _⟩
    subst hv
    by_cases hnm : nm = nm'
    case neg =>
      have q2 : (nm.toList == nm'.toList) = false := bytes_ne' hnm
      have HR := Lib.hid (Ex.same_false (a := .mk v nm l) (b := .mk v nm' l') (fun h => hnm (by injection h)))
      clear hnm
      go_enter Try.func57, Try.ntmps57
      go_wp2_with fail
      go_ret
      exact ⟨ret_bool (by rw [HR.out]), (ext_alloc _ _).alloc _⟩
    subst hnm
    have q2 : (nm.toList == nm.toList) = true := bytes_eq' rfl
    by_cases hll : l.length = l'.length
    case neg =>
      have q3 : ((l.length : Int) != (l'.length : Nat)) = true := by rw [bne_iff_ne]; omega
      have HR := Lib.hid (Ex.same_false (a := .mk v nm l) (b := .mk v nm l') (fun h => hll (by injection h with _ _ h; rw [h])))
      clear hll
      go_enter Try.func57, Try.ntmps57
      go_wp2_with fail
      go_ret
      exact ⟨ret_bool (by rw [HR.out]), (ext_alloc _ _).alloc _⟩
    have q3 : ((l.length : Int) != (l'.length : Nat)) = false := by rw [bne_eq_false_iff_eq]; omega
    have HLL := Lib.hid hll
    have hle : l.length ≤ l'.length := by omega
    clear hll
    go_enter Try.func57, Try.ntmps57
    go_wp2_with fail
    obtain ⟨W, hW⟩ : ∃ W, W = (w.alloc (.cells #[.bool v, .string nm, .slice a l.length c] 67)).alloc (.cells #[.bool v, .string nm, .slice a' l'.length c'] 67) := ⟨_, rfl⟩
    have hx : Ext w W := by rw [hW]; exact (ext_alloc _ _).alloc _
    have b2 : W.cell? ⟨w.heap.size, 2, none⟩ = some (.slice a l.length c) := by rw [hW]; exact (ext_alloc _ _).cell (own3 w _ _ _ _ 2 _ rfl).1
    have d2 : W.cell? ⟨w.heap.size + 1, 2, none⟩ = some (.slice a' l'.length c') := by
      rw [hW]
      have := (own3 (w.alloc (.cells #[.bool v, .string nm, .slice a l.length c] 67)) (.bool v) (.string nm) (.slice a' l'.length c') 67 2 _ rfl).1
      rw [World.size_alloc] at this; exact this
    rw [← hW]
    clear hW
    go_loopw [5] (fun i wr => ∃ k : Nat, k ≤ l.length ∧ i = .int .i64 k ∧ Ext W wr ∧ l.take k = l'.take k) (fun i _ => l.length - (intOf i).toNat)
    case atStart => exact ⟨0, Nat.zero_le _, rfl, Below.refl _ _, rfl⟩
    case round =>
      obtain ⟨k, hkk, rfl, hxr, hm⟩ := hrel
      have HM := Lib.hid hm
      clear hm
      replace b2 := hxr.cell b2
      replace d2 := hxr.cell d2
      by_cases hlt : k < l.length
      · obtain ⟨b, o, aa, cc, rfl, hb, g1, g2, g3, hi⟩ := (IsExs.ext hk (hx.trans hxr)).look hlt
        have hlt2 : k < l'.length := by omega
        obtain ⟨bb, oo, aa', cc', rfl, hbb, j1, j2, j3, hi'⟩ := (IsExs.ext hk' (hx.trans hxr)).look hlt2
        have hlt' : (k : Int) < l.length := by omega
        have hlt2' : (k : Int) < l'.length := by omega
        have HE := Lib.hid (fun w' (hx : Ext wr w') => HIH.out _ (List.getElem_mem hlt) l'[k] P Q w' _ _ _ _ _ _ (hi.ext hx) (hi'.ext hx) (by have := Ex.size_le_sizes hlt; omega))
        have HST := Lib.hid (show l.take (k + 1) = l.take k ++ [l[k]] from List.take_succ_eq_append_getElem hlt)
        have HST' := Lib.hid (show l'.take (k + 1) = l'.take k ++ [l'[k]] from List.take_succ_eq_append_getElem hlt2)
        go_wp2_with fail
        go_still_tail 10, (by kernel_rfl)
        change wpList _ _ _ _ _ wr.drew
        by_cases he : l[k] = l'[k]
        · have HS := Lib.hid (Ex.same_true he)
          rw [HS.out] at HE
          have HEQ := Lib.hid he
          clear he
          go_wp2_with (go_at_call 57; refine (HE.out _ (Ext.drew (Below.refl _ _))).mono ?_; rintro e w1 ⟨rfl, hx1⟩)
          go_roundw
          case rel => exact ⟨k + 1, by omega, by go_num, hxr.trans ((Ext.drew (Below.refl _ wr)).trans hx1), by rw [HST.out, HST'.out, HM.out, HEQ.out]⟩
          case measure => simp [intOf]; omega
        · have HS := Lib.hid (Ex.same_false he)
          rw [HS.out] at HE
          have HR := Lib.hid (Ex.same_false (a := .mk v nm l) (b := .mk v nm l') (fun h => he (by injection h with _ _ h; subst h; rfl)))
          clear he
          go_wp2_with (go_at_call 57; refine (HE.out _ (Ext.drew (Below.refl _ _))).mono ?_; rintro e w1 ⟨rfl, hx1⟩)
          go_ret
          exact ⟨ret_bool (by rw [HR.out]), (hx.trans hxr).trans ((Ext.drew (Below.refl _ wr)).trans hx1)⟩
      · have hlt' : ¬ (k : Int) < l.length := by omega
        have hke : k = l.length := by omega
        have HR := Lib.hid (Ex.same_true (a := .mk v nm l) (b := .mk v nm l') (by
          have h1 := HM.out
          rw [hke, List.take_length, HLL.out, List.take_length] at h1
          rw [h1]))
        clear hke
        go_wp2_with fail
        go_ret
        exact ⟨ret_bool (by rw [HR.out]), hx.trans hxr⟩
end Go.Proofs.Ytnclgkdpafhogaa
namespace Go.Proofs.Ytnclgkdpafhogaa
open Go.ChangeShapes Go.WideShapes Go.ChangeAt Go.RowKit
theorem Fm.same_false {a b : Fm} (h : a ≠ b) : Fm.same a b = false := by
  cases hs : Fm.same a b with
  | false => rfl
  | true => exact absurd ((Fm.same_iff a b).1 hs) h
theorem Fm.same_true {a b : Fm} (h : a = b) : Fm.same a b = true := (Fm.same_iff a b).2 h
set_option maxHeartbeats 16000000 in
set_option maxRecDepth 100000 in
theorem refSame_any (f : Fm) : ∀ (g : Fm) (P Q : Nat → Prop) (w : World) (x y z u x' y' z' u' : Value), IsFm P w x y z u f → IsFm Q w x' y' z' u' g → f.size ≤ 4194304 →
    Calls Try.prog 31 #[.agg #[x, y, z, u], .agg #[x', y', z', u']] w fun e w' => e = .returned (.bool (Fm.same f g)) ∧ Ext w w' := by
  induction f using Fm.ind with
  | h op v t l ih =>
    intro g P Q w x y z u x' y' z' u' hf hg hs
    obtain ⟨op', v', t', l'⟩ := g
    obtain ⟨va, vc, ta, tc, a, c, rfl, rfl, rfl, rfl, ho1, ho2, hvl, htl, hll0, hvs, hts, hls⟩ := hf.form
    obtain ⟨va', vc', ta', tc', a', c', rfl, rfl, rfl, rfl, ho1', ho2', hvl', htl', hll0', hvs', hts', hls'⟩ := hg.form
    simp only [Fm.op, Fm.vars, Fm.terms, Fm.args] at *
    simp only [Fm.size] at hs
    have hkl := Fm.length_le_sizes l
    have hkt := Ex.length_le_sizes t
    have HIH := Lib.hid ih
    clear ih hf hg
    by_cases hop : op = op'
    case neg =>
      have q1 : (op != op') = true := by rw [bne_iff_ne]; exact hop
      have HR := Lib.hid (Fm.same_false (a := .mk op v t l) (b := .mk op' v' t' l') (fun h => hop (by injection h)))
      clear hop
      go_enter Try.func31, Try.ntmps31
      go_wp2_with fail
      go_ret
      exact ⟨ret_bool (by rw [HR.out]), (ext_alloc _ _).alloc _⟩
    subst hop
    have q1 : (op != op) = false := by rw [bne_eq_false_iff_eq]
    by_cases hvv : v.length = v'.length
    case neg =>
      have q2 : ((v.length : Int) != (v'.length : Nat)) = true := by rw [bne_iff_ne]; omega
      have HR := Lib.hid (Fm.same_false (a := .mk op v t l) (b := .mk op v' t' l') (fun h => hvv (by injection h with _ h; rw [h])))
      clear hvv
      go_enter Try.func31, Try.ntmps31
      go_wp2_with fail
      go_ret
      exact ⟨ret_bool (by rw [HR.out]), (ext_alloc _ _).alloc _⟩
    have q2 : ((v.length : Int) != (v'.length : Nat)) = false := by rw [bne_eq_false_iff_eq]; omega
    have HL2 := Lib.hid hvv
    have hle2 : v.length ≤ v'.length := by omega
    clear hvv
    by_cases htt : t.length = t'.length
    case neg =>
      have q3 : ((t.length : Int) != (t'.length : Nat)) = true := by rw [bne_iff_ne]; omega
      have HR := Lib.hid (Fm.same_false (a := .mk op v t l) (b := .mk op v' t' l') (fun h => htt (by injection h with _ _ h; rw [h])))
      clear htt
      go_enter Try.func31, Try.ntmps31
      go_wp2_with fail
      go_ret
      exact ⟨ret_bool (by rw [HR.out]), (ext_alloc _ _).alloc _⟩
    have q3 : ((t.length : Int) != (t'.length : Nat)) = false := by rw [bne_eq_false_iff_eq]; omega
    have HL3 := Lib.hid htt
    have hle3 : t.length ≤ t'.length := by omega
    clear htt
    by_cases hll : l.length = l'.length
    case neg =>
      have q4 : ((l.length : Int) != (l'.length : Nat)) = true := by rw [bne_iff_ne]; omega
      have HR := Lib.hid (Fm.same_false (a := .mk op v t l) (b := .mk op v' t' l') (fun h => hll (by injection h with _ _ _ h; rw [h])))
      clear hll
      go_enter Try.func31, Try.ntmps31
      go_wp2_with fail
      go_ret
      exact ⟨ret_bool (by rw [HR.out]), (ext_alloc _ _).alloc _⟩
    have q4 : ((l.length : Int) != (l'.length : Nat)) = false := by rw [bne_eq_false_iff_eq]; omega
    have HL4 := Lib.hid hll
    have hle4 : l.length ≤ l'.length := by omega
    clear hll
    go_enter Try.func31, Try.ntmps31
    go_wp2_with fail
    obtain ⟨W, hW⟩ : ∃ W, W = (w.alloc (.cells #[.int .i64 op, .slice va v.length vc, .slice ta t.length tc, .slice a l.length c] 27)).alloc (.cells #[.int .i64 op, .slice va' v'.length vc', .slice ta' t'.length tc', .slice a' l'.length c'] 27) := ⟨_, rfl⟩
    have hx : Ext w W := by rw [hW]; exact (ext_alloc _ _).alloc _
    have hO1 : Own W w.heap.size [.int .i64 op, .slice va v.length vc, .slice ta t.length tc, .slice a l.length c] := by rw [hW]; exact (own4 w _ _ _ _ _).ext (ext_alloc _ _)
    have hO2 : Own W (w.heap.size + 1) [.int .i64 op, .slice va' v'.length vc', .slice ta' t'.length tc', .slice a' l'.length c'] := by
      rw [hW]
      have := own4 (w.alloc (.cells #[.int .i64 op, .slice va v.length vc, .slice ta t.length tc, .slice a l.length c] 27)) (.int .i64 op) (.slice va' v'.length vc') (.slice ta' t'.length tc') (.slice a' l'.length c') 27
      rw [World.size_alloc] at this; exact this
    rw [← hW]
    clear hW
    go_loopw [5] (fun i wr => ∃ k : Nat, k ≤ v.length ∧ i = .int .i64 k ∧ Ext W wr ∧ v.take k = v'.take k) (fun i _ => v.length - (intOf i).toNat)
    case atStart => exact ⟨0, Nat.zero_le _, rfl, Below.refl _ _, rfl⟩
    case round =>
      obtain ⟨k, hkk, rfl, hxr, hm⟩ := hrel
      have HM := Lib.hid hm
      clear hm
      have b1 := (hO1.ext hxr 1 _ rfl).1
      have d1 := (hO2.ext hxr 1 _ rfl).1
      by_cases hlt : k < v.length
      · obtain ⟨b, o, rfl, hb, g1, -⟩ := IsStrs.look (hvs.ext (hx.trans hxr)) hlt
        have hlt2 : k < v'.length := by omega
        obtain ⟨bb, oo, rfl, hbb, j1, -⟩ := IsStrs.look (hvs'.ext (hx.trans hxr)) hlt2
        have hlt' : (k : Int) < v.length := by omega
        have hlt2' : (k : Int) < v'.length := by omega
        have HST := Lib.hid (show v.take (k + 1) = v.take k ++ [v[k]] from List.take_succ_eq_append_getElem hlt)
        have HST' := Lib.hid (show v'.take (k + 1) = v'.take k ++ [v'[k]] from List.take_succ_eq_append_getElem hlt2)
        by_cases he : v[k] = v'[k]
        · have p1 : (v[k].toList == v'[k].toList) = true := bytes_eq' he
          have HEQ := Lib.hid he
          clear he
          go_wp2_with fail
          go_quiet (fail)
          go_wp2_with fail
          go_roundw
          case rel => exact ⟨k + 1, by omega, by go_num, Ext.drewN hxr _, by rw [HST.out, HST'.out, HM.out, HEQ.out]⟩
          case measure => simp [intOf]; omega
        · have p1 : (v[k].toList == v'[k].toList) = false := bytes_ne' he
          have HR := Lib.hid (Fm.same_false (a := .mk op v t l) (b := .mk op v' t' l') (fun h => he (by injection h with _ h; subst h; rfl)))
          clear he
          go_wp2_with fail
          go_quiet (fail)
          go_wp2_with fail
          go_ret
          exact ⟨ret_bool (by rw [HR.out]), Ext.drewN (hx.trans hxr) _⟩
      · have hlt' : ¬ (k : Int) < v.length := by omega
        have HV := Lib.hid (show v = v' by
          have h1 := HM.out
          have hke : k = v.length := by omega
          rw [hke, List.take_length, HL2.out, List.take_length] at h1
          exact h1)
        go_wp2_with fail
        obtain ⟨wo, rfl⟩ : ∃ wo : World, wo = wr := ⟨_, rfl⟩
        have hO1' := hO1.ext hxr
        have hO2' := hO2.ext hxr
        have hxx := hx.trans hxr
        clear b1 d1 hO1 hO2 hvs hvs' HM
        go_loopw [6] (fun i wr => ∃ k : Nat, k ≤ t.length ∧ i = .int .i64 k ∧ Ext wo wr ∧ t.take k = t'.take k) (fun i _ => t.length - (intOf i).toNat)
        case atStart => exact ⟨0, Nat.zero_le _, rfl, Below.refl _ _, rfl⟩
        case round =>
          obtain ⟨k, hkk, rfl, hxr2, hm⟩ := hrel
          have HM := Lib.hid hm
          clear hm
          have b2 := (hO1'.ext hxr2 2 _ rfl).1
          have d2 := (hO2'.ext hxr2 2 _ rfl).1
          by_cases hlt : k < t.length
          · obtain ⟨b, o, aa, cc, rfl, hb, g1, g2, g3, hi⟩ := (IsExs.ext hts (hxx.trans hxr2)).look hlt
            have hlt2 : k < t'.length := by omega
            obtain ⟨bb, oo, aa', cc', rfl, hbb, j1, j2, j3, hi'⟩ := (IsExs.ext hts' (hxx.trans hxr2)).look hlt2
            have hlt' : (k : Int) < t.length := by omega
            have hlt2' : (k : Int) < t'.length := by omega
            have HE := Lib.hid (fun w' (hx : Ext wr w') => refSameExpr_any t[k] t'[k] P Q w' _ _ _ _ _ _ (hi.ext hx) (hi'.ext hx) (by have := Ex.size_le_sizes hlt; omega))
            have HST := Lib.hid (show t.take (k + 1) = t.take k ++ [t[k]] from List.take_succ_eq_append_getElem hlt)
            have HST' := Lib.hid (show t'.take (k + 1) = t'.take k ++ [t'[k]] from List.take_succ_eq_append_getElem hlt2)
            go_wp2_with fail
            go_still_tail 10, (by kernel_rfl)
            change wpList _ _ _ _ _ wr.drew
            by_cases he : t[k] = t'[k]
            · have HS := Lib.hid (Ex.same_true he)
              rw [HS.out] at HE
              have HEQ := Lib.hid he
              clear he
              go_wp2_with (go_at_call 57; refine (HE.out _ (Ext.drew (Below.refl _ _))).mono ?_; rintro e w1 ⟨rfl, hx1⟩)
              go_roundw
              case rel => exact ⟨k + 1, by omega, by go_num, hxr2.trans ((Ext.drew (Below.refl _ wr)).trans hx1), by rw [HST.out, HST'.out, HM.out, HEQ.out]⟩
              case measure => simp [intOf]; omega
            · have HS := Lib.hid (Ex.same_false he)
              rw [HS.out] at HE
              have HR := Lib.hid (Fm.same_false (a := .mk op v t l) (b := .mk op v' t' l') (fun h => he (by injection h with _ _ h; subst h; rfl)))
              clear he
              go_wp2_with (go_at_call 57; refine (HE.out _ (Ext.drew (Below.refl _ _))).mono ?_; rintro e w1 ⟨rfl, hx1⟩)
              go_ret
              exact ⟨ret_bool (by rw [HR.out]), (hxx.trans hxr2).trans ((Ext.drew (Below.refl _ wr)).trans hx1)⟩
          · have hlt' : ¬ (k : Int) < t.length := by omega
            have HTT := Lib.hid (show t = t' by
              have h1 := HM.out
              have hke : k = t.length := by omega
              rw [hke, List.take_length, HL3.out, List.take_length] at h1
              exact h1)
            go_wp2_with fail
            obtain ⟨wp, rfl⟩ : ∃ wp : World, wp = wr := ⟨_, rfl⟩
            have hO1'' := hO1'.ext hxr2
            have hO2'' := hO2'.ext hxr2
            have hxy := hxx.trans hxr2
            clear b2 d2 hO1' hO2' hts hts' HM
            go_loopw [7] (fun i wr => ∃ k : Nat, k ≤ l.length ∧ i = .int .i64 k ∧ Ext wp wr ∧ l.take k = l'.take k) (fun i _ => l.length - (intOf i).toNat)
            case atStart => exact ⟨0, Nat.zero_le _, rfl, Below.refl _ _, rfl⟩
            case round =>
              obtain ⟨k, hkk, rfl, hxr3, hm⟩ := hrel
              have HM := Lib.hid hm
              clear hm
              have b3 := (hO1''.ext hxr3 3 _ rfl).1
              have d3 := (hO2''.ext hxr3 3 _ rfl).1
              by_cases hlt : k < l.length
              · obtain ⟨b, o, y1, y2, y3, y4, aa, cc, rfl, hb, g1, g2, g3, g4, hi⟩ := (IsFms.ext hls (hxy.trans hxr3)).look hlt
                have hlt2 : k < l'.length := by omega
                obtain ⟨bb, oo, y1', y2', y3', y4', aa', cc', rfl, hbb, j1, j2, j3, j4, hi'⟩ := (IsFms.ext hls' (hxy.trans hxr3)).look hlt2
                have hlt' : (k : Int) < l.length := by omega
                have hlt2' : (k : Int) < l'.length := by omega
                have HE := Lib.hid (fun w' (hx : Ext wr w') => HIH.out _ (List.getElem_mem hlt) l'[k] P Q w' _ _ _ _ _ _ _ _ (hi.ext hx) (hi'.ext hx) (by have := Fm.size_le_sizes hlt; omega))
                have HST := Lib.hid (show l.take (k + 1) = l.take k ++ [l[k]] from List.take_succ_eq_append_getElem hlt)
                have HST' := Lib.hid (show l'.take (k + 1) = l'.take k ++ [l'[k]] from List.take_succ_eq_append_getElem hlt2)
                go_wp2_with fail
                go_still_tail 10, (by kernel_rfl)
                change wpList _ _ _ _ _ wr.drew
                by_cases he : l[k] = l'[k]
                · have HS := Lib.hid (Fm.same_true he)
                  rw [HS.out] at HE
                  have HEQ := Lib.hid he
                  clear he
                  go_wp2_with (go_at_call 31; refine (HE.out _ (Ext.drew (Below.refl _ _))).mono ?_; rintro e w1 ⟨rfl, hx1⟩)
                  go_roundw
                  case rel => exact ⟨k + 1, by omega, by go_num, hxr3.trans ((Ext.drew (Below.refl _ wr)).trans hx1), by rw [HST.out, HST'.out, HM.out, HEQ.out]⟩
                  case measure => simp [intOf]; omega
                · have HS := Lib.hid (Fm.same_false he)
                  rw [HS.out] at HE
                  have HR := Lib.hid (Fm.same_false (a := .mk op v t l) (b := .mk op v' t' l') (fun h => he (by injection h with _ _ _ h; subst h; rfl)))
                  clear he
                  go_wp2_with (go_at_call 31; refine (HE.out _ (Ext.drew (Below.refl _ _))).mono ?_; rintro e w1 ⟨rfl, hx1⟩)
                  go_ret
                  exact ⟨ret_bool (by rw [HR.out]), (hxy.trans hxr3).trans ((Ext.drew (Below.refl _ wr)).trans hx1)⟩
              · have hlt' : ¬ (k : Int) < l.length := by omega
                have HR := Lib.hid (Fm.same_true (a := .mk op v t l) (b := .mk op v' t' l') (by
                  have h1 := HM.out
                  have hke : k = l.length := by omega
                  rw [hke, List.take_length, HL4.out, List.take_length] at h1
                  rw [h1, HV.out, HTT.out]))
                go_wp2_with fail
                go_ret
                exact ⟨ret_bool (by rw [HR.out]), hxy.trans hxr3⟩
end Go.Proofs.Ytnclgkdpafhogaa
