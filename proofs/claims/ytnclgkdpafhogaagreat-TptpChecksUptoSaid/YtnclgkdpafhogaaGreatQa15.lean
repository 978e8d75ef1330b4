/- The reference's table, counted, exprMay, varsMay, narrow. Condition: at most 4194304 parts.
The reference's narrow, May, Check. Condition: at most 4194304 parts.
The reference's May, Check. Condition: at most 4194304 parts.
The reference's Check. Condition: at most 4194304 parts.
The reference's SameExpr. Condition: at most 4194304 parts.
The reference's Same. Condition: at most 4194304 parts. -/
import Derived.Test.YtnclgkdpafhogaaGreatQa14
import Derived.StillTailTactics
namespace Go.Proofs.YtnclgkdpafhogaaGreat
open Go.ChangeShapes Go.WideShapes Go.ChangeAt Go.RowKit
theorem bytes_ne' {a b : ByteArray} (h : a ≠ b) : (a.toList == b.toList) = false := by
  rw [beq_eq_false_iff_ne]; intro he; apply h; apply ByteArray.ext; apply Array.toList_inj.1
  rw [Go.ByteArray.toList_eq, Go.ByteArray.toList_eq] at he; exact he
theorem bytes_eq' {a b : ByteArray} (h : a = b) : (a.toList == b.toList) = true := by subst h; exact beq_self_eq_true _
theorem shape_out {op : Int} (h : op < 1 ∨ 13 ≤ op) : shapeOf op = none := by
  unfold shapeOf
  repeat' rw [if_neg (by omega)]
def tableVals (op : Int) : Value := .tuple #[.int .i64 ((shapeOf op).getD (0, 0, 0)).1, .int .i64 ((shapeOf op).getD (0, 0, 0)).2.1, .int .i64 ((shapeOf op).getD (0, 0, 0)).2.2, .bool (shapeOf op).isSome]
set_option maxHeartbeats 4000000 in
set_option maxRecDepth 100000 in
theorem table_any (op : Int) (w : World) : Calls Tryz.prog 105 #[.int .i64 op] w fun e w' => e = .returned (tableVals op) ∧ w = w' := by
  by_cases h : op < 1 ∨ 13 ≤ op
  · have HS := Lib.hid (shape_out h)
    have q1 : (op == 1) = false := by rw [beq_eq_false_iff_ne]; omega
    have q2 : (op == 2) = false := by rw [beq_eq_false_iff_ne]; omega
    have q3 : (op == 3) = false := by rw [beq_eq_false_iff_ne]; omega
    have q4 : (op == 4) = false := by rw [beq_eq_false_iff_ne]; omega
    have q5 : (op == 5) = false := by rw [beq_eq_false_iff_ne]; omega
    have q6 : (op == 6) = false := by rw [beq_eq_false_iff_ne]; omega
    have q7 : (op == 7) = false := by rw [beq_eq_false_iff_ne]; omega
    have q8 : (op == 8) = false := by rw [beq_eq_false_iff_ne]; omega
    have q9 : (op == 9) = false := by rw [beq_eq_false_iff_ne]; omega
    have q10 : (op == 10) = false := by rw [beq_eq_false_iff_ne]; omega
    have q11 : (op == 11) = false := by rw [beq_eq_false_iff_ne]; omega
    have q12 : (op == 12) = false := by rw [beq_eq_false_iff_ne]; omega
    clear h
    go_enter Tryz.func105, Tryz.ntmps105
    go_wp2
    exact bodyPost_ret (v := .tuple #[.int .i64 0, .int .i64 0, .int .i64 0, .bool false]) (by simp [results, Tryz.results105, go_sem]) rfl ⟨by unfold tableVals; rw [HS.out]; rfl, rfl⟩
  · have hc : op = 1 ∨ op = 2 ∨ op = 3 ∨ op = 4 ∨ op = 5 ∨ op = 6 ∨ op = 7 ∨ op = 8 ∨ op = 9 ∨ op = 10 ∨ op = 11 ∨ op = 12 := by omega
    clear h
    rcases hc with rfl | rfl | rfl | rfl | rfl | rfl | rfl | rfl | rfl | rfl | rfl | rfl
    · go_enter Tryz.func105, Tryz.ntmps105
      go_wp2
      exact bodyPost_ret (v := .tuple #[.int .i64 0, .int .i64 0, .int .i64 0, .bool true]) (by simp [results, Tryz.results105, go_sem]) rfl ⟨rfl, rfl⟩
    · go_enter Tryz.func105, Tryz.ntmps105
      go_wp2
      exact bodyPost_ret (v := .tuple #[.int .i64 0, .int .i64 0, .int .i64 0, .bool true]) (by simp [results, Tryz.results105, go_sem]) rfl ⟨rfl, rfl⟩
    · go_enter Tryz.func105, Tryz.ntmps105
      go_wp2
      exact bodyPost_ret (v := .tuple #[.int .i64 0, .int .i64 1, .int .i64 0, .bool true]) (by simp [results, Tryz.results105, go_sem]) rfl ⟨rfl, rfl⟩
    · go_enter Tryz.func105, Tryz.ntmps105
      go_wp2
      exact bodyPost_ret (v := .tuple #[.int .i64 0, .int .i64 2, .int .i64 0, .bool true]) (by simp [results, Tryz.results105, go_sem]) rfl ⟨rfl, rfl⟩
    · go_enter Tryz.func105, Tryz.ntmps105
      go_wp2
      exact bodyPost_ret (v := .tuple #[.int .i64 0, .int .i64 0, .int .i64 1, .bool true]) (by simp [results, Tryz.results105, go_sem]) rfl ⟨rfl, rfl⟩
    · go_enter Tryz.func105, Tryz.ntmps105
      go_wp2
      exact bodyPost_ret (v := .tuple #[.int .i64 0, .int .i64 0, .int .i64 (-2), .bool true]) (by simp [results, Tryz.results105, go_sem]) rfl ⟨rfl, rfl⟩
    · go_enter Tryz.func105, Tryz.ntmps105
      go_wp2
      exact bodyPost_ret (v := .tuple #[.int .i64 0, .int .i64 0, .int .i64 (-2), .bool true]) (by simp [results, Tryz.results105, go_sem]) rfl ⟨rfl, rfl⟩
    · go_enter Tryz.func105, Tryz.ntmps105
      go_wp2
      exact bodyPost_ret (v := .tuple #[.int .i64 0, .int .i64 0, .int .i64 2, .bool true]) (by simp [results, Tryz.results105, go_sem]) rfl ⟨rfl, rfl⟩
    · go_enter Tryz.func105, Tryz.ntmps105
      go_wp2
      exact bodyPost_ret (v := .tuple #[.int .i64 0, .int .i64 0, .int .i64 2, .bool true]) (by simp [results, Tryz.results105, go_sem]) rfl ⟨rfl, rfl⟩
    · go_enter Tryz.func105, Tryz.ntmps105
      go_wp2
      exact bodyPost_ret (v := .tuple #[.int .i64 0, .int .i64 0, .int .i64 2, .bool true]) (by simp [results, Tryz.results105, go_sem]) rfl ⟨rfl, rfl⟩
    · go_enter Tryz.func105, Tryz.ntmps105
      go_wp2
      exact bodyPost_ret (v := .tuple #[.int .i64 (-1), .int .i64 0, .int .i64 1, .bool true]) (by simp [results, Tryz.results105, go_sem]) rfl ⟨rfl, rfl⟩
    · go_enter Tryz.func105, Tryz.ntmps105
      go_wp2
      exact bodyPost_ret (v := .tuple #[.int .i64 (-1), .int .i64 0, .int .i64 1, .bool true]) (by simp [results, Tryz.results105, go_sem]) rfl ⟨rfl, rfl⟩
set_option maxHeartbeats 1000000 in
theorem refCounted_any (n : Nat) (want : Int) (_hn : n ≤ 1073741824) (hw : -1000 ≤ want) (hw' : want ≤ 1000) (w : World) :
    Calls Tryz.prog 106 #[.int .i64 n, .int .i64 want] w fun e w' => e = .returned (.bool (counted n want)) ∧ w = w' := by
  by_cases h2 : want < 0
  · have q2 : decide (want < 0) = true := decide_eq_true h2
    have hneg : IntKind.i64.wrap (-want) = -want := IntWalk.i64_in _ (by omega)
    have HR := Lib.hid (show counted n want = decide (-want ≤ n) by unfold counted; rw [if_pos h2])
    go_enter Tryz.func106, Tryz.ntmps106
    go_wp2
    go_ret
    exact ⟨ret_bool HR.out.symm, rfl⟩
  · have q2 : decide (want < 0) = false := decide_eq_false h2
    have HR := Lib.hid (show counted n want = decide ((n : Int) = want) by unfold counted; rw [if_neg h2])
    go_enter Tryz.func106, Tryz.ntmps106
    go_wp2
    go_ret
    exact ⟨ret_bool (by rw [HR.out]; rw [Bool.eq_iff_iff]; simp), rfl⟩
set_option maxHeartbeats 2000000 in
theorem refExprMay_any (t : Ex) : ∀ (P : Nat → Prop) (w : World) (x y z : Value), IsEx P w x y z t → t.size ≤ 4194304 →
    Calls Tryz.prog 108 #[.agg #[x, y, z]] w fun e w' => e = .returned (.bool t.may) ∧ Ext w w' := by
  induction t using Ex.ind with
  | h v nm l ih =>
    intro P w x y z ht hs
    obtain ⟨a, c, rfl, rfl, rfl, hn, hc1, hk⟩ := ht.form
    simp only [Ex.var, Ex.name, Ex.args] at hn hc1 hk ⊢
    simp only [Ex.size] at hs
    have hkl := Ex.length_le_sizes l
    have HU := Lib.hid (fun w => refUpper_any nm hn w)
    have HN := Lib.hid (fun w => refNameB_any nm hn w)
    obtain ⟨W, hW⟩ : ∃ W, W = w.alloc (.cells #[.bool v, .string nm, .slice a l.length c] 73) := ⟨_, rfl⟩
    have hx : Ext w W := by rw [hW]; exact ext_alloc _ _
    obtain ⟨b0, b1, b2⟩ := cells3' w (.bool v) (.string nm) (.slice a l.length c) 73
    rw [← hW] at b0 b1 b2
    simp only [Ex.may]
    cases v with
    | true =>
      have hp : l.length = 0 ∨ 0 < l.length := by omega
      clear hx hk ih ht b0 b1 b2 hW
      rcases hp with hp | hp
      · have q1 : ((l.length : Int) == 0) = true := by rw [beq_iff_eq]; omega
        have HD := Lib.hid hp
        clear hp
        go_enter Tryz.func108, Tryz.ntmps108
        go_wp2_with (go_at_call 144; refine (HU.out _).mono ?_; rintro e w1 ⟨rfl, rfl⟩)
        go_ret
        exact ⟨ret_bool (by have h1 : l = [] := List.eq_nil_of_length_eq_zero HD.out; simp [h1]), ext_alloc _ _⟩
      · have q1 : ((l.length : Int) == 0) = false := by rw [beq_eq_false_iff_ne]; omega
        have HD := Lib.hid hp
        clear hp
        go_enter Tryz.func108, Tryz.ntmps108
        go_wp2_with fail
        go_ret
        exact ⟨ret_bool (by have h1 : l ≠ [] := fun h => by have := HD.out; rw [h] at this; simp at this
                            simp [h1]), ext_alloc _ _⟩
    | false =>
      cases hnm : named nm with
      | false =>
        rw [hnm] at HN
        clear hnm hx hk ih ht b0 b1 b2 hW
        go_enter Tryz.func108, Tryz.ntmps108
        go_wp2_with (go_at_call 72; refine (HN.out _).mono ?_; rintro e w1 ⟨rfl, rfl⟩)
        go_ret
        exact ⟨rfl, ext_alloc _ _⟩
      | true =>
        rw [hnm] at HN
        clear hnm ht
        go_enter Tryz.func108, Tryz.ntmps108
        go_wp2_with (rw [← hW]; clear hW; go_at_call 72; refine (HN.out _).mono ?_; rintro e w1 ⟨rfl, rfl⟩)
        go_loopw [3] (fun i wr => ∃ k : Nat, k ≤ l.length ∧ i = .int .i64 k ∧ Ext W wr ∧ Ex.mays (l.take k) = true) (fun i _ => l.length - (intOf i).toNat)
        case atStart => exact ⟨0, Nat.zero_le _, rfl, Below.refl _ _, rfl⟩
        case round =>
          obtain ⟨k, hkk, rfl, hxr, hm⟩ := hrel
          have HM := Lib.hid hm; clear hm
          replace b2 := hxr.cell b2
          clear b0 b1
          by_cases hlt : k < l.length
          · obtain ⟨b, o, a', c', rfl, hb, g1, g2, g3, hi⟩ := (IsExs.ext hk (hx.trans hxr)).look hlt
            have hlt' : (k : Int) < l.length := by omega
            have HE := Lib.hid (ih _ (List.getElem_mem hlt) P wr _ _ _ hi (by have := Ex.size_le_sizes hlt; omega))
            have hst : Ex.mays (l.take (k + 1)) = (Ex.mays (l.take k) && l[k].may) := by
              rw [Ex.mays_all, Ex.mays_all, List.take_succ_eq_append_getElem hlt, List.all_append]; simp
            have HST := Lib.hid hst
            clear hst ih
            cases hmk : l[k].may with
            | true =>
              rw [hmk] at HE HST
              clear hmk
              go_wp2_with (go_at_call 108; refine (HE.out).mono ?_; rintro e w1 ⟨rfl, hx1⟩)
              go_roundw
              case rel => exact ⟨k + 1, by omega, by go_num, hxr.trans hx1, by rw [HST.out, HM.out]; rfl⟩
              case measure => simp [intOf]; omega
            | false =>
              rw [hmk] at HE
              have HMK := Lib.hid hmk
              clear hmk
              go_wp2_with (go_at_call 108; refine (HE.out).mono ?_; rintro e w1 ⟨rfl, hx1⟩)
              go_ret
              have h1 : Ex.mays l = false := by
                rw [Ex.mays_all]
                cases h2 : l.all Ex.may with
                | false => rfl
                | true => have := List.all_eq_true.1 h2 l[k] (List.getElem_mem hlt); rw [HMK.out] at this; cases this
              exact ⟨ret_bool (by rw [h1]), hx.trans (hxr.trans hx1)⟩
          · have hlt' : ¬ (k : Int) < l.length := by omega
            go_wp2_with fail
            go_ret
            have : k = l.length := by omega
            subst this
            have h1 := HM.out
            rw [List.take_length] at h1
            exact ⟨ret_bool (by rw [h1]), hx.trans hxr⟩
set_option maxHeartbeats 4000000 in
set_option maxRecDepth 100000 in
theorem refVarsMay_any (l : List ByteArray) (hl : l.length ≤ 1073741824) (P : Nat → Prop) (w : World) (a : Option Addr) (c : Nat) (h : IsStrs P w a l) :
    Calls Tryz.prog 107 #[.slice a l.length c] w fun e w' => e = .returned (.bool (varsMay l)) ∧ Ext w w' := by
  have HS := Lib.hid (show varsMay l = varsFrom (l.take 0) (l.drop 0) by simp [varsMay])
  go_enter Tryz.func107, Tryz.ntmps107
  go_wp2_with fail
  go_loopw [3] (fun i wr => ∃ k : Nat, k ≤ l.length ∧ i = .int .i64 k ∧ Ext w wr ∧ varsMay l = varsFrom (l.take k) (l.drop k)) (fun i _ => l.length - (intOf i).toNat)
  case atStart => exact ⟨0, Nat.zero_le _, rfl, Below.refl _ _, HS.out⟩
  case round =>
    obtain ⟨k, hk, rfl, hx, hv⟩ := hrel
    have HV := Lib.hid hv
    clear hv HS
    by_cases hlt : k < l.length
    · obtain ⟨b, o, rfl, hb, g1, hsz⟩ := IsStrs.look (h.ext hx) hlt
      have hlt' : (k : Int) < l.length := by omega
      have HU := Lib.hid (fun w => refUpper_any l[k] hsz w)
      have HST := Lib.hid (varsFrom_step hlt)
      cases hu : upperS l[k] with
      | false =>
        rw [hu] at HU HST
        clear hu
        go_wp2_with (go_at_call 144; refine (HU.out _).mono ?_; rintro e w1 ⟨rfl, rfl⟩)
        go_ret
        exact ⟨ret_bool (by rw [HV.out, HST.out]; rfl), hx⟩
      | true =>
        rw [hu] at HU HST
        clear hu
        go_wp2_with (go_at_call 144; refine (HU.out _).mono ?_; rintro e w1 ⟨rfl, rfl⟩)
        obtain ⟨wo, rfl⟩ : ∃ wo : World, wo = wr := ⟨_, rfl⟩
        go_loopw [4] (fun i wr => ∃ j : Nat, j ≤ k ∧ i = .int .i64 j ∧ Ext wo wr ∧ ((l.take j).any fun u => decide (u = l[k])) = false) (fun i _ => k - (intOf i).toNat)
        case atStart => exact ⟨0, Nat.zero_le _, rfl, Below.refl _ _, rfl⟩
        case round =>
          obtain ⟨j, hj, rfl, hx2, hany⟩ := hrel
          have HANY := Lib.hid hany
          clear hany
          by_cases hjk : j < k
          · have hjk' : (j : Int) < k := by omega
            have hjl : j < l.length := by omega
            have hjl' : (j : Int) < l.length := by omega
            obtain ⟨b', o', hbo, -, g2, -⟩ := IsStrs.look (h.ext (hx.trans hx2)) hjl
            injection hbo with hbo
            injection hbo with e1 e2 _
            subst e1; subst e2
            replace g1 := hx2.cell g1
            have hst : ((l.take (j + 1)).any fun u => decide (u = l[k])) = (((l.take j).any fun u => decide (u = l[k])) || decide (l[j] = l[k])) := by
              rw [List.take_succ_eq_append_getElem hjl, List.any_append]; simp
            have HST2 := Lib.hid hst
            clear hst
            by_cases heq : l[k] = l[j]
            · have q1 : (l[k].toList == l[j].toList) = true := bytes_eq' heq
              have HEQ := Lib.hid heq
              clear heq
              go_wp2_with fail
              go_quiet (fail)
              go_wp2_with fail
              go_ret
              refine ⟨ret_bool ?_, hx.trans (Ext.drewN hx2 _)⟩
              have h1 : ((l.take k).any fun u => decide (u = l[k])) = true := List.any_eq_true.2 ⟨l[j], List.mem_take_iff_getElem.2 ⟨j, by omega, rfl⟩, by rw [HEQ.out]; simp⟩
              rw [HV.out, HST.out, h1]; rfl
            · have q1 : (l[k].toList == l[j].toList) = false := bytes_ne' heq
              have HEQ := Lib.hid heq
              clear heq
              go_wp2_with fail
              go_quiet (fail)
              go_wp2_with fail
              go_roundw
              case rel => exact ⟨j + 1, by omega, by go_num, Ext.drewN hx2 _, by rw [HST2.out, HANY.out, decide_eq_false (fun h => HEQ.out h.symm)]; rfl⟩
              case measure => simp [intOf]; omega
          · have hjk' : ¬ (j : Int) < k := by omega
            have hj2 : j = k := by omega
            have HJ := Lib.hid hj2
            clear hj2
            go_wp2_with fail
            go_roundw
            case rel =>
              have h1 := HANY.out
              rw [HJ.out] at h1
              exact ⟨k + 1, by omega, by go_num, hx.trans hx2, by rw [HV.out, HST.out, h1]; rfl⟩
            case measure => simp [intOf]; omega
    · have hlt' : ¬ (k : Int) < l.length := by omega
      go_wp2_with fail
      go_ret
      have : k = l.length := by omega
      subst this
      exact ⟨ret_bool (by rw [HV.out, List.drop_length]; rfl), hx⟩
end Go.Proofs.YtnclgkdpafhogaaGreat
namespace Go.Proofs.YtnclgkdpafhogaaGreat
open Go.ChangeShapes Go.WideShapes Go.ChangeAt Go.RowKit
theorem narrowTs_step {t : List Ex} {k : Nat} (h : k < t.length) : narrowTs (t.take (k + 1)) = (narrowTs (t.take k) && (decide (t[k].depth ≤ 30) && decide (t[k].wide ≤ 6))) := by
  unfold narrowTs
  rw [List.take_succ_eq_append_getElem h, List.all_append]; simp
theorem narrowTs_bad {t : List Ex} {k : Nat} (h : k < t.length) (hb : ¬ (t[k].depth ≤ 30 ∧ t[k].wide ≤ 6)) : narrowTs t = false := by
  unfold narrowTs
  cases h2 : t.all fun x => decide (x.depth ≤ 30) && decide (x.wide ≤ 6) with
  | false => rfl
  | true => have := List.all_eq_true.1 h2 t[k] (List.getElem_mem h); simp only [Bool.and_eq_true, decide_eq_true_eq] at this; exact absurd this hb
theorem narrows_step {l : List Fm} {k : Nat} (h : k < l.length) : Fm.narrows (l.take (k + 1)) = (Fm.narrows (l.take k) && l[k].narrow) := by
  rw [Fm.narrows_all, Fm.narrows_all, List.take_succ_eq_append_getElem h, List.all_append]; simp
theorem narrows_bad {l : List Fm} {k : Nat} (h : k < l.length) (hb : l[k].narrow = false) : Fm.narrows l = false := by
  rw [Fm.narrows_all]
  cases h2 : l.all Fm.narrow with
  | false => rfl
  | true => have := List.all_eq_true.1 h2 l[k] (List.getElem_mem h); rw [hb] at this; cases this
theorem mays_step {l : List Fm} {k : Nat} (h : k < l.length) : Fm.mays (l.take (k + 1)) = (Fm.mays (l.take k) && l[k].may) := by
  rw [Fm.mays_all, Fm.mays_all, List.take_succ_eq_append_getElem h, List.all_append]; simp
theorem mays_bad {l : List Fm} {k : Nat} (h : k < l.length) (hb : l[k].may = false) : Fm.mays l = false := by
  rw [Fm.mays_all]
  cases h2 : l.all Fm.may with
  | false => rfl
  | true => have := List.all_eq_true.1 h2 l[k] (List.getElem_mem h); rw [hb] at this; cases this
set_option maxHeartbeats 8000000 in
set_option maxRecDepth 100000 in
theorem narrow_any (t : Fm) : ∀ (P : Nat → Prop) (w : World) (x y z u : Value), IsFm P w x y z u t → t.size ≤ 4194304 →
    Calls Tryz.prog 54 #[.agg #[x, y, z, u]] w fun e w' => e = .returned (.bool t.narrow) ∧ Ext w w' := by
  induction t using Fm.ind with
  | h op v t l ih =>
    intro P w x y z u ht hs
    obtain ⟨va, vc, ta, tc, a, c, rfl, rfl, rfl, rfl, ho1, ho2, hvl, htl, hll, hvs, hts, hls⟩ := ht.form
    simp only [Fm.op, Fm.vars, Fm.terms, Fm.args] at *
    simp only [Fm.size] at hs
    have hkl := Fm.length_le_sizes l
    have hkt := Ex.length_le_sizes t
    obtain ⟨W, hW⟩ : ∃ W, W = w.alloc (.cells #[.int .i64 op, .slice va v.length vc, .slice ta t.length tc, .slice a l.length c] 29) := ⟨_, rfl⟩
    have hx : Ext w W := by rw [hW]; exact ext_alloc _ _
    obtain ⟨b0, b1, b2, b3⟩ := cells4' w (.int .i64 op) (.slice va v.length vc) (.slice ta t.length tc) (.slice a l.length c) 29
    rw [← hW] at b0 b1 b2 b3
    clear b0 b1 hvs ht
    have HN := Lib.hid (show Fm.narrow (.mk op v t l) = (narrowTs t && Fm.narrows l) by simp only [Fm.narrow])
    have HIH := Lib.hid ih
    clear ih
    go_enter Tryz.func54, Tryz.ntmps54
    go_wp2_with fail
    rw [← hW]
    clear hW
    go_loopw [3] (fun i wr => ∃ k : Nat, k ≤ t.length ∧ i = .int .i64 k ∧ Ext W wr ∧ narrowTs (t.take k) = true) (fun i _ => t.length - (intOf i).toNat)
    case atStart => exact ⟨0, Nat.zero_le _, rfl, Below.refl _ _, rfl⟩
    case round =>
      obtain ⟨k, hk, rfl, hxr, hm⟩ := hrel
      have HM := Lib.hid hm; clear hm
      replace b2 := hxr.cell b2
      replace b3 := hxr.cell b3
      by_cases hlt : k < t.length
      · obtain ⟨b, o, a', c', rfl, hb, g1, g2, g3, hi⟩ := (IsExs.ext hts (hx.trans hxr)).look hlt
        have hlt' : (k : Int) < t.length := by omega
        have hsz : t[k].size ≤ 4194304 := by have := Ex.size_le_sizes hlt; omega
        have HE := Lib.hid (refExprDepth_any t[k] P wr _ _ _ hi hsz)
        have HW := Lib.hid (fun w' (hx : Ext wr w') => refWide_any t[k] P w' _ _ _ (hi.ext hx) hsz)
        have HST := Lib.hid (narrowTs_step hlt)
        by_cases hd : t[k].depth ≤ 30
        · have q1 : decide ((30 : Int) < (t[k].depth : Nat)) = false := decide_eq_false (by omega)
          by_cases hw : t[k].wide ≤ 6
          · have q2 : decide ((6 : Int) < (t[k].wide : Nat)) = false := decide_eq_false (by omega)
            go_wp2_with (first | (go_at_call 103; refine (HE.out).mono ?_; rintro e w1 ⟨rfl, hx1⟩; replace b2 := hx1.cell b2; replace g1 := hx1.cell g1; replace g2 := hx1.cell g2; replace g3 := hx1.cell g3) | (go_at_call 104; refine (HW.out _ hx1).mono ?_; rintro e w2 ⟨rfl, hx2⟩))
            go_roundw
            case rel => exact ⟨k + 1, by omega, by go_num, (hxr.trans hx1).trans hx2, by rw [HST.out, HM.out, decide_eq_true hd, decide_eq_true hw]; rfl⟩
            case measure => simp [intOf]; omega
          · have q2 : decide ((6 : Int) < (t[k].wide : Nat)) = true := decide_eq_true (by omega)
            have HB := Lib.hid (narrowTs_bad hlt (fun h => hw h.2))
            clear hd hw
            go_wp2_with (first | (go_at_call 103; refine (HE.out).mono ?_; rintro e w1 ⟨rfl, hx1⟩; replace b2 := hx1.cell b2; replace g1 := hx1.cell g1; replace g2 := hx1.cell g2; replace g3 := hx1.cell g3) | (go_at_call 104; refine (HW.out _ hx1).mono ?_; rintro e w2 ⟨rfl, hx2⟩))
            go_ret
            exact ⟨ret_bool (by rw [HN.out, HB.out]; rfl), hx.trans ((hxr.trans hx1).trans hx2)⟩
        · have q1 : decide ((30 : Int) < (t[k].depth : Nat)) = true := decide_eq_true (by omega)
          have HB := Lib.hid (narrowTs_bad hlt (fun h => hd h.1))
          clear hd
          go_wp2_with (go_at_call 103; refine (HE.out).mono ?_; rintro e w1 ⟨rfl, hx1⟩)
          go_ret
          exact ⟨ret_bool (by rw [HN.out, HB.out]; rfl), hx.trans (hxr.trans hx1)⟩
      · have hlt' : ¬ (k : Int) < t.length := by omega
        have hkt2 : k = t.length := by omega
        have HNT := Lib.hid (show narrowTs t = true by have := HM.out; rwa [hkt2, List.take_length] at this)
        clear hkt2
        go_wp2_with fail
        obtain ⟨wo, rfl⟩ : ∃ wo : World, wo = wr := ⟨_, rfl⟩
        clear b2
        go_loopw [4] (fun i wr => ∃ j : Nat, j ≤ l.length ∧ i = .int .i64 j ∧ Ext wo wr ∧ Fm.narrows (l.take j) = true) (fun i _ => l.length - (intOf i).toNat)
        case atStart => exact ⟨0, Nat.zero_le _, rfl, Below.refl _ _, rfl⟩
        case round =>
          obtain ⟨j, hj, rfl, hxj, hm⟩ := hrel
          have HM2 := Lib.hid hm; clear hm
          replace b3 := hxj.cell b3
          by_cases hltj : j < l.length
          · obtain ⟨b, o, va', vc', ta', tc', a', c', rfl, hb, g1, g2, g3, g4, hi⟩ := (IsFms.ext hls ((hx.trans hxr).trans hxj)).look hltj
            have hltj' : (j : Int) < l.length := by omega
            have HE := Lib.hid (HIH.out _ (List.getElem_mem hltj) P wr _ _ _ _ hi (by have := Fm.size_le_sizes hltj; omega))
            have HST := Lib.hid (narrows_step hltj)
            cases hnn : l[j].narrow with
            | true =>
              rw [hnn] at HE HST
              clear hnn
              go_wp2_with (go_at_call 54; refine (HE.out).mono ?_; rintro e w1 ⟨rfl, hx1⟩)
              go_roundw
              case rel => exact ⟨j + 1, by omega, by go_num, hxj.trans hx1, by rw [HST.out, HM2.out]; rfl⟩
              case measure => simp [intOf]; omega
            | false =>
              rw [hnn] at HE
              have HB := Lib.hid (narrows_bad hltj hnn)
              clear hnn
              go_wp2_with (go_at_call 54; refine (HE.out).mono ?_; rintro e w1 ⟨rfl, hx1⟩)
              go_ret
              exact ⟨ret_bool (by rw [HN.out, HB.out, Bool.and_false]), hx.trans ((hxr.trans hxj).trans hx1)⟩
          · have hltj' : ¬ (j : Int) < l.length := by omega
            have hjl : j = l.length := by omega
            have HNL := Lib.hid (show Fm.narrows l = true by have := HM2.out; rwa [hjl, List.take_length] at this)
            clear hjl
            go_wp2_with fail
            go_ret
            exact ⟨ret_bool (by rw [HN.out, HNT.out, HNL.out]; rfl), hx.trans (hxr.trans hxj)⟩
end Go.Proofs.YtnclgkdpafhogaaGreat
namespace Go.Proofs.YtnclgkdpafhogaaGreat
open Go.ChangeShapes Go.WideShapes Go.ChangeAt Go.RowKit
theorem shape_bounds {op a b c : Int} (h : shapeOf op = some (a, b, c)) : (-1000 ≤ a ∧ a ≤ 1000) ∧ (-1000 ≤ b ∧ b ≤ 1000) ∧ (-1000 ≤ c ∧ c ≤ 1000) := by
  unfold shapeOf at h
  repeat' split at h
  all_goals first
    | (cases h; done)
    | (simp only [Option.some.injEq, Prod.mk.injEq] at h; omega)
/-- may a term stand in a formula of an op? -/
def termOk (op : Int) (x : Ex) : Bool := x.may && !(decide (op = 3) && x.var)
theorem topMay_some {op a b c : Int} {v : List ByteArray} {t : List Ex} {n : Nat} (h : shapeOf op = some (a, b, c)) : topMay op v t n = (counted v.length a && counted t.length b && counted n c && varsMay v && t.all (termOk op)) := by
  unfold topMay; rw [h]; rfl
theorem topMay_none {op : Int} {v : List ByteArray} {t : List Ex} {n : Nat} (h : shapeOf op = none) : topMay op v t n = false := by
  unfold topMay; rw [h]
theorem terms_step {op : Int} {t : List Ex} {k : Nat} (h : k < t.length) : (t.take (k + 1)).all (termOk op) = ((t.take k).all (termOk op) && termOk op t[k]) := by
  rw [List.take_succ_eq_append_getElem h, List.all_append]; simp
theorem terms_bad {op : Int} {t : List Ex} {k : Nat} (h : k < t.length) (hb : termOk op t[k] = false) : t.all (termOk op) = false := by
  cases h2 : t.all (termOk op) with
  | false => rfl
  | true => have := List.all_eq_true.1 h2 t[k] (List.getElem_mem h); rw [hb] at this; cases this
set_option maxHeartbeats 16000000 in
set_option maxRecDepth 100000 in
theorem refMay_any (t : Fm) : ∀ (P : Nat → Prop) (w : World) (x y z u : Value), IsFm P w x y z u t → t.size ≤ 4194304 →
    Calls Tryz.prog 55 #[.agg #[x, y, z, u]] w fun e w' => e = .returned (.bool t.may) ∧ Ext w w' := by
  induction t using Fm.ind with
  | h op v t l ih =>
    intro P w x y z u ht hs
    obtain ⟨va, vc, ta, tc, a, c, rfl, rfl, rfl, rfl, ho1, ho2, hvl, htl, hll, hvs, hts, hls⟩ := ht.form
    simp only [Fm.op, Fm.vars, Fm.terms, Fm.args] at *
    simp only [Fm.size] at hs
    have hkl := Fm.length_le_sizes l
    have hkt := Ex.length_le_sizes t
    obtain ⟨W, hW⟩ : ∃ W, W = w.alloc (.cells #[.int .i64 op, .slice va v.length vc, .slice ta t.length tc, .slice a l.length c] 29) := ⟨_, rfl⟩
    have hx : Ext w W := by rw [hW]; exact ext_alloc _ _
    obtain ⟨b0, b1, b2, b3⟩ := cells4' w (.int .i64 op) (.slice va v.length vc) (.slice ta t.length tc) (.slice a l.length c) 29
    rw [← hW] at b0 b1 b2 b3
    clear ht
    have HN := Lib.hid (show Fm.may (.mk op v t l) = (topMay op v t l.length && Fm.mays l) by simp only [Fm.may])
    have HIH := Lib.hid ih
    have HT := Lib.hid (fun w => table_any op w)
    have HV := Lib.hid (fun w' (hx : Ext w w') => refVarsMay_any v (by omega) P w' va vc (IsStrs.ext hvs hx))
    clear ih hvs
    unfold tableVals at HT
    cases hsh : shapeOf op with
    | none =>
      rw [hsh] at HT
      have HB := Lib.hid (topMay_none (v := v) (t := t) (n := l.length) hsh)
      clear hsh
      simp only [Option.getD_none, Option.isSome_none] at HT
      go_enter Tryz.func55, Tryz.ntmps55
      go_wp2_with (rw [← hW]; clear hW; go_at_call 105; refine (HT.out _).mono ?_; rintro e w1 ⟨rfl, rfl⟩)
      go_ret
      exact ⟨ret_bool (by rw [HN.out, HB.out]; rfl), hx⟩
    | some abc =>
    obtain ⟨sa, sb, sc⟩ := abc
    rw [hsh] at HT
    simp only [Option.getD_some, Option.isSome_some] at HT
    obtain ⟨⟨u1, u2⟩, ⟨u3, u4⟩, ⟨u5, u6⟩⟩ := shape_bounds hsh
    have HTM := Lib.hid (topMay_some (v := v) (t := t) (n := l.length) hsh)
    clear hsh
    have HC1 := Lib.hid (fun w => refCounted_any v.length sa (by omega) u1 u2 w)
    have HC2 := Lib.hid (fun w => refCounted_any t.length sb (by omega) u3 u4 w)
    have HC3 := Lib.hid (fun w => refCounted_any l.length sc (by omega) u5 u6 w)
    clear u1 u2 u3 u4 u5 u6
    cases hc1 : counted v.length sa with
    | false =>
      rw [hc1] at HC1 HTM
      clear hc1
      go_enter Tryz.func55, Tryz.ntmps55
      go_wp2_with (first | (rw [← hW]; clear hW; go_at_call 105; refine (HT.out _).mono ?_; rintro e w1 ⟨rfl, rfl⟩) | (go_at_call 106; with_reducible refine (HC1.out _).mono ?_; rintro e w1 ⟨rfl, rfl⟩))
      go_ret
      exact ⟨ret_bool (by rw [HN.out, HTM.out]; simp), hx⟩
    | true =>
    rw [hc1] at HC1 HTM
    clear hc1
    cases hc2 : counted t.length sb with
    | false =>
      rw [hc2] at HC2 HTM
      clear hc2
      go_enter Tryz.func55, Tryz.ntmps55
      go_wp2_with (first | (rw [← hW]; clear hW; go_at_call 105; refine (HT.out _).mono ?_; rintro e w1 ⟨rfl, rfl⟩) | (go_at_call 106; with_reducible refine (HC1.out _).mono ?_; rintro e w1 ⟨rfl, rfl⟩) | (go_at_call 106; with_reducible refine (HC2.out _).mono ?_; rintro e w1 ⟨rfl, rfl⟩))
      go_ret
      exact ⟨ret_bool (by rw [HN.out, HTM.out]; simp), hx⟩
    | true =>
    rw [hc2] at HC2 HTM
    clear hc2
    cases hc3 : counted l.length sc with
    | false =>
      rw [hc3] at HC3 HTM
      clear hc3
      go_enter Tryz.func55, Tryz.ntmps55
      go_wp2_with (first | (rw [← hW]; clear hW; go_at_call 105; refine (HT.out _).mono ?_; rintro e w1 ⟨rfl, rfl⟩) | (go_at_call 106; with_reducible refine (HC1.out _).mono ?_; rintro e w1 ⟨rfl, rfl⟩) | (go_at_call 106; with_reducible refine (HC2.out _).mono ?_; rintro e w1 ⟨rfl, rfl⟩) | (go_at_call 106; with_reducible refine (HC3.out _).mono ?_; rintro e w1 ⟨rfl, rfl⟩))
      go_ret
      exact ⟨ret_bool (by rw [HN.out, HTM.out]; simp), hx⟩
    | true =>
    rw [hc3] at HC3 HTM
    clear hc3
    cases hc4 : varsMay v with
    | false =>
      rw [hc4] at HV HTM
      clear hc4
      go_enter Tryz.func55, Tryz.ntmps55
      go_wp2_with (first | (rw [← hW]; clear hW; go_at_call 105; refine (HT.out _).mono ?_; rintro e w1 ⟨rfl, rfl⟩) | (go_at_call 106; with_reducible refine (HC1.out _).mono ?_; rintro e w1 ⟨rfl, rfl⟩) | (go_at_call 106; with_reducible refine (HC2.out _).mono ?_; rintro e w1 ⟨rfl, rfl⟩) | (go_at_call 106; with_reducible refine (HC3.out _).mono ?_; rintro e w1 ⟨rfl, rfl⟩) | (go_at_call 107; refine (HV.out _ hx).mono ?_; rintro e wv ⟨rfl, hxv⟩))
      go_ret
      exact ⟨ret_bool (by rw [HN.out, HTM.out]; simp), hx.trans hxv⟩
    | true =>
    rw [hc4] at HV HTM
    clear hc4
    simp only [Bool.true_and] at HTM
    go_enter Tryz.func55, Tryz.ntmps55
    go_wp2_with (first | (rw [← hW]; clear hW; go_at_call 105; refine (HT.out _).mono ?_; rintro e w1 ⟨rfl, rfl⟩) | (go_at_call 106; with_reducible refine (HC1.out _).mono ?_; rintro e w1 ⟨rfl, rfl⟩) | (go_at_call 106; with_reducible refine (HC2.out _).mono ?_; rintro e w1 ⟨rfl, rfl⟩) | (go_at_call 106; with_reducible refine (HC3.out _).mono ?_; rintro e w1 ⟨rfl, rfl⟩) | (go_at_call 107; refine (HV.out _ hx).mono ?_; rintro e wv ⟨rfl, hxv⟩; replace b0 := hxv.cell b0; replace b2 := hxv.cell b2; replace b3 := hxv.cell b3; clear b1))
    have hxx := hx.trans hxv
    clear HT HC1 HC2 HC3 HV
    go_loopw [7] (fun i wr => ∃ k : Nat, k ≤ t.length ∧ i = .int .i64 k ∧ Ext wv wr ∧ (t.take k).all (termOk op) = true) (fun i _ => t.length - (intOf i).toNat)
    case atStart => exact ⟨0, Nat.zero_le _, rfl, Below.refl _ _, rfl⟩
    case round =>
      obtain ⟨k, hk, rfl, hxr, hm⟩ := hrel
      have HM := Lib.hid hm; clear hm
      replace b0 := hxr.cell b0
      replace b2 := hxr.cell b2
      replace b3 := hxr.cell b3
      by_cases hlt : k < t.length
      · obtain ⟨b, o, a', c', rfl, hb, g1, g2, g3, hi⟩ := (IsExs.ext hts (hxx.trans hxr)).look hlt
        have hlt' : (k : Int) < t.length := by omega
        have hsz : t[k].size ≤ 4194304 := by have := Ex.size_le_sizes hlt; omega
        have HE := Lib.hid (refExprMay_any t[k] P wr _ _ _ hi hsz)
        have HST := Lib.hid (terms_step (op := op) hlt)
        have HBD := Lib.hid (terms_bad (op := op) hlt)
        have HTO := Lib.hid (show termOk op t[k] = (t[k].may && !(decide (op = 3) && t[k].var)) from rfl)
        cases hmk : t[k].may with
        | false =>
          rw [hmk] at HE HTO
          have HB := Lib.hid (HBD.out HTO.out)
          clear hmk HBD HTO
          go_wp2_with (go_at_call 108; refine (HE.out).mono ?_; rintro e w1 ⟨rfl, hx1⟩)
          go_ret
          exact ⟨ret_bool (by rw [HN.out, HTM.out, HB.out]; rfl), hxx.trans (hxr.trans hx1)⟩
        | true =>
          rw [hmk] at HE HTO
          clear hmk
          by_cases h3 : op = 3
          · have q3 : (op == 3) = true := by rw [beq_iff_eq]; exact h3
            rw [decide_eq_true h3] at HTO
            clear h3
            cases hvk : t[k].var with
            | true =>
              rw [hvk] at g1 HTO HE
              have HB := Lib.hid (HBD.out HTO.out)
              clear hvk HBD HTO hi
              go_wp2_with (go_at_call 108; refine (HE.out).mono ?_; rintro e w1 ⟨rfl, hx1⟩; replace b0 := hx1.cell b0; replace b2 := hx1.cell b2; replace g1 := hx1.cell g1)
              go_ret
              exact ⟨ret_bool (by rw [HN.out, HTM.out, HB.out]; rfl), hxx.trans (hxr.trans hx1)⟩
            | false =>
              rw [hvk] at g1 HTO HE
              clear hvk HBD hi
              go_wp2_with (go_at_call 108; refine (HE.out).mono ?_; rintro e w1 ⟨rfl, hx1⟩; replace b0 := hx1.cell b0; replace b2 := hx1.cell b2; replace g1 := hx1.cell g1)
              go_roundw
              case rel => exact ⟨k + 1, by omega, by go_num, hxr.trans hx1, by rw [HST.out, HM.out, HTO.out]; rfl⟩
              case measure => simp [intOf]; omega
          · have q3 : (op == 3) = false := by rw [beq_eq_false_iff_ne]; exact h3
            rw [decide_eq_false h3] at HTO
            clear h3 HBD
            go_wp2_with (go_at_call 108; refine (HE.out).mono ?_; rintro e w1 ⟨rfl, hx1⟩; replace b0 := hx1.cell b0; replace b2 := hx1.cell b2; replace g1 := hx1.cell g1)
            go_roundw
            case rel => exact ⟨k + 1, by omega, by go_num, hxr.trans hx1, by rw [HST.out, HM.out, HTO.out]; rfl⟩
            case measure => simp [intOf]; omega
      · have hlt' : ¬ (k : Int) < t.length := by omega
        have hkt2 : k = t.length := by omega
        have HNT := Lib.hid (show t.all (termOk op) = true by have := HM.out; rwa [hkt2, List.take_length] at this)
        clear hkt2
        go_wp2_with fail
        obtain ⟨wo, rfl⟩ : ∃ wo : World, wo = wr := ⟨_, rfl⟩
        clear b2 b0
        go_loopw [8] (fun i wr => ∃ j : Nat, j ≤ l.length ∧ i = .int .i64 j ∧ Ext wo wr ∧ Fm.mays (l.take j) = true) (fun i _ => l.length - (intOf i).toNat)
        case atStart => exact ⟨0, Nat.zero_le _, rfl, Below.refl _ _, rfl⟩
        case round =>
          obtain ⟨j, hj, rfl, hxj, hm⟩ := hrel
          have HM2 := Lib.hid hm; clear hm
          replace b3 := hxj.cell b3
          by_cases hltj : j < l.length
          · obtain ⟨b, o, va', vc', ta', tc', a', c', rfl, hb, g1, g2, g3, g4, hi⟩ := (IsFms.ext hls ((hxx.trans hxr).trans hxj)).look hltj
            have hltj' : (j : Int) < l.length := by omega
            have HE := Lib.hid (HIH.out _ (List.getElem_mem hltj) P wr _ _ _ _ hi (by have := Fm.size_le_sizes hltj; omega))
            have HST := Lib.hid (mays_step hltj)
            cases hnn : l[j].may with
            | true =>
              rw [hnn] at HE HST
              clear hnn
              go_wp2_with (go_at_call 55; refine (HE.out).mono ?_; rintro e w1 ⟨rfl, hx1⟩)
              go_roundw
              case rel => exact ⟨j + 1, by omega, by go_num, hxj.trans hx1, by rw [HST.out, HM2.out]; rfl⟩
              case measure => simp [intOf]; omega
            | false =>
              rw [hnn] at HE
              have HB := Lib.hid (mays_bad hltj hnn)
              clear hnn
              go_wp2_with (go_at_call 55; refine (HE.out).mono ?_; rintro e w1 ⟨rfl, hx1⟩)
              go_ret
              exact ⟨ret_bool (by rw [HN.out, HB.out, Bool.and_false]), hxx.trans ((hxr.trans hxj).trans hx1)⟩
          · have hltj' : ¬ (j : Int) < l.length := by omega
            have hjl : j = l.length := by omega
            have HNL := Lib.hid (show Fm.mays l = true by have := HM2.out; rwa [hjl, List.take_length] at this)
            clear hjl
            go_wp2_with fail
            go_ret
            exact ⟨ret_bool (by rw [HN.out, HTM.out, HNT.out, HNL.out]; rfl), hxx.trans (hxr.trans hxj)⟩
end Go.Proofs.YtnclgkdpafhogaaGreat
namespace Go.Proofs.YtnclgkdpafhogaaGreat
open Go.ChangeShapes Go.WideShapes Go.ChangeAt Go.RowKit
set_option maxHeartbeats 2000000 in
set_option maxRecDepth 100000 in
theorem refCheck_any (t : Fm) (P : Nat → Prop) (w : World) (x y z u : Value) (ht : IsFm P w x y z u t) (hs : t.size ≤ 4194304) :
    Calls Tryz.prog 22 #[.agg #[x, y, z, u]] w fun e w' => e = .returned (.int .i64 t.check) ∧ Ext w w' := by
  have H1 := Lib.hid (fun w' (hx : Ext w w') => refFsize_any t P w' x y z u (ht.ext hx) hs)
  have H2 := Lib.hid (fun w' (hx : Ext w w') => refFdepth_any t P w' x y z u (ht.ext hx) hs)
  have H3 := Lib.hid (fun w' (hx : Ext w w') => narrow_any t P w' x y z u (ht.ext hx) hs)
  have H4 := Lib.hid (fun w' (hx : Ext w w') => refMay_any t P w' x y z u (ht.ext hx) hs)
  obtain ⟨va, vc, ta, tc, a, c, rfl, rfl, rfl, rfl, -⟩ := ht.form
  clear ht
  obtain ⟨W, hW⟩ : ∃ W, W = w.alloc (.cells #[.int .i64 t.op, .slice va t.vars.length vc, .slice ta t.terms.length tc, .slice a t.args.length c] 29) := ⟨_, rfl⟩
  have hx : Ext w W := by rw [hW]; exact ext_alloc _ _
  obtain ⟨c0, c1, c2, c3⟩ := cells4' w (.int .i64 t.op) (.slice va t.vars.length vc) (.slice ta t.terms.length tc) (.slice a t.args.length c) 29
  rw [← hW] at c0 c1 c2 c3
  by_cases h1 : 300 < t.size
  · have q1 : decide ((300 : Int) < (t.size : Nat)) = true := decide_eq_true (by omega)
    have HR := Lib.hid (show t.check = 3 by unfold Fm.check; rw [if_pos (.inl h1)])
    clear h1
    go_enter Tryz.func22, Tryz.ntmps22
    go_wp2_with (rw [← hW]; clear hW; go_at_call 25; refine (H1.out _ hx).mono ?_; rintro e w1 ⟨rfl, hx1⟩; replace c0 := hx1.cell c0; replace c1 := hx1.cell c1; replace c2 := hx1.cell c2; replace c3 := hx1.cell c3)
    go_ret
    exact ⟨ret_int (by rw [HR.out]), hx.trans hx1⟩
  have q1 : decide ((300 : Int) < (t.size : Nat)) = false := decide_eq_false (by omega)
  by_cases h2 : 30 < t.depth
  · have q2 : decide ((30 : Int) < (t.depth : Nat)) = true := decide_eq_true (by omega)
    have HR := Lib.hid (show t.check = 3 by unfold Fm.check; rw [if_pos (.inr (.inl h2))])
    clear h1 h2
    go_enter Tryz.func22, Tryz.ntmps22
    go_wp2_with (first | (rw [← hW]; clear hW; go_at_call 25; refine (H1.out _ hx).mono ?_; rintro e w1 ⟨rfl, hx1⟩; replace c0 := hx1.cell c0; replace c1 := hx1.cell c1; replace c2 := hx1.cell c2; replace c3 := hx1.cell c3) | (go_at_call 45; refine (H2.out _ (hx.trans hx1)).mono ?_; rintro e w2 ⟨rfl, hx2⟩; replace c0 := hx2.cell c0; replace c1 := hx2.cell c1; replace c2 := hx2.cell c2; replace c3 := hx2.cell c3))
    go_ret
    exact ⟨ret_int (by rw [HR.out]), (hx.trans hx1).trans hx2⟩
  have q2 : decide ((30 : Int) < (t.depth : Nat)) = false := decide_eq_false (by omega)
  cases h3 : t.narrow with
  | false =>
    have HR := Lib.hid (show t.check = 3 by unfold Fm.check; rw [if_pos (.inr (.inr h3))])
    rw [h3] at H3
    clear h1 h2 h3
    go_enter Tryz.func22, Tryz.ntmps22
    go_wp2_with (first | (rw [← hW]; clear hW; go_at_call 25; refine (H1.out _ hx).mono ?_; rintro e w1 ⟨rfl, hx1⟩; replace c0 := hx1.cell c0; replace c1 := hx1.cell c1; replace c2 := hx1.cell c2; replace c3 := hx1.cell c3) | (go_at_call 45; refine (H2.out _ (hx.trans hx1)).mono ?_; rintro e w2 ⟨rfl, hx2⟩; replace c0 := hx2.cell c0; replace c1 := hx2.cell c1; replace c2 := hx2.cell c2; replace c3 := hx2.cell c3) | (go_at_call 54; refine (H3.out _ ((hx.trans hx1).trans hx2)).mono ?_; rintro e w3 ⟨rfl, hx3⟩; replace c0 := hx3.cell c0; replace c1 := hx3.cell c1; replace c2 := hx3.cell c2; replace c3 := hx3.cell c3))
    go_ret
    exact ⟨ret_int (by rw [HR.out]), ((hx.trans hx1).trans hx2).trans hx3⟩
  | true =>
    rw [h3] at H3
    have HR := Lib.hid (show t.check = if t.may then 0 else 2 by unfold Fm.check; rw [if_neg (by rintro (h | h | h); exact h1 h; exact h2 h; rw [h3] at h; cases h)])
    clear h1 h2 h3
    cases h4 : t.may with
    | false =>
      rw [h4] at H4 HR
      clear h4
      go_enter Tryz.func22, Tryz.ntmps22
      go_wp2_with (first | (rw [← hW]; clear hW; go_at_call 25; refine (H1.out _ hx).mono ?_; rintro e w1 ⟨rfl, hx1⟩; replace c0 := hx1.cell c0; replace c1 := hx1.cell c1; replace c2 := hx1.cell c2; replace c3 := hx1.cell c3) | (go_at_call 45; refine (H2.out _ (hx.trans hx1)).mono ?_; rintro e w2 ⟨rfl, hx2⟩; replace c0 := hx2.cell c0; replace c1 := hx2.cell c1; replace c2 := hx2.cell c2; replace c3 := hx2.cell c3) | (go_at_call 54; refine (H3.out _ ((hx.trans hx1).trans hx2)).mono ?_; rintro e w3 ⟨rfl, hx3⟩; replace c0 := hx3.cell c0; replace c1 := hx3.cell c1; replace c2 := hx3.cell c2; replace c3 := hx3.cell c3) | (go_at_call 55; refine (H4.out _ (((hx.trans hx1).trans hx2).trans hx3)).mono ?_; rintro e w4 ⟨rfl, hx4⟩))
      go_ret
      exact ⟨ret_int (by rw [HR.out]; rfl), (((hx.trans hx1).trans hx2).trans hx3).trans hx4⟩
    | true =>
      rw [h4] at H4 HR
      clear h4
      go_enter Tryz.func22, Tryz.ntmps22
      go_wp2_with (first | (rw [← hW]; clear hW; go_at_call 25; refine (H1.out _ hx).mono ?_; rintro e w1 ⟨rfl, hx1⟩; replace c0 := hx1.cell c0; replace c1 := hx1.cell c1; replace c2 := hx1.cell c2; replace c3 := hx1.cell c3) | (go_at_call 45; refine (H2.out _ (hx.trans hx1)).mono ?_; rintro e w2 ⟨rfl, hx2⟩; replace c0 := hx2.cell c0; replace c1 := hx2.cell c1; replace c2 := hx2.cell c2; replace c3 := hx2.cell c3) | (go_at_call 54; refine (H3.out _ ((hx.trans hx1).trans hx2)).mono ?_; rintro e w3 ⟨rfl, hx3⟩; replace c0 := hx3.cell c0; replace c1 := hx3.cell c1; replace c2 := hx3.cell c2; replace c3 := hx3.cell c3) | (go_at_call 55; refine (H4.out _ (((hx.trans hx1).trans hx2).trans hx3)).mono ?_; rintro e w4 ⟨rfl, hx4⟩))
      go_ret
      exact ⟨ret_int (by rw [HR.out]; rfl), (((hx.trans hx1).trans hx2).trans hx3).trans hx4⟩
end Go.Proofs.YtnclgkdpafhogaaGreat
namespace Go.Proofs.YtnclgkdpafhogaaGreat
open Go.ChangeShapes Go.WideShapes Go.ChangeAt Go.RowKit
theorem Ex.same_false {a b : Ex} (h : a ≠ b) : Ex.same a b = false := by
  cases hs : Ex.same a b with
  | false => rfl
  | true => exact absurd ((Ex.same_iff a b).1 hs) h
theorem Ex.same_true {a b : Ex} (h : a = b) : Ex.same a b = true := (Ex.same_iff a b).2 h
set_option maxHeartbeats 8000000 in
set_option maxRecDepth 100000 in
theorem refSameExpr_any (t : Ex) : ∀ (u : Ex) (P Q : Nat → Prop) (w : World) (x y z x' y' z' : Value), IsEx P w x y z t → IsEx Q w x' y' z' u → t.size ≤ 4194304 →
    Calls Tryz.prog 42 #[.agg #[x, y, z], .agg #[x', y', z']] w fun e w' => e = .returned (.bool (Ex.same t u)) ∧ Ext w w' := by
  induction t using Ex.ind with
  | h v nm l ih =>
    intro u P Q w x y z x' y' z' ht hu hs
    obtain ⟨v', nm', l'⟩ := u
    obtain ⟨a, c, rfl, rfl, rfl, hn, hc1, hk⟩ := ht.form
    obtain ⟨a', c', rfl, rfl, rfl, hn', hc1', hk'⟩ := hu.form
    simp only [Ex.var, Ex.name, Ex.args] at hn hc1 hk hn' hc1' hk' ⊢
    simp only [Ex.size] at hs
    have hkl := Ex.length_le_sizes l
    have HIH := Lib.hid ih
    clear ih ht hu
    by_cases hv : v = v'
    case neg =>
      have q1 : (v != v') = true := by rw [bne_iff_ne]; exact hv
      have HR := Lib.hid (Ex.same_false (a := .mk v nm l) (b := .mk v' nm' l') (fun h => hv (by injection h)))
      have hvf : (v == v') = false := by rw [beq_eq_false_iff_ne]; exact hv
      go_enter Tryz.func42, Tryz.ntmps42
      go_wp2_with fail
      go_ret
      exact ⟨ret_bool (by rw [HR.out]), (ext_alloc _ _).alloc _⟩
    subst hv
    by_cases hnm : nm = nm'
    case neg =>
      have q2 : (nm.toList == nm'.toList) = false := bytes_ne' hnm
      have HR := Lib.hid (Ex.same_false (a := .mk v nm l) (b := .mk v nm' l') (fun h => hnm (by injection h)))
      clear hnm
      go_enter Tryz.func42, Tryz.ntmps42
      go_wp2_with fail
      go_ret
      exact ⟨ret_bool (by rw [HR.out]), (ext_alloc _ _).alloc _⟩
    subst hnm
    have q2 : (nm.toList == nm.toList) = true := bytes_eq' rfl
    by_cases hll : l.length = l'.length
    case neg =>
      have q3 : ((l.length : Int) != (l'.length : Nat)) = true := by rw [bne_iff_ne]; omega
      have HR := Lib.hid (Ex.same_false (a := .mk v nm l) (b := .mk v nm l') (fun h => hll (by injection h with _ _ h; rw [h])))
      clear hll
      go_enter Tryz.func42, Tryz.ntmps42
      go_wp2_with fail
      go_ret
      exact ⟨ret_bool (by rw [HR.out]), (ext_alloc _ _).alloc _⟩
    have q3 : ((l.length : Int) != (l'.length : Nat)) = false := by rw [bne_eq_false_iff_eq]; omega
    have HLL := Lib.hid hll
    have hle : l.length ≤ l'.length := by omega
    clear hll
    go_enter Tryz.func42, Tryz.ntmps42
    go_wp2_with fail
    obtain ⟨W, hW⟩ : ∃ W, W = (w.alloc (.cells #[.bool v, .string nm, .slice a l.length c] 73)).alloc (.cells #[.bool v, .string nm, .slice a' l'.length c'] 73) := ⟨_, rfl⟩
    have hx : Ext w W := by rw [hW]; exact (ext_alloc _ _).alloc _
    have b2 : W.cell? ⟨w.heap.size, 2, none⟩ = some (.slice a l.length c) := by rw [hW]; exact (ext_alloc _ _).cell (own3 w _ _ _ _ 2 _ rfl).1
    have d2 : W.cell? ⟨w.heap.size + 1, 2, none⟩ = some (.slice a' l'.length c') := by
      rw [hW]
      have := (own3 (w.alloc (.cells #[.bool v, .string nm, .slice a l.length c] 73)) (.bool v) (.string nm) (.slice a' l'.length c') 73 2 _ rfl).1
      rw [World.size_alloc] at this; exact this
    rw [← hW]
    clear hW
    go_loopw [5] (fun i wr => ∃ k : Nat, k ≤ l.length ∧ i = .int .i64 k ∧ Ext W wr ∧ l.take k = l'.take k) (fun i _ => l.length - (intOf i).toNat)
    case atStart => exact ⟨0, Nat.zero_le _, rfl, Below.refl _ _, rfl⟩
    case round =>
      obtain ⟨k, hkk, rfl, hxr, hm⟩ := hrel
      have HM := Lib.hid hm
      clear hm
      replace b2 := hxr.cell b2
      replace d2 := hxr.cell d2
      by_cases hlt : k < l.length
      · obtain ⟨b, o, aa, cc, rfl, hb, g1, g2, g3, hi⟩ := (IsExs.ext hk (hx.trans hxr)).look hlt
        have hlt2 : k < l'.length := by omega
        obtain ⟨bb, oo, aa', cc', rfl, hbb, j1, j2, j3, hi'⟩ := (IsExs.ext hk' (hx.trans hxr)).look hlt2
        have hlt' : (k : Int) < l.length := by omega
        have hlt2' : (k : Int) < l'.length := by omega
        have HE := Lib.hid (fun w' (hx : Ext wr w') => HIH.out _ (List.getElem_mem hlt) l'[k] P Q w' _ _ _ _ _ _ (hi.ext hx) (hi'.ext hx) (by have := Ex.size_le_sizes hlt; omega))
        have HST := Lib.hid (show l.take (k + 1) = l.take k ++ [l[k]] from List.take_succ_eq_append_getElem hlt)
        have HST' := Lib.hid (show l'.take (k + 1) = l'.take k ++ [l'[k]] from List.take_succ_eq_append_getElem hlt2)
        go_wp2_with fail
        go_still_tail 10, (by kernel_rfl)
        change wpList _ _ _ _ _ wr.drew
        by_cases he : l[k] = l'[k]
        · have HS := Lib.hid (Ex.same_true he)
          rw [HS.out] at HE
          have HEQ := Lib.hid he
          clear he
          go_wp2_with (go_at_call 42; refine (HE.out _ (Ext.drew (Below.refl _ _))).mono ?_; rintro e w1 ⟨rfl, hx1⟩)
          go_roundw
          case rel => exact ⟨k + 1, by omega, by go_num, hxr.trans ((Ext.drew (Below.refl _ wr)).trans hx1), by rw [HST.out, HST'.out, HM.out, HEQ.out]⟩
          case measure => simp [intOf]; omega
        · have HS := Lib.hid (Ex.same_false he)
          rw [HS.out] at HE
          have HR := Lib.hid (Ex.same_false (a := .mk v nm l) (b := .mk v nm l') (fun h => he (by injection h with _ _ h; subst h; rfl)))
          clear he
          go_wp2_with (go_at_call 42; refine (HE.out _ (Ext.drew (Below.refl _ _))).mono ?_; rintro e w1 ⟨rfl, hx1⟩)
          go_ret
          exact ⟨ret_bool (by rw [HR.out]), (hx.trans hxr).trans ((Ext.drew (Below.refl _ wr)).trans hx1)⟩
      · have hlt' : ¬ (k : Int) < l.length := by omega
        have hke : k = l.length := by omega
        have HR := Lib.hid (Ex.same_true (a := .mk v nm l) (b := .mk v nm l') (by
          have h1 := HM.out
          rw [hke, List.take_length, HLL.out, List.take_length] at h1
          rw [h1]))
        clear hke
        go_wp2_with fail
        go_ret
        exact ⟨ret_bool (by rw [HR.out]), hx.trans hxr⟩
end Go.Proofs.YtnclgkdpafhogaaGreat
namespace Go.Proofs.YtnclgkdpafhogaaGreat
open Go.ChangeShapes Go.WideShapes Go.ChangeAt Go.RowKit
theorem Fm.same_false {a b : Fm} (h : a ≠ b) : Fm.same a b = false := by
  cases hs : Fm.same a b with
  | false => rfl
  | true => exact absurd ((Fm.same_iff a b).1 hs) h
theorem Fm.same_true {a b : Fm} (h : a = b) : Fm.same a b = true := (Fm.same_iff a b).2 h
set_option maxHeartbeats 16000000 in
set_option maxRecDepth 100000 in
theorem refSame_any (f : Fm) : ∀ (g : Fm) (P Q : Nat → Prop) (w : World) (x y z u x' y' z' u' : Value), IsFm P w x y z u f → IsFm Q w x' y' z' u' g → f.size ≤ 4194304 →
    Calls Tryz.prog 14 #[.agg #[x, y, z, u], .agg #[x', y', z', u']] w fun e w' => e = .returned (.bool (Fm.same f g)) ∧ Ext w w' := by
  induction f using Fm.ind with
  | h op v t l ih =>
    intro g P Q w x y z u x' y' z' u' hf hg hs
    obtain ⟨op', v', t', l'⟩ := g
    obtain ⟨va, vc, ta, tc, a, c, rfl, rfl, rfl, rfl, ho1, ho2, hvl, htl, hll0, hvs, hts, hls⟩ := hf.form
    obtain ⟨va', vc', ta', tc', a', c', rfl, rfl, rfl, rfl, ho1', ho2', hvl', htl', hll0', hvs', hts', hls'⟩ := hg.form
    simp only [Fm.op, Fm.vars, Fm.terms, Fm.args] at *
    simp only [Fm.size] at hs
    have hkl := Fm.length_le_sizes l
    have hkt := Ex.length_le_sizes t
    have HIH := Lib.hid ih
    clear ih hf hg
    by_cases hop : op = op'
    case neg =>
      have q1 : (op != op') = true := by rw [bne_iff_ne]; exact hop
      have HR := Lib.hid (Fm.same_false (a := .mk op v t l) (b := .mk op' v' t' l') (fun h => hop (by injection h)))
      clear hop
      go_enter Tryz.func14, Tryz.ntmps14
      go_wp2_with fail
      go_ret
      exact ⟨ret_bool (by rw [HR.out]), (ext_alloc _ _).alloc _⟩
    subst hop
    have q1 : (op != op) = false := by rw [bne_eq_false_iff_eq]
    by_cases hvv : v.length = v'.length
    case neg =>
      have q2 : ((v.length : Int) != (v'.length : Nat)) = true := by rw [bne_iff_ne]; omega
      have HR := Lib.hid (Fm.same_false (a := .mk op v t l) (b := .mk op v' t' l') (fun h => hvv (by injection h with _ h; rw [h])))
      clear hvv
      go_enter Tryz.func14, Tryz.ntmps14
      go_wp2_with fail
      go_ret
      exact ⟨ret_bool (by rw [HR.out]), (ext_alloc _ _).alloc _⟩
    have q2 : ((v.length : Int) != (v'.length : Nat)) = false := by rw [bne_eq_false_iff_eq]; omega
    have HL2 := Lib.hid hvv
    have hle2 : v.length ≤ v'.length := by omega
    clear hvv
    by_cases htt : t.length = t'.length
    case neg =>
      have q3 : ((t.length : Int) != (t'.length : Nat)) = true := by rw [bne_iff_ne]; omega
      have HR := Lib.hid (Fm.same_false (a := .mk op v t l) (b := .mk op v' t' l') (fun h => htt (by injection h with _ _ h; rw [h])))
      clear htt
      go_enter Tryz.func14, Tryz.ntmps14
      go_wp2_with fail
      go_ret
      exact ⟨ret_bool (by rw [HR.out]), (ext_alloc _ _).alloc _⟩
    have q3 : ((t.length : Int) != (t'.length : Nat)) = false := by rw [bne_eq_false_iff_eq]; omega
    have HL3 := Lib.hid htt
    have hle3 : t.length ≤ t'.length := by omega
    clear htt
    by_cases hll : l.length = l'.length
    case neg =>
      have q4 : ((l.length : Int) != (l'.length : Nat)) = true := by rw [bne_iff_ne]; omega
      have HR := Lib.hid (Fm.same_false (a := .mk op v t l) (b := .mk op v' t' l') (fun h => hll (by injection h with _ _ _ h; rw [h])))
      clear hll
      go_enter Tryz.func14, Tryz.ntmps14
      go_wp2_with fail
      go_ret
      exact ⟨ret_bool (by rw [HR.out]), (ext_alloc _ _).alloc _⟩
    have q4 : ((l.length : Int) != (l'.length : Nat)) = false := by rw [bne_eq_false_iff_eq]; omega
    have HL4 := Lib.hid hll
    have hle4 : l.length ≤ l'.length := by omega
    clear hll
    go_enter Tryz.func14, Tryz.ntmps14
    go_wp2_with fail
    obtain ⟨W, hW⟩ : ∃ W, W = (w.alloc (.cells #[.int .i64 op, .slice va v.length vc, .slice ta t.length tc, .slice a l.length c] 29)).alloc (.cells #[.int .i64 op, .slice va' v'.length vc', .slice ta' t'.length tc', .slice a' l'.length c'] 29) := ⟨_, rfl⟩
    have hx : Ext w W := by rw [hW]; exact (ext_alloc _ _).alloc _
    have hO1 : Own W w.heap.size [.int .i64 op, .slice va v.length vc, .slice ta t.length tc, .slice a l.length c] := by rw [hW]; exact (own4 w _ _ _ _ _).ext (ext_alloc _ _)
    have hO2 : Own W (w.heap.size + 1) [.int .i64 op, .slice va' v'.length vc', .slice ta' t'.length tc', .slice a' l'.length c'] := by
      rw [hW]
      have := own4 (w.alloc (.cells #[.int .i64 op, .slice va v.length vc, .slice ta t.length tc, .slice a l.length c] 29)) (.int .i64 op) (.slice va' v'.length vc') (.slice ta' t'.length tc') (.slice a' l'.length c') 29
      rw [World.size_alloc] at this; exact this
    rw [← hW]
    clear hW
    go_loopw [5] (fun i wr => ∃ k : Nat, k ≤ v.length ∧ i = .int .i64 k ∧ Ext W wr ∧ v.take k = v'.take k) (fun i _ => v.length - (intOf i).toNat)
    case atStart => exact ⟨0, Nat.zero_le _, rfl, Below.refl _ _, rfl⟩
    case round =>
      obtain ⟨k, hkk, rfl, hxr, hm⟩ := hrel
      have HM := Lib.hid hm
      clear hm
      have b1 := (hO1.ext hxr 1 _ rfl).1
      have d1 := (hO2.ext hxr 1 _ rfl).1
      by_cases hlt : k < v.length
      · obtain ⟨b, o, rfl, hb, g1, -⟩ := IsStrs.look (hvs.ext (hx.trans hxr)) hlt
        have hlt2 : k < v'.length := by omega
        obtain ⟨bb, oo, rfl, hbb, j1, -⟩ := IsStrs.look (hvs'.ext (hx.trans hxr)) hlt2
        have hlt' : (k : Int) < v.length := by omega
        have hlt2' : (k : Int) < v'.length := by omega
        have HST := Lib.hid (show v.take (k + 1) = v.take k ++ [v[k]] from List.take_succ_eq_append_getElem hlt)
        have HST' := Lib.hid (show v'.take (k + 1) = v'.take k ++ [v'[k]] from List.take_succ_eq_append_getElem hlt2)
        by_cases he : v[k] = v'[k]
        · have p1 : (v[k].toList == v'[k].toList) = true := bytes_eq' he
          have HEQ := Lib.hid he
          clear he
          go_wp2_with fail
          go_quiet (fail)
          go_wp2_with fail
          go_roundw
          case rel => exact ⟨k + 1, by omega, by go_num, Ext.drewN hxr _, by rw [HST.out, HST'.out, HM.out, HEQ.out]⟩
          case measure => simp [intOf]; omega
        · have p1 : (v[k].toList == v'[k].toList) = false := bytes_ne' he
          have HR := Lib.hid (Fm.same_false (a := .mk op v t l) (b := .mk op v' t' l') (fun h => he (by injection h with _ h; subst h; rfl)))
          clear he
          go_wp2_with fail
          go_quiet (fail)
          go_wp2_with fail
          go_ret
          exact ⟨ret_bool (by rw [HR.out]), Ext.drewN (hx.trans hxr) _⟩
      · have hlt' : ¬ (k : Int) < v.length := by omega
        have HV := Lib.hid (show v = v' by
          have h1 := HM.out
          have hke : k = v.length := by omega
          rw [hke, List.take_length, HL2.out, List.take_length] at h1
          exact h1)
        go_wp2_with fail
        obtain ⟨wo, rfl⟩ : ∃ wo : World, wo = wr := ⟨_, rfl⟩
        have hO1' := hO1.ext hxr
        have hO2' := hO2.ext hxr
        have hxx := hx.trans hxr
        clear b1 d1 hO1 hO2 hvs hvs' HM
        go_loopw [6] (fun i wr => ∃ k : Nat, k ≤ t.length ∧ i = .int .i64 k ∧ Ext wo wr ∧ t.take k = t'.take k) (fun i _ => t.length - (intOf i).toNat)
        case atStart => exact ⟨0, Nat.zero_le _, rfl, Below.refl _ _, rfl⟩
        case round =>
          obtain ⟨k, hkk, rfl, hxr2, hm⟩ := hrel
          have HM := Lib.hid hm
          clear hm
          have b2 := (hO1'.ext hxr2 2 _ rfl).1
          have d2 := (hO2'.ext hxr2 2 _ rfl).1
          by_cases hlt : k < t.length
          · obtain ⟨b, o, aa, cc, rfl, hb, g1, g2, g3, hi⟩ := (IsExs.ext hts (hxx.trans hxr2)).look hlt
            have hlt2 : k < t'.length := by omega
            obtain ⟨bb, oo, aa', cc', rfl, hbb, j1, j2, j3, hi'⟩ := (IsExs.ext hts' (hxx.trans hxr2)).look hlt2
            have hlt' : (k : Int) < t.length := by omega
            have hlt2' : (k : Int) < t'.length := by omega
            have HE := Lib.hid (fun w' (hx : Ext wr w') => refSameExpr_any t[k] t'[k] P Q w' _ _ _ _ _ _ (hi.ext hx) (hi'.ext hx) (by have := Ex.size_le_sizes hlt; omega))
            have HST := Lib.hid (show t.take (k + 1) = t.take k ++ [t[k]] from List.take_succ_eq_append_getElem hlt)
            have HST' := Lib.hid (show t'.take (k + 1) = t'.take k ++ [t'[k]] from List.take_succ_eq_append_getElem hlt2)
            go_wp2_with fail
            go_still_tail 10, (by kernel_rfl)
            change wpList _ _ _ _ _ wr.drew
            by_cases he : t[k] = t'[k]
            · have HS := Lib.hid (Ex.same_true he)
              rw [HS.out] at HE
              have HEQ := Lib.hid he
              clear he
              go_wp2_with (go_at_call 42; refine (HE.out _ (Ext.drew (Below.refl _ _))).mono ?_; rintro e w1 ⟨rfl, hx1⟩)
              go_roundw
              case rel => exact ⟨k + 1, by omega, by go_num, hxr2.trans ((Ext.drew (Below.refl _ wr)).trans hx1), by rw [HST.out, HST'.out, HM.out, HEQ.out]⟩
              case measure => simp [intOf]; omega
            · have HS := Lib.hid (Ex.same_false he)
              rw [HS.out] at HE
              have HR := Lib.hid (Fm.same_false (a := .mk op v t l) (b := .mk op v' t' l') (fun h => he (by injection h with _ _ h; subst h; rfl)))
              clear he
              go_wp2_with (go_at_call 42; refine (HE.out _ (Ext.drew (Below.refl _ _))).mono ?_; rintro e w1 ⟨rfl, hx1⟩)
              go_ret
              exact ⟨ret_bool (by rw [HR.out]), (hxx.trans hxr2).trans ((Ext.drew (Below.refl _ wr)).trans hx1)⟩
          · have hlt' : ¬ (k : Int) < t.length := by omega
            have HTT := Lib.hid (show t = t' by
              have h1 := HM.out
              have hke : k = t.length := by omega
              rw [hke, List.take_length, HL3.out, List.take_length] at h1
              exact h1)
            go_wp2_with fail
            obtain ⟨wp, rfl⟩ : ∃ wp : World, wp = wr := ⟨_, rfl⟩
            have hO1'' := hO1'.ext hxr2
            have hO2'' := hO2'.ext hxr2
            have hxy := hxx.trans hxr2
            clear b2 d2 hO1' hO2' hts hts' HM
            go_loopw [7] (fun i wr => ∃ k : Nat, k ≤ l.length ∧ i = .int .i64 k ∧ Ext wp wr ∧ l.take k = l'.take k) (fun i _ => l.length - (intOf i).toNat)
            case atStart => exact ⟨0, Nat.zero_le _, rfl, Below.refl _ _, rfl⟩
            case round =>
              obtain ⟨k, hkk, rfl, hxr3, hm⟩ := hrel
              have HM := Lib.hid hm
              clear hm
              have b3 := (hO1''.ext hxr3 3 _ rfl).1
              have d3 := (hO2''.ext hxr3 3 _ rfl).1
              by_cases hlt : k < l.length
              · obtain ⟨b, o, y1, y2, y3, y4, aa, cc, rfl, hb, g1, g2, g3, g4, hi⟩ := (IsFms.ext hls (hxy.trans hxr3)).look hlt
                have hlt2 : k < l'.length := by omega
                obtain ⟨bb, oo, y1', y2', y3', y4', aa', cc', rfl, hbb, j1, j2, j3, j4, hi'⟩ := (IsFms.ext hls' (hxy.trans hxr3)).look hlt2
                have hlt' : (k : Int) < l.length := by omega
                have hlt2' : (k : Int) < l'.length := by omega
                have HE := Lib.hid (fun w' (hx : Ext wr w') => HIH.out _ (List.getElem_mem hlt) l'[k] P Q w' _ _ _ _ _ _ _ _ (hi.ext hx) (hi'.ext hx) (by have := Fm.size_le_sizes hlt; omega))
                have HST := Lib.hid (show l.take (k + 1) = l.take k ++ [l[k]] from List.take_succ_eq_append_getElem hlt)
                have HST' := Lib.hid (show l'.take (k + 1) = l'.take k ++ [l'[k]] from List.take_succ_eq_append_getElem hlt2)
                go_wp2_with fail
                go_still_tail 10, (by kernel_rfl)
                change wpList _ _ _ _ _ wr.drew
                by_cases he : l[k] = l'[k]
                · have HS := Lib.hid (Fm.same_true he)
                  rw [HS.out] at HE
                  have HEQ := Lib.hid he
                  clear he
                  go_wp2_with (go_at_call 14; refine (HE.out _ (Ext.drew (Below.refl _ _))).mono ?_; rintro e w1 ⟨rfl, hx1⟩)
                  go_roundw
                  case rel => exact ⟨k + 1, by omega, by go_num, hxr3.trans ((Ext.drew (Below.refl _ wr)).trans hx1), by rw [HST.out, HST'.out, HM.out, HEQ.out]⟩
                  case measure => simp [intOf]; omega
                · have HS := Lib.hid (Fm.same_false he)
                  rw [HS.out] at HE
                  have HR := Lib.hid (Fm.same_false (a := .mk op v t l) (b := .mk op v' t' l') (fun h => he (by injection h with _ _ _ h; subst h; rfl)))
                  clear he
                  go_wp2_with (go_at_call 14; refine (HE.out _ (Ext.drew (Below.refl _ _))).mono ?_; rintro e w1 ⟨rfl, hx1⟩)
                  go_ret
                  exact ⟨ret_bool (by rw [HR.out]), (hxy.trans hxr3).trans ((Ext.drew (Below.refl _ wr)).trans hx1)⟩
              · have hlt' : ¬ (k : Int) < l.length := by omega
                have HR := Lib.hid (Fm.same_true (a := .mk op v t l) (b := .mk op v' t' l') (by
                  have h1 := HM.out
                  have hke : k = l.length := by omega
                  rw [hke, List.take_length, HL4.out, List.take_length] at h1
                  rw [h1, HV.out, HTT.out]))
                go_wp2_with fail
                go_ret
                exact ⟨ret_bool (by rw [HR.out]), hxy.trans hxr3⟩
end Go.Proofs.YtnclgkdpafhogaaGreat
