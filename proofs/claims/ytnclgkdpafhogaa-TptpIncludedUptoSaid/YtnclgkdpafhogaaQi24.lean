/- formula.May. Condition: at most 4194304 parts. -/
import Derived.Test.YtnclgkdpafhogaaQi23
import Derived.Test.YtnclgkdpafhogaaQi13
import Derived.Maps.Own
import Derived.Maps.OwnOps
import Derived.Maps.OwnSet
import Derived.Maps.Views
import Derived.StringKeys
namespace Go.Proofs.Ytnclgkdpafhogaa
open Go.ChangeShapes Go.WideShapes Go.ChangeAt Go.RowKit Go.Maps
/-- the map holds the texts that were met -/
def SeenMap (w : World) (mb n : Nat) (pre : List ByteArray) : Prop :=
  ∃ D : DataW Unit, IsMap D ∧ w.ownsMap Try.prog 9 (plainElem Try.prog 4) mb n D ∧ ∀ s : ByteArray, s.size ≤ maxLen → D.atKey (.string s.data.toList) (.lit (.bool false)) = .lit (.bool (pre.any fun u => decide (u = s)))
theorem strKeyed : Keyed Try.prog 9 := Maps.string_keyed Try.underlying9
set_option maxRecDepth 100000 in
theorem plainElem_bool_inv {v : Value} {z : DataW Unit × List MemPlace} (h : plainElem Try.prog 4 v = some z) : ∃ b, v = .bool b ∧ z = (.lit (.bool b), []) := by
  unfold plainElem at h
  rw [Try.underlying4] at h
  cases v <;> simp at h
  exact ⟨_, rfl, h.symm⟩
set_option maxRecDepth 100000 in
theorem seen_look {w : World} {mb n : Nat} {pre : List ByteArray} (h : SeenMap w mb n pre) {s : ByteArray} (hs : s.size ≤ maxLen) :
    (Instr.lookup 108 (.map (some mb)) (.string s) false).run Try.prog w = .ok (.bool (pre.any fun u => decide (u = s))) w := by
  obtain ⟨D, hD, hown, hat⟩ := h
  obtain ⟨v, ps, hrun, hv⟩ := hown.lookup strKeyed Try.underlying108 (z := .bool false) (by kernel_rfl) (plainElem_bool Try.underlying4 false) (WideMaps.keyOf_string_mk Try.underlying9 hs)
  obtain ⟨b, rfl, hz⟩ := plainElem_bool_inv hv
  rw [hat s hs] at hz
  injection hz with h1 h2
  injection h1 with h1
  injection h1 with h1
  rw [hrun, ← h1]
theorem toList_inj' {a b : ByteArray} (h : a.data.toList = b.data.toList) : a = b := by apply ByteArray.ext; exact Array.toList_inj.1 h
theorem seen_put {w' : World} {mb n : Nat} {pre : List ByteArray} {D : DataW Unit} (hD : IsMap D) (hat : ∀ s : ByteArray, s.size ≤ maxLen → D.atKey (.string s.data.toList) (.lit (.bool false)) = .lit (.bool (pre.any fun u => decide (u = s))))
    {s : ByteArray} (hown : w'.ownsMap Try.prog 9 (plainElem Try.prog 4) mb (n + 1) (D.put (.string s.data.toList) (.lit (.bool true)))) : SeenMap w' mb (n + 1) (pre ++ [s]) := by
  refine ⟨_, hD.put _ _, hown, fun x hx => ?_⟩
  rw [List.any_append]
  by_cases he : s = x
  · subst he
    rw [atKey_put_same hD (by exact trivial)]
    simp
  · rw [atKey_put_other (fun h => he (by injection h with h; exact (toList_inj' h).symm)), hat x hx]
    simp [he]
theorem seen_new (w : World) : SeenMap (w.alloc (.map #[] 0)) w.heap.size 0 [] := ⟨.map [], ⟨[], rfl⟩, World.ownsMap_made _ _ _ _, fun _ _ => rfl⟩

/-- a formula of a row, by its contract -/
def FMayOK (x : Fm) : Prop := ∀ (P : Nat → Prop) (w : World) (a b c d : Value), IsFm P w a b c d x → Calls Try.prog 28 #[.agg #[a, b, c, d]] w fun e w' => e = .returned (.bool x.may) ∧ Ext w w'
set_option maxHeartbeats 1000000 in
theorem fmayFn_any {x : Fm} (hx : FMayOK x) {P : Nat → Prop} {w : World} {a b c d : Value} (h : IsFm P w a b c d x) : Calls Try.prog 50 #[.agg #[a, b, c, d]] w fun e w' => e = .returned (.bool (!x.may)) ∧ Ext w w' := by
  have H := Lib.hid (fun w' (hx' : Ext w w') => hx P w' a b c d (h.ext hx'))
  obtain ⟨va, vc, ta, tc, aa, cc, rfl, rfl, rfl, rfl, -⟩ := h.form
  clear hx
  go_enter Try.func50, Try.ntmps50
  go_wp2_with (go_at_call 28; refine (H.out _ (ext_alloc _ _)).mono ?_; rintro e w' ⟨rfl, hx1⟩)
  go_ret
  exact ⟨rfl, (ext_alloc _ _).trans hx1⟩
set_option maxHeartbeats 2000000 in
theorem fmayIndex_any {l : List Fm} (hl : ∀ x ∈ l, FMayOK x) (hn : l.length ≤ 1073741824) {P : Nat → Prop} {w : World} {a : Option Addr} {c : Nat} (h : IsFms P w a l) :
    Calls Try.prog 71 #[.slice a l.length c, .func (.func 50) #[] #[]] w fun e w' => (∃ k : Int, e = .returned (.int .i64 k) ∧ decide (0 ≤ k) = !(Fm.mays l)) ∧ Ext w w' := by
  have HL := Lib.hid (fun w' k (hk : k < l.length) (P : Nat → Prop) a b c d (h : IsFm P w' a b c d l[k]) => fmayFn_any (hl _ (List.getElem_mem hk)) h)
  clear hl
  go_enter Try.func71, Try.ntmps71
  go_wp2_with fail
  go_loopw [8] (fun i wr => ∃ k : Nat, k ≤ l.length ∧ i = .int .i64 k ∧ Ext w wr ∧ Fm.mays (l.take k) = true) (fun i _ => l.length - (intOf i).toNat)
  case atStart => exact ⟨0, Nat.zero_le _, rfl, Below.refl _ _, rfl⟩
  case round =>
    obtain ⟨k, hk, rfl, hx, hm⟩ := hrel
    have HM := Lib.hid hm; clear hm
    by_cases hlt : k < l.length
    · obtain ⟨b, o, va', vc', ta', tc', a', c', rfl, hb, g1, g2, g3, g4, hi⟩ := (h.ext hx).look hlt
      have hlt' : (k : Int) < l.length := by omega
      have HE := Lib.hid (HL.out wr k hlt P _ _ _ _ hi)
      have hst : Fm.mays (l.take (k + 1)) = (Fm.mays (l.take k) && l[k].may) := by
        rw [Fm.mays_all, Fm.mays_all, List.take_succ_eq_append_getElem hlt, List.all_append]; simp
      have HST := Lib.hid hst; clear hst
      cases hm : l[k].may with
      | true =>
        rw [hm] at HE HST
        have HMK := Lib.hid hm
        clear hm
        go_wp2_with (go_at_call 50; refine (HE.out).mono ?_; rintro e w1 ⟨rfl, hx1⟩)
        go_roundw
        case rel => exact ⟨k + 1, by omega, by go_num, hx.trans hx1, by rw [HST.out, HM.out]; rfl⟩
        case measure => simp [intOf]; omega
      | false =>
        rw [hm] at HE
        have HMK := Lib.hid hm
        clear hm
        go_wp2_with (go_at_call 50; refine (HE.out).mono ?_; rintro e w1 ⟨rfl, hx1⟩)
        go_ret
        refine ⟨⟨k, rfl, ?_⟩, hx.trans hx1⟩
        have h1 : Fm.mays l = false := by
          rw [Fm.mays_all]
          cases h2 : l.all Fm.may with
          | false => rfl
          | true => have := List.all_eq_true.1 h2 l[k] (List.getElem_mem hlt); rw [HMK.out] at this; cases this
        rw [h1, decide_eq_true (by omega)]; rfl
    · have hlt' : ¬ (k : Int) < l.length := by omega
      go_wp2_with fail
      go_ret
      refine ⟨⟨-1, rfl, ?_⟩, hx⟩
      have : k = l.length := by omega
      subst this
      have := HM.out
      rw [List.take_length] at this
      rw [this]; rfl
set_option maxHeartbeats 2000000 in
theorem fmayAny_any {l : List Fm} (hl : ∀ x ∈ l, FMayOK x) (hn : l.length ≤ 1073741824) {P : Nat → Prop} {w : World} {a : Option Addr} {c : Nat} (h : IsFms P w a l) :
    Calls Try.prog 49 #[.slice a l.length c, .func (.func 50) #[] #[]] w fun e w' => e = .returned (.bool (!(Fm.mays l))) ∧ Ext w w' := by
  have H := Lib.hid (fmayIndex_any hl hn (c := c) h)
  clear h hl
  go_enter Try.func49, Try.ntmps49
  go_wp2_with (go_at_call 71; refine (H.out).mono ?_; rintro e w1 ⟨⟨k, rfl, hk⟩, hx1⟩; have HK := Lib.hid hk; clear hk)
  go_ret
  exact ⟨ret_bool HK.out, hx1⟩
set_option maxHeartbeats 16000000 in
set_option maxRecDepth 100000 in
theorem may_any (t : Fm) (hs : t.size ≤ 4194304) : FMayOK t := by
  induction t using Fm.ind with
  | h op v t l ih =>
    intro P w x y z u ht
    obtain ⟨va, vc, ta, tc, a, c, rfl, rfl, rfl, rfl, ho1, ho2, hvl, htl, hll, hvs, hts, hls⟩ := ht.form
    simp only [Fm.op, Fm.vars, Fm.terms, Fm.args] at *
    simp only [Fm.size] at hs
    have hkl := Fm.length_le_sizes l
    have hkt := Ex.length_le_sizes t
    have ih' : ∀ a ∈ l, FMayOK a := fun a ha => by
      obtain ⟨i, hi, rfl⟩ := List.getElem_of_mem ha
      exact ih _ ha (by have := Fm.size_le_sizes hi; omega)
    obtain ⟨W, hW⟩ : ∃ W, W = w.alloc (.cells #[.int .i64 op, .slice va v.length vc, .slice ta t.length tc, .slice a l.length c] 27) := ⟨_, rfl⟩
    have hx : Ext w W := by rw [hW]; exact ext_alloc _ _
    obtain ⟨b0, b1, b2, b3⟩ := cells4' w (.int .i64 op) (.slice va v.length vc) (.slice ta t.length tc) (.slice a l.length c) 27
    rw [← hW] at b0 b1 b2 b3
    clear ht
    have HN := Lib.hid (show Fm.may (.mk op v t l) = (topMay op v t l.length && Fm.mays l) by simp only [Fm.may])
    have HA := Lib.hid (fun w' (hx : Ext w w') => fmayAny_any ih' (show l.length ≤ 1073741824 by omega) (c := c) (IsFms.ext hls hx))
    have HT := Lib.hid (fun w => shapes_any op w)
    clear ih ih' hls
    unfold shapeVals at HT
    have hwlt : w.heap.size < W.heap.size := by rw [hW]; simp
    have hmm := @run_makeMap Try.prog
    cases hsh : shapeOf op with
    | none =>
      rw [hsh] at HT
      have HB := Lib.hid (topMay_none (v := v) (t := t) (n := l.length) hsh)
      clear hsh
      simp only [Option.getD_none, Option.isSome_none] at HT
      go_enter Try.func28, Try.ntmps28
      go_wp2_with (rw [← hW]; clear hW; go_at_call 45; refine (HT.out _).mono ?_; rintro e w1 ⟨rfl, hx1⟩)
      go_ret
      exact ⟨ret_bool (by rw [HN.out, HB.out]; rfl), (hx.trans hx1).alloc _⟩
    | some abc =>
    obtain ⟨sa, sb, sc⟩ := abc
    rw [hsh] at HT
    simp only [Option.getD_some, Option.isSome_some] at HT
    obtain ⟨⟨u1, u2⟩, ⟨u3, u4⟩, ⟨u5, u6⟩⟩ := shape_bounds hsh
    have HTM := Lib.hid (topMay_some (v := v) (t := t) (n := l.length) hsh)
    clear hsh
    have HC1 := Lib.hid (fun w => counts_any v.length sa (by omega) u1 u2 w)
    have HC2 := Lib.hid (fun w => counts_any t.length sb (by omega) u3 u4 w)
    have HC3 := Lib.hid (fun w => counts_any l.length sc (by omega) u5 u6 w)
    clear u1 u2 u3 u4 u5 u6
    cases hc1 : counted v.length sa with
    | false =>
      rw [hc1] at HC1 HTM
      clear hc1
      go_enter Try.func28, Try.ntmps28
      go_wp2_with (first | (rw [← hW]; clear hW; go_at_call 45; refine (HT.out _).mono ?_; rintro e w1 ⟨rfl, hx1⟩; replace b0 := hx1.cell b0; replace b1 := hx1.cell b1; replace b2 := hx1.cell b2; replace b3 := hx1.cell b3; (have hwlt1 : w.heap.size < w1.heap.size := by have := hx1.size; omega)) | (go_at_call 46; with_reducible refine (HC1.out _).mono ?_; rintro e w1' ⟨rfl, rfl⟩))
      go_ret
      exact ⟨ret_bool (by rw [HN.out, HTM.out]; simp), (hx.trans hx1).alloc _⟩
    | true =>
    rw [hc1] at HC1 HTM
    clear hc1
    cases hc2 : counted t.length sb with
    | false =>
      rw [hc2] at HC2 HTM
      clear hc2
      go_enter Try.func28, Try.ntmps28
      go_wp2_with (first | (rw [← hW]; clear hW; go_at_call 45; refine (HT.out _).mono ?_; rintro e w1 ⟨rfl, hx1⟩; replace b0 := hx1.cell b0; replace b1 := hx1.cell b1; replace b2 := hx1.cell b2; replace b3 := hx1.cell b3; (have hwlt1 : w.heap.size < w1.heap.size := by have := hx1.size; omega)) | (go_at_call 46; with_reducible refine (HC1.out _).mono ?_; rintro e w1' ⟨rfl, rfl⟩) | (go_at_call 46; with_reducible refine (HC2.out _).mono ?_; rintro e w2' ⟨rfl, rfl⟩))
      go_ret
      exact ⟨ret_bool (by rw [HN.out, HTM.out]; simp), (hx.trans hx1).alloc _⟩
    | true =>
    rw [hc2] at HC2 HTM
    clear hc2
    cases hc3 : counted l.length sc with
    | false =>
      rw [hc3] at HC3 HTM
      clear hc3
      go_enter Try.func28, Try.ntmps28
      go_wp2_with (first | (rw [← hW]; clear hW; go_at_call 45; refine (HT.out _).mono ?_; rintro e w1 ⟨rfl, hx1⟩; replace b0 := hx1.cell b0; replace b1 := hx1.cell b1; replace b2 := hx1.cell b2; replace b3 := hx1.cell b3; (have hwlt1 : w.heap.size < w1.heap.size := by have := hx1.size; omega)) | (go_at_call 46; with_reducible refine (HC1.out _).mono ?_; rintro e w1' ⟨rfl, rfl⟩) | (go_at_call 46; with_reducible refine (HC2.out _).mono ?_; rintro e w2' ⟨rfl, rfl⟩) | (go_at_call 46; with_reducible refine (HC3.out _).mono ?_; rintro e w3' ⟨rfl, rfl⟩))
      go_ret
      exact ⟨ret_bool (by rw [HN.out, HTM.out]; simp), (hx.trans hx1).alloc _⟩
    | true =>
    rw [hc3] at HC3 HTM
    clear hc3
    simp only [Bool.true_and] at HTM
    go_enter Try.func28, Try.ntmps28
    go_upto_region 4 with (first | (rw [← hW]; clear hW; go_at_call 45; refine (HT.out _).mono ?_; rintro e w1 ⟨rfl, hx1⟩; replace b0 := hx1.cell b0; replace b1 := hx1.cell b1; replace b2 := hx1.cell b2; replace b3 := hx1.cell b3; (have hwlt1 : w.heap.size < w1.heap.size := by have := hx1.size; omega)) | (go_at_call 46; with_reducible refine (HC1.out _).mono ?_; rintro e w1' ⟨rfl, rfl⟩) | (go_at_call 46; with_reducible refine (HC2.out _).mono ?_; rintro e w2' ⟨rfl, rfl⟩) | (go_at_call 46; with_reducible refine (HC3.out _).mono ?_; rintro e w3' ⟨rfl, rfl⟩))
    obtain ⟨V, hV⟩ : ∃ V, V = w1.alloc (.cells #[.int .i64 sa, .int .i64 sb, .int .i64 sc] 104) := ⟨_, rfl⟩
    have hxV : Ext w1 V := by rw [hV]; exact ext_alloc _ _
    rw [← hV]
    clear hV
    replace b0 := hxV.cell b0
    replace b1 := hxV.cell b1
    replace b2 := hxV.cell b2
    replace b3 := hxV.cell b3
    have hxx := (hx.trans hx1).trans hxV
    have hwV : w.heap.size < V.heap.size := by have := hxV.size; omega
    generalize w1.heap.size = s1
    clear HT HC1 HC2 HC3 hx hx1 hxV hwlt1 hwlt
    have hM0 := seen_new V
    have hxm := ext_alloc V (.map #[] 0)
    replace b0 := hxm.cell b0
    replace b1 := hxm.cell b1
    replace b2 := hxm.cell b2
    replace b3 := hxm.cell b3
    go_wp2_with fail
    have hbv : w.heap.size < V.heap.size := hwV
    obtain ⟨M, hM⟩ : ∃ M, M = V.alloc (.map #[] 0) := ⟨_, rfl⟩
    rw [← hM] at b0 b1 b2 b3 hM0 hxm ⊢
    have hxM := hxx.trans hxm
    have hmb : V.heap.size < M.heap.size := by rw [hM]; simp
    have hmw : w.heap.size ≤ V.heap.size := hxx.size
    have HS := Lib.hid (show varsMay v = varsFrom (v.take 0) (v.drop 0) by simp [varsMay])
    have HM0 := Lib.hid (show SeenMap M V.heap.size 0 (v.take 0) from hM0)
    clear hM hxx hxm hM0
    have hbm : w.heap.size ≠ V.heap.size := by omega
    generalize V.heap.size = mb at *
    go_loopw [49] (fun i wr => ∃ k : Nat, k ≤ v.length ∧ i = .int .i64 k ∧ Chg [mb] M wr ∧ SeenMap wr mb k (v.take k) ∧ varsMay v = varsFrom (v.take k) (v.drop k)) (fun i _ => v.length - (intOf i).toNat)
    case atStart => exact ⟨0, Nat.zero_le _, rfl, Chg.refl _ _, HM0.out, HS.out⟩
    case round =>
      obtain ⟨k, hk, rfl, hch, hsm, hvv⟩ := hrel
      have HV := Lib.hid hvv
      have HSM := Lib.hid hsm
      clear hvv hsm HS HM0
      have hxr : Ext w wr := Chg.ext hxM hch (by simp; omega)
      replace b0 := hch.cell b0 (by simpa using hbm)
      replace b1 := hch.cell b1 (by simpa using hbm)
      replace b2 := hch.cell b2 (by simpa using hbm)
      replace b3 := hch.cell b3 (by simpa using hbm)
      by_cases hlt : k < v.length
      · obtain ⟨b, o, rfl, hb, g1, hsz⟩ := IsStrs.look (hvs.ext hxr) hlt
        have hlt' : (k : Int) < v.length := by omega
        have HU := Lib.hid (fun w => upper_any v[k] hsz w)
        have HST := Lib.hid (varsFrom_step hlt)
        have hszm : v[k].size ≤ maxLen := by unfold maxLen; omega
        have hlk := seen_look HSM.out hszm
        cases hu : upperS v[k] with
        | false =>
          rw [hu] at HU HST
          clear hu hlk hszm
          go_wp2_with (go_at_call 47; refine (HU.out _).mono ?_; rintro e w1 ⟨rfl, rfl⟩)
          go_ret
          exact ⟨ret_bool (by rw [HN.out, HTM.out, HV.out, HST.out]; rfl), hxr⟩
        | true =>
          rw [hu] at HU HST
          clear hu
          cases hany : ((v.take k).any fun u => decide (u = v[k])) with
          | true =>
            rw [hany] at HST hlk
            clear hany hszm
            go_wp2_with (go_at_call 47; refine (HU.out _).mono ?_; rintro e w1 ⟨rfl, rfl⟩)
            go_ret
            exact ⟨ret_bool (by rw [HN.out, HTM.out, HV.out, HST.out]; rfl), hxr⟩
          | false =>
            rw [hany] at HST hlk
            clear hany
            obtain ⟨D, hD, hown, hat⟩ := HSM.out
            have HAT := Lib.hid hat
            have HKY := Lib.hid (WideMaps.keyOf_string_mk (P := Try.prog) (k := 9) Try.underlying9 hszm)
            clear hat hszm
            go_wp2_with (first | (go_at_call 47; refine (HU.out _).mono ?_; rintro e w1 ⟨rfl, rfl⟩) | (at_mapUpdate; refine wpList_mapUpdate_own _ rfl _ _ _ 108 rfl 9 4 strKeyed Try.underlying108 (plainElem Try.prog 4) mb k D rfl hown (by unfold maxLen; omega) _ _ (.string v[k].data.toList) rfl rfl HKY.out (.lit (.bool true)) [] (plainElem_bool Try.underlying4 true) ?_; intro w2 hown2 hgrow2))
            go_roundw
            case rel =>
              refine ⟨k + 1, by omega, by go_num, hch.trans (Chg.of_grown hgrow2 (fun g hg => by injection hg with hg; subst hg; simp)), ?_, by rw [HV.out, HST.out]; rfl⟩
              rw [List.take_succ_eq_append_getElem hlt]
              exact seen_put hD HAT.out hown2
            case measure => simp [intOf]; omega
      · have hlt' : ¬ (k : Int) < v.length := by omega
        have hkv : k = v.length := by omega
        have HVM := Lib.hid (show varsMay v = true by rw [HV.out, hkv, List.drop_length]; rfl)
        rw [HVM.out] at HTM
        simp only [Bool.true_and] at HTM
        clear hkv HV HSM HVM hvs b1
        go_wp2_with fail
        obtain ⟨wo, rfl⟩ : ∃ wo : World, wo = wr := ⟨_, rfl⟩
        go_loopw [67] (fun i wr => ∃ k : Nat, k ≤ t.length ∧ i = .int .i64 k ∧ Ext wo wr ∧ (t.take k).all (termOk op) = true) (fun i _ => t.length - (intOf i).toNat)
        case atStart => exact ⟨0, Nat.zero_le _, rfl, Below.refl _ _, rfl⟩
        case round =>
          obtain ⟨k, hk, rfl, hxk, hm⟩ := hrel
          have HM := Lib.hid hm; clear hm
          replace b0 := hxk.cell b0
          replace b2 := hxk.cell b2
          replace b3 := hxk.cell b3
          have hwl : w.heap.size < wr.heap.size := cell_lt b0
          by_cases hlt : k < t.length
          · obtain ⟨b, o, a', c', rfl, hb, g1, g2, g3, hi⟩ := (IsExs.ext hts (hxr.trans hxk)).look hlt
            have hlt' : (k : Int) < t.length := by omega
            have hsz : t[k].size ≤ 4194304 := by have := Ex.size_le_sizes hlt; omega
            have HE := Lib.hid (mayExpr_any t[k] hsz P (wr.alloc (.cells #[.bool t[k].var, .string t[k].name, .slice a' t[k].args.length c'] 67)) _ _ _ (hi.ext (ext_alloc _ _)))
            have HST := Lib.hid (terms_step (op := op) hlt)
            have HBD := Lib.hid (terms_bad (op := op) hlt)
            have HTO := Lib.hid (show termOk op t[k] = (t[k].may && !(decide (op = 3) && t[k].var)) from rfl)
            have hbx := own3 wr (.bool t[k].var) (.string t[k].name) (.slice a' t[k].args.length c') 67
            have hbl := (ext_alloc wr (.cells #[.bool t[k].var, .string t[k].name, .slice a' t[k].args.length c'] 67)).cell b0
            clear hi
            cases hmk : t[k].may with
            | false =>
              rw [hmk] at HE HTO
              have HB := Lib.hid (HBD.out HTO.out)
              clear hmk HBD HTO hbx hbl
              go_wp2_with (go_at_call 48; refine (HE.out).mono ?_; rintro e w1 ⟨rfl, hx1⟩)
              go_ret
              exact ⟨ret_bool (by rw [HN.out, HTM.out, HB.out]; rfl), (hxr.trans hxk).trans ((ext_alloc _ _).trans hx1)⟩
            | true =>
              rw [hmk] at HE HTO
              clear hmk
              by_cases h3 : op = 3
              · have q3 : (op == 3) = true := by rw [beq_iff_eq]; exact h3
                rw [decide_eq_true h3] at HTO
                clear h3
                cases hvk : t[k].var with
                | true =>
                  rw [hvk] at g1 HTO HE hbx hbl
                  have HB := Lib.hid (HBD.out HTO.out)
                  clear hvk HBD HTO
                  go_wp2_with (go_at_call 48; refine (HE.out).mono ?_; rintro e w1 ⟨rfl, hx1⟩; (obtain ⟨y0, -⟩ := hbx.ext hx1 0 _ rfl); replace hbl := hx1.cell hbl)
                  go_ret
                  exact ⟨ret_bool (by rw [HN.out, HTM.out, HB.out]; rfl), (hxr.trans hxk).trans ((ext_alloc _ _).trans hx1)⟩
                | false =>
                  rw [hvk] at g1 HTO HE hbx hbl
                  clear hvk HBD
                  go_wp2_with (go_at_call 48; refine (HE.out).mono ?_; rintro e w1 ⟨rfl, hx1⟩; (obtain ⟨y0, -⟩ := hbx.ext hx1 0 _ rfl); replace hbl := hx1.cell hbl)
                  go_roundw
                  case rel => exact ⟨k + 1, by omega, by go_num, hxk.trans ((ext_alloc _ _).trans hx1), by rw [HST.out, HM.out, HTO.out]; rfl⟩
                  case measure => simp [intOf]; omega
              · have q3 : (op == 3) = false := by rw [beq_eq_false_iff_ne]; exact h3
                rw [decide_eq_false h3] at HTO
                clear h3 HBD
                go_wp2_with (go_at_call 48; refine (HE.out).mono ?_; rintro e w1 ⟨rfl, hx1⟩; (obtain ⟨y0, -⟩ := hbx.ext hx1 0 _ rfl); replace hbl := hx1.cell hbl)
                go_roundw
                case rel => exact ⟨k + 1, by omega, by go_num, hxk.trans ((ext_alloc _ _).trans hx1), by rw [HST.out, HM.out, HTO.out]; rfl⟩
                case measure => simp [intOf]; omega
          · have hlt' : ¬ (k : Int) < t.length := by omega
            have hkt2 : k = t.length := by omega
            have HNT := Lib.hid (show t.all (termOk op) = true by have := HM.out; rwa [hkt2, List.take_length] at this)
            clear hkt2
            go_wp2_with (go_at_call 49; refine (HA.out _ (hxr.trans hxk)).mono ?_; rintro e w1 ⟨rfl, hx1⟩)
            go_ret
            exact ⟨ret_bool (by rw [HN.out, HTM.out, HNT.out]; simp), (hxr.trans hxk).trans hx1⟩
end Go.Proofs.Ytnclgkdpafhogaa
