/- What prec.Make returns where a way can be gone. Conditions: at most 100 clauses; lengths and sizes fit. -/
import Derived.Test.YtdmiphdohfcbeaaPrecM1
import Derived.Test.YtdmiphdohfcbeaaPrecC
import Derived.Test.YtdmiphdohfcbeaaPrecR7
import Derived.Test.YtdmiphdohfcbeaaPrecH
import Derived.Deep.CutRange
import Derived.Deep.CutBlock
import Derived.Deep.Light
namespace Go.Proofs.Ytdmiphdohfcbeaa
open Go.ChangeShapes Go.WideShapes Go.ChangeAt Go.RowKit

theorem idxs_succ (j : Nat) : idxs (j + 2) = idxs (j + 1) ++ [(j : Int) + 1] := by
  unfold idxs
  rw [List.range_succ, List.drop_append_of_le_length (by simp), List.map_append]
  simp
theorem idxs_one : idxs (0 + 1) = [] := rfl
theorem weightsOf_zero {l : List Sy} {weight : Int} {top : Bool} {pr ns : List Int} : weightsOf l weight top pr ns 0 = [] := rfl
theorem arOf_six {l : List Sy} (h : ∀ i (hi : i < l.length), 0 ≤ l[i].arity ∧ l[i].arity ≤ 6) (i : Nat) : arOf l i ≤ 6 := by
  rcases Nat.lt_or_ge i l.length with h1 | h1
  · rw [arOf_eq h1]; exact (h i h1).2
  · unfold arOf; rw [List.getElem?_eq_none h1]; decide

set_option maxHeartbeats 4000000 in
set_option maxRecDepth 100000 in
theorem make_ok (l : List Sy) (hl : l.length ≤ 1048576) (cs : List (List Lt)) (hcl : cs.length ≤ 100) (hcs : sizedCls cs) (y : Way) (w : World) (a ca : Option Addr) (n cn : Nat) (hln : l.length ≤ n) (hn63 : n ≤ 9223372036854775807) (hsy : IsSyms w a l) (hc : IsCls w ca cs)
    (hm : makeErr l cs y = 0) :
    Calls Try.prog 11 #[.agg #[.slice a l.length n], .slice ca cs.length cn, y.val] w fun e w' => (∃ v, e = .returned v ∧ OrderGiven w' v l cs y) ∧ Ext w w' := by
  obtain ⟨lpo, prec, weight, top⟩ := y
  unfold Way.val
  obtain ⟨W, hW⟩ : ∃ W, W = ((w.alloc (.cells #[.slice a l.length n] 24)).alloc (.cells #[.bool lpo, .int .i64 prec, .int .i64 weight, .bool top] 37)).alloc (.cells #[.bool false, .slice none 0 0, .slice none 0 0, .int .i64 0] 27) := ⟨_, rfl⟩
  have hx : Ext w W := by subst hW; go_grown
  have hsW : W.heap.size = w.heap.size + 3 := by subst hW; simp
  have k00 : W.cell? ⟨w.heap.size, 0, none⟩ = some (.slice a l.length n) := by subst hW; go_simp
  have k0 : W.cell? ⟨w.heap.size + 1, 0, none⟩ = some (.bool lpo) := by subst hW; go_simp
  have k1 : W.cell? ⟨w.heap.size + 1, 1, none⟩ = some (.int .i64 prec) := by subst hW; go_simp
  have k2 : W.cell? ⟨w.heap.size + 1, 2, none⟩ = some (.int .i64 weight) := by subst hW; go_simp
  have k3 : W.cell? ⟨w.heap.size + 1, 3, none⟩ = some (.bool top) := by subst hW; go_simp
  have j0 : W.cell? ⟨w.heap.size + 1 + 1, 0, none⟩ = some (.bool false) := by subst hW; go_simp
  have j1 : W.cell? ⟨w.heap.size + 1 + 1, 1, none⟩ = some (.slice none 0 0) := by subst hW; go_simp
  have j2 : W.cell? ⟨w.heap.size + 1 + 1, 2, none⟩ = some (.slice none 0 0) := by subst hW; go_simp
  have j3 : W.cell? ⟨w.heap.size + 1 + 1, 3, none⟩ = some (.int .i64 0) := by subst hW; go_simp
  have f0 : W.frozen? ⟨w.heap.size + 1 + 1, 0, none⟩ = false := by subst hW; go_simp
  have f1 : W.frozen? ⟨w.heap.size + 1 + 1, 1, none⟩ = false := by subst hW; go_simp
  have f2 : W.frozen? ⟨w.heap.size + 1 + 1, 2, none⟩ = false := by subst hW; go_simp
  have f3 : W.frozen? ⟨w.heap.size + 1 + 1, 3, none⟩ = false := by subst hW; go_simp
  have HC := Lib.hid (counts_any l hl cs hcl hcs W a ca n cn hln hn63 (hsy.ext hx) (hc.ext hx))
  have HM := Lib.hid hm
  have hok : countsErr l cs = 0 ∧ 0 ≤ prec ∧ prec ≤ 4 ∧ 0 ≤ weight ∧ weight ≤ 3 := by
    unfold makeErr at hm
    split at hm
    · assumption
    · cases hm
  obtain ⟨h0, b1, b2, b3, b4⟩ := hok
  have d1 : decide (prec < 0) = false := decide_eq_false (by omega)
  have d2 : decide (4 < prec) = false := decide_eq_false (by omega)
  have d3 : decide (weight < 0) = false := decide_eq_false (by omega)
  have d4 : decide (3 < weight) = false := decide_eq_false (by omega)
  have h0e : ¬ countsErr l cs = 2 := by omega
  have H0 := Lib.hid (And.intro h0 h0e); clear h0 h0e hm hc
  have hmk := fun w' => mk_ints l.length (by omega) w'
  go_enter Try.func11, Try.ntmps11
  go_wp2_with ((rw [← hW]; clear hW; go_at_call 13; refine (HC.out).mono ?_; rintro e w1 ⟨⟨v, rfl, hv⟩, hx1⟩; obtain ⟨nb, hnb1, hnb2, rfl, hN⟩ := (hv.resolve_left (fun h => H0.out.2 h.1)).2; have HN := Lib.hid hN; clear hv hN; replace k00 := hx1.cell k00; replace k0 := hx1.cell k0; replace k1 := hx1.cell k1; replace k2 := hx1.cell k2; replace k3 := hx1.cell k3; replace f0 := hx1.frozen j0 f0; replace f1 := hx1.frozen j1 f1; replace f2 := hx1.frozen j2 f2; replace f3 := hx1.frozen j3 f3; replace j0 := hx1.cell j0; replace j1 := hx1.cell j1; replace j2 := hx1.cell j2; replace j3 := hx1.cell j3))
  replace hx := Ext.trans hx hx1
  clear hx1 HC
  obtain ⟨hl1, hl96, har0, hars⟩ := sig_ok (counts_err H0.out.1).1
  obtain ⟨ns, hns⟩ : ∃ ns, ns = countsOf l cs := ⟨_, rfl⟩
  have hnl : ns.length = l.length := by rw [hns]; exact counts_length _ _
  have hnr : ∀ x ∈ ns, 0 ≤ x ∧ x ≤ 4611686018427387904 := by
    intro x hx
    rw [hns] at hx
    have h1 := counts_le x hx
    have h2 := allSyms_length cs hcs
    omega
  have hNs : Nums w1 nb ns := by rw [hns]; exact HN.out
  obtain ⟨vv, hvv⟩ : ∃ vv, vv = rankVal l prec ns := ⟨_, rfl⟩
  have HP : precOf l prec (countsOf l cs) = rankList l.length vv := by unfold precOf; rw [hvv, hns]
  have HPR := Lib.hid HP; clear HP
  have HI := Lib.hid (And.intro hns (And.intro hNs (And.intro hvv hnr)))
  have hsyw := hsy.ext hx
  obtain ⟨pp, hpp⟩ : ∃ pp : Nat, prec = pp := ⟨prec.toNat, by omega⟩
  subst hpp
  have hp5 : pp < 5 := by omega
  have har6 := arOf_six hars
  obtain ⟨i0, hi0, hz0, hz1', hz2'⟩ := info_parts infoInt
  have HSX := Lib.hid (And.intro hsyw (And.intro har6 har0))
  clear hns hNs hnr hvv HN hsyw har6 har0 d1 d2 b1 b2
  go_loopw [10, 11] (fun lv s wr => ∃ (j : Nat) (va : Option Addr) (vc : Nat), j + 1 ≤ l.length ∧ lv = .slice va j vc ∧ s = .int .i64 ((j : Int) + 1) ∧ GRow eltInt 3 w1.heap.size wr (.slice va j vc) (idxs (j + 1)) ∧ Ext w1 wr) (fun _ s _ => l.length + 1 - (intOf s).toNat)
  case atStart => exact ⟨0, none, 0, by go_light; omega, rfl, rfl, by rw [idxs_one]; exact GRow.nil, Below.refl _ _⟩
  case round =>
    obtain ⟨j, va, vc, hjl, rfl, rfl, hrow, hext⟩ := hrel
    by_cases hlt : j + 1 < l.length
    case pos =>
      have hj1 : (j : Int) + 1 < l.length := by go_light; omega
      have hjl2 : (idxs (j + 1)).length = j := by go_light; rw [idxs_length]; omega
      have hwj : IntKind.i64.wrap ((j : Int) + 1 + 1) = (j : Int) + 1 + 1 := IntWalk.i64_in _ (by go_light; omega)
      have HJL := Lib.hid hjl2; clear hjl2
      go_wp2_with ((at_builtin; refine wpList_append_row rfl _ _ _ rfl 3 i0 _ 8 Try.underlying25 hi0 hz0 hz1' hz2' rfl (by decide) w1.heap.size (.slice va j vc) (idxs (j + 1)) rfl wr hrow (ext_alloc _ _) wr.heap.size rfl _ _ (heap_alloc_new _ _) ((j : Int) + 1) ⟨rfl, by go_light; omega, by go_light; omega⟩ (by go_light; rw [HJL.out]; simp only [maxLen]; omega) (by go_light; rw [HJL.out]; omega) (by go_light; have := hext.size; simp; omega) ?_; intro g2 cap2 w2 hrow2 hgrow2 hat2 hlt2; have hx2 := Ext.append hext hrow (ext_alloc _ _) hgrow2; rw [HJL.out] at hrow2 ⊢))
      go_roundw
      case rel => exact ⟨j + 1, _, cap2, by go_light; omega, rfl, by go_num, by rw [idxs_succ]; exact hrow2, hx2⟩
      case measure => go_light; simp [intOf]; omega
    have hj1 : ¬ (j : Int) + 1 < l.length := by go_light; omega
    have hje : l.length = j + 1 := by go_light; omega
    have HJE := Lib.hid hje; clear hje
    replace k00 := hext.cell k00
    replace k0 := hext.cell k0
    replace k1 := hext.cell k1
    replace k2 := hext.cell k2
    replace k3 := hext.cell k3
    replace f0 := hext.frozen j0 f0
    replace f1 := hext.frozen j1 f1
    replace f2 := hext.frozen j2 f2
    replace f3 := hext.frozen j3 f3
    replace j0 := hext.cell j0
    replace j1 := hext.cell j1
    replace j2 := hext.cell j2
    replace j3 := hext.cell j3
    obtain ⟨r, hr1, hr2, hr3⟩ : ∃ r, (∀ g, va = some ⟨g, 0, none⟩ → g = r) ∧ w1.heap.size ≤ r ∧ (r < wr.heap.size ∨ wr.heap.size + 100 ≤ r) := by
      cases va with
      | none => exact ⟨wr.heap.size + 100, (fun g h => by cases h), by go_light; have := hext.size; omega, .inr (Nat.le_refl _)⟩
      | some ad =>
        have := hrow.own_ge (g := ad.block) rfl
        exact ⟨ad.block, (fun g h => by injection h with h; rw [h]), this.1, .inl this.2⟩
    have hr0 : w.heap.size + 3 ≤ r := by go_light; have := hx.size; omega
    have Hw := Lib.hid (fun w' (h : Ext wr w') (hs : w'.heap.size = wr.heap.size) => ways_any r w1 l hl ns hnl w' (by go_light; omega) a n nb l.length HSX.out.1 HI.out.2.1 (fun p v hp => ⟨(hext.trans h).cell hp, by have := cell_lt hp; omega⟩))
    have Hso := Lib.hid (fun w' (h : Ext wr w') fv (hf : CmpOK r w' (j + 1) fv (wayOf l ns pp)) => by
      have := sort_any l HSX.out.2.1 ns pp hp5 (j + 1) (by go_light; omega) w' w1.heap.size va vc (by simpa using hrow.ext h) (fun g hg => by rw [hr1 g hg]; exact hr2) fv r hr1 hf
      simpa only [Nat.add_sub_cancel] using this)
    have HR := Lib.hid hr1; clear hr1
    have hpi : (pp : Int) < 5 := by go_light; omega
    have HROW := Lib.hid hrow; clear hrow
    go_upto_region 9 with fail
    go_cut [57] from 57 to 142 (fun _ wx => ∃ L : List Nat, L.Perm ((List.range (j + 1)).drop 1) ∧ L.Pairwise (fun a b => aboveB (rankVal l pp ns) a b = false) ∧ Chg [r] wr wx ∧ ∀ k (h : k < L.length), va = some ⟨r, 0, none⟩ ∧ wx.cell? ⟨r, k, none⟩ = some (.int .i64 (L[k] : Nat)))
    case first =>
      go_region_law ((first
        | (go_simp; go_at_call 30; refine (Hw.out _ (Ext.drew (Below.refl _ _)) rfl).mono ?_; rintro e w2 ⟨⟨B, rfl, hB, hfs⟩, hw'⟩; obtain ⟨fv, hfc, hfok⟩ := hfs pp hp5; (have hw2 : Ext wr w2 := (Ext.drew (Below.refl _ wr)).trans hw'); (have s1 := hw2.cell k00); (have s2 := hw2.cell k1); (try simp only []))
        | (go_simp; go_at_call 29; refine (Hso.out _ hw2 fv (by rw [← HJE.out]; exact hfok)).mono ?_; rintro e w3 ⟨rfl, L, hL1, hL2, hL3, hL4⟩; (try simp only []))))
      all_goals
        go_wp2_with fail
        go_meet
        exact ⟨L, hL1, hL2, (Chg.of_ext hw2).trans hL3, hL4⟩
    case rest =>
    generalize wc = V0 at hcut ⊢
    obtain ⟨L, hL1, hL2, hcr, hL4⟩ := hcut
    have hLl : L.length = j := by rw [hL1.length_eq]; simp
    replace k00 := hcr.cell k00 (by go_light; simp; omega)
    replace k0 := hcr.cell k0 (by go_light; simp; omega)
    replace k1 := hcr.cell k1 (by go_light; simp; omega)
    replace k2 := hcr.cell k2 (by go_light; simp; omega)
    replace k3 := hcr.cell k3 (by go_light; simp; omega)
    replace f0 := hcr.frozen j0 (by go_light; simp; omega) f0
    replace f1 := hcr.frozen j1 (by go_light; simp; omega) f1
    replace f2 := hcr.frozen j2 (by go_light; simp; omega) f2
    replace f3 := hcr.frozen j3 (by go_light; simp; omega) f3
    replace j0 := hcr.cell j0 (by go_light; simp; omega)
    replace j1 := hcr.cell j1 (by go_light; simp; omega)
    replace j2 := hcr.cell j2 (by go_light; simp; omega)
    replace j3 := hcr.cell j3 (by go_light; simp; omega)
    have hx1c : Ext w1 V0 := Chg.ext hext hcr (by simpa using hr2)
    have HL := Lib.hid (And.intro hL1 (And.intro hL2 (And.intro hcr (And.intro hL4 hLl))))
    have hmk := fun w' => mk_ints l.length (by go_light; omega) w'
    clear hL1 hL2 hcr hL4 hLl Hw Hso
    go_upto_region 10 with fail
    go_cut [12] from 57 to 142 (fun x wx => ∃ pb ob, x = .pointer (some ⟨ob, 0, none⟩) ∧ MkO V0 wx pb ob l.length lpo)
    case first =>
      have hne := World.new_ne V0 _ k0
      go_region_held3 (fun w' => w'.cell? ⟨w.heap.size + 1, 0, none⟩ = some (.bool lpo)) (go_keep) (fail)
      · go_wp2_with fail
        go_meet
        exact ⟨_, _, rfl, mkO_one V0 l.length lpo⟩
      · go_wp2_with fail
        go_meet
        exact ⟨_, _, rfl, mkO_two V0 l.length lpo⟩
    case rest =>
    obtain ⟨pb, ob, rfl, hV⟩ := hcut
    generalize wc = V at hV ⊢
    obtain ⟨hxV, hpo, hp1, hp2, ho1, ho2, hNV, oc0, oc1, oc2, oc3, ofr⟩ := hV
    have hV0s := hx1c.size
    have hws := hx.size
    have hobw : w.heap.size + 3 ≤ ob := by go_light; omega
    have hpbw : w1.heap.size ≤ pb := by go_light; omega
    have hpbn : pb ∉ [w.heap.size + 1 + 1] := fun h => by have := List.mem_singleton.1 h; go_light; omega
    have hx1V : Ext w1 V := hx1c.trans hxV
    replace k00 := hxV.cell k00
    replace k0 := hxV.cell k0
    replace k1 := hxV.cell k1
    replace k2 := hxV.cell k2
    replace k3 := hxV.cell k3
    replace f0 := hxV.frozen j0 f0
    replace f1 := hxV.frozen j1 f1
    replace f2 := hxV.frozen j2 f2
    replace f3 := hxV.frozen j3 f3
    replace j0 := hxV.cell j0
    replace j1 := hxV.cell j1
    replace j2 := hxV.cell j2
    replace j3 := hxV.cell j3
    have hL1 : L.Perm ((List.range l.length).drop 1) := by rw [HJE.out]; exact HL.out.1
    have hL2 : L.Pairwise fun a b => aboveB vv a b = false := by rw [HI.out.2.2.1]; exact HL.out.2.1
    have hLl := HL.out.2.2.2.2
    have HLP := Lib.hid (And.intro hL1 (And.intro hL2 hLl)); clear hL1 hL2 hLl
    have HNV := Lib.hid hNV; clear hNV
    go_wp2_with fail
    go_loopw [74] (fun s wr => ∃ k : Nat, k ≤ j ∧ s = .int .i64 k ∧ Chg [pb] V wr ∧ Nums wr pb (prePut l.length vv L k)) (fun s _ => j - (intOf s).toNat)
    case atStart => exact ⟨0, Nat.zero_le _, rfl, Chg.refl _ _, by rw [prePut_zero]; exact HNV.out⟩
    case round =>
      obtain ⟨k, hkj, rfl, hch, hN⟩ := hrel
      have e1 := hch.cell oc1 (by go_light; simp; omega)
      by_cases hlt2 : k < j
      case pos =>
        have hk1 : (k : Int) < j := by go_light; omega
        have hkL : k < L.length := by go_light; have := HLP.out.2.2; omega
        obtain ⟨rfl, hLc⟩ := HL.out.2.2.2.1 k hkL
        have hrl := cell_lt hLc
        simp only at hrl
        replace hLc := hch.cell (hxV.cell hLc) (by go_light; simp; omega)
        obtain ⟨q1, q2⟩ := rank_lt HLP.out.1 hkL
        have Hst := Lib.hid (prePut_step HLP.out.1 HLP.out.2.1 hkL)
        obtain ⟨m1, m2⟩ := hN.cell L[k] (by rw [prePut_length]; exact q1)
        have hNset := hN.set L[k] ((k : Int) + 1)
        generalize (prePut l.length vv L k)[L[k]]'_ = old at m1
        have HNS := Lib.hid hNset; clear hNset hN
        generalize L[k] = q at hLc q1 q2 Hst m1 m2 HNS
        have hq1 : (q : Int) < l.length := by go_light; omega
        have hwk : IntKind.i64.wrap ((k : Int) + 1) = (k : Int) + 1 := IntWalk.i64_in _ (by go_light; omega)
        go_wp2_with fail
        go_roundw
        case rel => exact ⟨k + 1, by go_light; omega, by go_num, hch.setCell (p := ⟨pb, q, none⟩) _ (.inl (by simp)), by rw [← Hst.out]; exact HNS.out⟩
        case measure => go_light; simp [intOf]; omega
      case neg =>
        have hkl : ¬ (k : Int) < j := by go_light; omega
        have hke : k = L.length := by go_light; have := HLP.out.2.2; omega
        rw [hke, prePut_done HLP.out.1] at hN
        clear hke e1
        have q0 := hch.cell k0 (by go_light; simp; omega)
        have q2 := hch.cell k2 (by go_light; simp; omega)
        have q3 := hch.cell k3 (by go_light; simp; omega)
        have q00 := hch.cell k00 (by go_light; simp; omega)
        have e0 := hch.cell oc0 (by go_light; simp; omega)
        have e1 := hch.cell oc1 (by go_light; simp; omega)
        have e2 := hch.cell oc2 (by go_light; simp; omega)
        have e3 := hch.cell oc3 (by go_light; simp; omega)
        have efr : ∀ j, j < 4 → wr.frozen? ⟨ob, j, none⟩ = false := fun j hj => by
          have : j = 0 ∨ j = 1 ∨ j = 2 ∨ j = 3 := by go_light; omega
          rcases this with rfl | rfl | rfl | rfl
          · exact hch.frozen oc0 (by go_light; simp; omega) (ofr _)
          · exact hch.frozen oc1 (by go_light; simp; omega) (ofr _)
          · exact hch.frozen oc2 (by go_light; simp; omega) (ofr _)
          · exact hch.frozen oc3 (by go_light; simp; omega) (ofr _)
        replace f0 := hch.frozen j0 (by go_light; simp; omega) f0
        replace f1 := hch.frozen j1 (by go_light; simp; omega) f1
        replace f2 := hch.frozen j2 (by go_light; simp; omega) f2
        replace f3 := hch.frozen j3 (by go_light; simp; omega) f3
        replace j0 := hch.cell j0 (by go_light; simp; omega)
        replace j1 := hch.cell j1 (by go_light; simp; omega)
        replace j2 := hch.cell j2 (by go_light; simp; omega)
        replace j3 := hch.cell j3 (by go_light; simp; omega)
        have hextw : Ext w wr := Ext.trans hx (Chg.ext hx1V hch (by simpa using hpbw))
        have HNP := Lib.hid hN; clear hN
        cases lpo with
        | true =>
          go_wp2_with fail
          obtain ⟨c0, c1, c2, c3, hch4⟩ := set4 wr (w.heap.size + 1 + 1) (.bool true) (.slice (some ⟨pb, 0, none⟩) l.length l.length) (.slice none 0 0) (.int .i64 0) _ _ _ _ j0 j1 j2 j3
          refine bodyPost_ret (v := .tuple #[.agg #[.bool true, .slice (some ⟨pb, 0, none⟩) l.length l.length, .slice none 0 0, .int .i64 0], .int .i64 0]) (by simp [results, Try.results11, go_sem, c0, c1, c2, c3]) rfl ?_
          refine ⟨⟨_, rfl, .agg #[.bool true, .slice (some ⟨pb, 0, none⟩) l.length l.length, .slice none 0 0, .int .i64 0], by rw [HM.out], ?_⟩, Chg.ext hextw hch4 (fun i hi => by rw [List.mem_singleton.1 hi]; exact Nat.le_trans (Nat.le_succ _) (Nat.le_succ _))⟩
          have hmo : madeOrd l cs ⟨true, (pp : Int), weight, top⟩ = ⟨true, rankList l.length vv, [], 0⟩ := by
            unfold madeOrd; rw [if_pos HM.out, HPR.out]; rfl
          rw [hmo]
          have hrl : (rankList l.length vv).length = l.length := by simp [rankList]
          refine ⟨some ⟨pb, 0, none⟩, l.length, none, 0, by rw [hrl]; rfl, ?_, fun i hi => by simp at hi, by rw [hrl]; exact Nat.le_refl _, by simp, by simp, by simp⟩
          refine (Nums.chg HNP.out hch4 hpbn).isInts fun x hx => ?_
          have := precOf_range (l := l) (prec := (pp : Int)) (ns := countsOf l cs) x (by rw [HPR.out]; exact hx)
          omega
        | false =>
          have efr3 := efr 3 (by go_light; omega)
          have efr2 := efr 2 (by go_light; omega)
          have HNN : Nums wr nb ns := (HI.out.2.1.ext hx1V).chg hch (by go_light; simp; omega)
          have HNN := Lib.hid HNN
          have HEF := Lib.hid efr2
          clear efr efr2
          go_wp2_with fail
          obtain ⟨V2, hV2⟩ : ∃ V2, V2 = wr.setCell ⟨ob, 3, none⟩ (.int .i64 1) := ⟨_, rfl⟩
          have hch2 : Chg [ob] wr V2 := by rw [hV2]; exact (Chg.refl _ _).setCell (p := ⟨ob, 3, none⟩) _ (.inl (by simp))
          have u0 : V2.cell? ⟨ob, 0, none⟩ = some (.bool false) := by rw [hV2, World.cell?_setCell_other _ _ _ _ (by simp)]; exact e0
          have u1 : V2.cell? ⟨ob, 1, none⟩ = some (.slice (some ⟨pb, 0, none⟩) l.length l.length) := by rw [hV2, World.cell?_setCell_other _ _ _ _ (by simp)]; exact e1
          have u2 : V2.cell? ⟨ob, 2, none⟩ = some (.slice none 0 0) := by rw [hV2, World.cell?_setCell_other _ _ _ _ (by simp)]; exact e2
          have u3 : V2.cell? ⟨ob, 3, none⟩ = some (.int .i64 1) := by rw [hV2]; exact World.cell?_setCell_same _ _ _ e3
          have uf2 : V2.frozen? ⟨ob, 2, none⟩ = false := by rw [hV2, World.frozen?_setCell]; exact HEF.out
          rw [← hV2]
          have hn2 : w.heap.size + 1 + 1 < V2.heap.size := by go_light; have := hch2.size; have := hch.size; omega
          have HNP2 := Lib.hid (HNP.out.chg hch2 (by go_light; simp; omega))
          have HNN2 := Lib.hid (HNN.out.chg hch2 (by go_light; simp; omega))
          have hwV2 : Ext w V2 := Chg.ext hextw hch2 (by go_light; simp; omega)
          have v0 := hch2.cell q00 (by go_light; simp; omega)
          have v2 := hch2.cell q2 (by go_light; simp; omega)
          have v3 := hch2.cell q3 (by go_light; simp; omega)
          have w0 := hch2.cell j0 (by go_light; simp; omega)
          have w1' := hch2.cell j1 (by go_light; simp; omega)
          have w2' := hch2.cell j2 (by go_light; simp; omega)
          have w3' := hch2.cell j3 (by go_light; simp; omega)
          have x0 := hch2.frozen j0 (by go_light; simp; omega) f0
          have x1 := hch2.frozen j1 (by go_light; simp; omega) f1
          have x2 := hch2.frozen j2 (by go_light; simp; omega) f2
          have x3 := hch2.frozen j3 (by go_light; simp; omega) f3
          clear hV2 e0 e1 e2 e3 efr3 q0 q2 q3 q00 f0 f1 f2 f3 j0 j1 j2 j3 HEF HNP HNN
          have hrl : (rankList l.length vv).length = l.length := by simp [rankList]
          obtain ⟨pr, hpr⟩ : ∃ pr, pr = rankList l.length vv := ⟨_, rfl⟩
          rw [← hpr] at HNP2 hrl
          have hprr : ∀ x ∈ pr, 0 ≤ x ∧ x ≤ 97 := fun x hx => by
            have := precOf_range (l := l) (prec := (pp : Int)) (ns := countsOf l cs) x (by rw [HPR.out, ← hpr]; exact hx)
            omega
          have HPRR := Lib.hid hprr; clear hprr
          have Hpr := Lib.hid hpr; clear hpr
          have HW0 := Lib.hid (And.intro w0 (And.intro w1' (And.intro w2' (And.intro w3' (And.intro x0 (And.intro x1 (And.intro x2 x3)))))))
          clear w0 w1' w2' w3' x0 x1 x2 x3
          go_loopw [93] (fun s wr => ∃ (k : Nat) (va : Option Addr) (vc : Nat), k ≤ l.length ∧ s = .int .i64 k ∧ GRow eltInt 3 V2.heap.size wr (.slice va k vc) (weightsOf l weight top pr ns k) ∧ wr.cell? ⟨ob, 2, none⟩ = some (.slice va k vc) ∧ wr.frozen? ⟨ob, 2, none⟩ = false ∧
            wr.cell? ⟨ob, 0, none⟩ = some (.bool false) ∧ wr.cell? ⟨ob, 1, none⟩ = some (.slice (some ⟨pb, 0, none⟩) l.length l.length) ∧ wr.cell? ⟨ob, 3, none⟩ = some (.int .i64 1) ∧ Chg [ob] V2 wr) (fun s _ => l.length - (intOf s).toNat)
          case atStart => exact ⟨0, none, 0, Nat.zero_le _, rfl, by rw [weightsOf_zero]; exact GRow.nil, u2, uf2, u0, u1, u3, Chg.refl _ _⟩
          case round =>
            obtain ⟨k, va, vc, hkk3, rfl, hrow, r2, rf2, r0, r1, r3, hch3⟩ := hrel
            clear u0 u1 u2 u3 uf2
            have hwl : (weightsOf l weight top pr ns k).length = k := by simp [weightsOf]
            by_cases hlt3 : k < l.length
            case pos =>
              have hk3 : (k : Int) < l.length := by go_light; omega
              have hp0 : k = 0 → l[k].arity = 0 := fun h => by rw [← arOf_eq hlt3, h]; exact HSX.out.2.2
              obtain ⟨sb, so, rfl, -, sn, sa, sp⟩ := hsy.look hlt3
              replace sn := hch3.cell (hwV2.cell sn) (by go_light; have := cell_lt sn; simp at this ⊢; omega)
              replace sa := hch3.cell (hwV2.cell sa) (by go_light; have := cell_lt sa; simp at this ⊢; omega)
              replace sp := hch3.cell (hwV2.cell sp) (by go_light; have := cell_lt sp; simp at this ⊢; omega)
              have s0 := hch3.cell v0 (by go_light; simp; omega)
              have s2 := hch3.cell v2 (by go_light; simp; omega)
              have s3 := hch3.cell v3 (by go_light; simp; omega)
              have hNp := HNP2.out.chg hch3 (by go_light; simp; omega)
              have hNn := HNN2.out.chg hch3 (by go_light; simp; omega)
              obtain ⟨np1, -⟩ := hNp.cell k (by go_light; omega)
              obtain ⟨nn1, -⟩ := hNn.cell k (by go_light; omega)
              have hpk := HPRR.out pr[k] (List.getElem_mem _)
              have hnk := HI.out.2.2.2 ns[k] (List.getElem_mem _)
              have hak := hars k hlt3
              have hhi := high_any pr k (by go_light; omega) (by go_light; omega)
              have Hh := Lib.hid (fun w' (h : Ext wr w') => by
                have := hhi w' (some ⟨pb, 0, none⟩) l.length ((hNp.ext h).isInts fun x hx => by go_light; have := HPRR.out x hx; omega)
                rewrite [hrl] at this
                exact this)
              clear hhi
              have hspec : weightsOf l weight top pr ns (k + 1) = weightsOf l weight top pr ns k ++ [if top = true ∧ l[k].arity = 1 ∧ highB pr k = true then 0 else if k = 0 then 1 else min (if weight = 1 then l[k].arity + 1 else if weight = 2 then pr[k]'(by go_light; omega) + 1 else if weight = 3 then ns[k]'(by go_light; omega) + 1 else 1) 1000] := by 
                exact weightsOf_at hlt3 (by go_light; omega) (by go_light; omega)
              generalize l[k].arity = p at sa hak hspec hp0
              generalize l[k].name = nm at sn
              generalize l[k].pred = prd at sp
              generalize pr[k]'_ = q at np1 hpk hspec
              generalize ns[k]'_ = r at nn1 hnk hspec
              have wp : IntKind.i64.wrap (p + 1) = p + 1 := IntWalk.i64_in _ (by go_light; omega)
              have wq : IntKind.i64.wrap (q + 1) = q + 1 := IntWalk.i64_in _ (by go_light; omega)
              have wr' : IntKind.i64.wrap (r + 1) = r + 1 := IntWalk.i64_in _ (by go_light; omega)
              have HS := Lib.hid hspec; clear hspec hNp hNn
              have Hwl := Lib.hid hwl; clear hwl
              obtain ⟨raw, hraw⟩ : ∃ raw : Int, raw = if weight = 1 then p + 1 else if weight = 2 then q + 1 else if weight = 3 then r + 1 else 1 := ⟨_, rfl⟩
              rw [← hraw] at HS
              have hrawr : 0 ≤ raw := by go_light; rw [hraw]; split; omega; split; omega; split <;> omega
              have hw4 : weight = 0 ∨ weight = 1 ∨ weight = 2 ∨ weight = 3 := by go_light; omega
              have Hrw := Lib.hid hraw; clear hraw
              go_upto_region 22 with fail
              obtain ⟨V3, hV3⟩ : ∃ V3, V3 = wr.alloc (.cells #[.string nm, .int .i64 p, .bool prd] 57) := ⟨_, rfl⟩
              rw [← hV3]
              have hE3 : Ext wr V3 := by rw [hV3]; exact ext_alloc _ _
              have n1 : V3.cell? ⟨wr.heap.size, 1, none⟩ = some (.int .i64 p) := by rw [hV3]; exact (cells3 wr _ _ _ _).2.1
              clear hV3
              replace s2 := hE3.cell s2
              replace s3 := hE3.cell s3
              replace np1 := hE3.cell np1
              replace nn1 := hE3.cell nn1
              replace rf2 := hE3.frozen r2 rf2
              replace r0 := hE3.cell r0
              replace r1 := hE3.cell r1
              replace r2 := hE3.cell r2
              replace r3 := hE3.cell r3
              replace hch3 := hch3.trans (Chg.of_ext hE3)
              replace hrow := hrow.ext hE3
              have Hh := Lib.hid (fun w' (h : Ext V3 w') => Hh.out w' (hE3.trans h))
              clear sn sa sp
              go_cut [17] from 94 to 140 (fun x wx => x = .int .i64 raw ∧ Ext V3 wx)
              case first =>
                clear r0 r2 r3 rf2 hch3 hrow Hh s3 hp0
                have hws : (weight = 0 ∧ raw = 1) ∨ (weight = 1 ∧ raw = p + 1) ∨ (weight = 2 ∧ raw = q + 1) ∨ (weight = 3 ∧ raw = r + 1) := by
                  go_light
                  have hh := Hrw.out
                  rcases hw4 with h | h | h | h <;> rw [h] at hh ⊢ <;> simpa using hh
                rcases hws with ⟨h, hr⟩ | ⟨h, hr⟩ | ⟨h, hr⟩ | ⟨h, hr⟩
                all_goals
                  rw [h] at s2
                  have HR := Lib.hid hr; clear hr h
                  refine wp_region_noPanic ?_
                  refine wp_region_An (by kernel_rfl) ?_
                  (apply An.take (i := 15); (focus ((simp only [List.getElem?_toArray, List.getElem?_cons_succ, List.getElem?_cons_zero]; rfl))); (focus kernel_rfl); (focus (exact fun _ _ _ _ _ h => h)); (focus (left; refine ⟨by rfl, fun w0 => ?_⟩; go_simp; first | done | rfl)); simp only [Act.put, List.setIfInBounds_toArray, List.set_cons_zero, List.set_cons_succ])
                  refine An.walkz Ext [0, 1, 2, 3, 4, 5, 6, 7, 8, 9, 10, 11, 12, 13] 16 goes_ext (by decide +kernel) (fun _ _ _ _ _ h => h) ?_
                  iterate 14 (apply wpS_open; (focus (simp only [List.getElem?_toArray, List.getElem?_cons_succ, List.getElem?_cons_zero]; rfl)); first | (refine St_skip (by rfl) ?_; simp only [Act.put, List.setIfInBounds_toArray, List.set_cons_zero, List.set_cons_succ]) | (apply St_want; (focus rfl); (focus (intro v1 hv; have hv2 := ext_base hv; have g1 := hv2.cell n1; have g2 := hv2.cell r1; have g3 := hv2.cell np1; have g4 := hv2.cell nn1; go_simp; first | done | rfl)); simp only [Act.put, List.setIfInBounds_toArray, List.set_cons_zero, List.set_cons_succ]))
                  refine wpS_nil (fun v1 hv1 => ?_)
                  have hxv1 := ext_base hv1
                  have g5 := hxv1.cell s2
                  refine Beside.mk goes_ext (i := 14) (j := 16) (by (simp only [List.getElem?_toArray, List.getElem?_cons_succ, List.getElem?_cons_zero]; rfl)) (by (simp only [List.getElem?_toArray, List.getElem?_cons_succ, List.getElem?_cons_zero]; rfl)) (by decide +kernel) (by rfl) (by rfl) (fun K hK => ?_) (fun K hK => ?_)
                  · go_simp
                    refine hK _ _ ?_
                    clear hK
                    obtain ⟨c0, c1, c2, c3⟩ := cells4 v1 (.int .i64 1) (.int .i64 (p + 1)) (.int .i64 (q + 1)) (.int .i64 (r + 1)) 3
                    have hA := ext_alloc v1 (.cells #[.int .i64 1, .int .i64 (p + 1), .int .i64 (q + 1), .int .i64 (r + 1)] 3)
                    replace g5 := hA.cell g5
                    have hx4 := hxv1.trans hA
                    clear hA hv1
                    refine An.one (i := 16) (by (simp only [List.getElem?_toArray, List.getElem?_cons_succ, List.getElem?_cons_zero]; rfl)) (by decide +kernel) (by rfl) (fun K hK => ?_)
                    go_simp
                    refine hK _ _ ?_
                    clear hK
                    refine An.one (i := 17) (by (simp only [List.getElem?_toArray, List.getElem?_cons_succ, List.getElem?_cons_zero]; rfl)) (by decide +kernel) (by rfl) (fun K hK => ?_)
                    go_simp
                    refine hK _ _ ?_
                    clear hK
                    refine An.one (i := 18) (by (simp only [List.getElem?_toArray, List.getElem?_cons_succ, List.getElem?_cons_zero]; rfl)) (by decide +kernel) (by rfl) (fun K hK => ?_)
                    go_simp
                    refine hK _ _ ?_
                    clear hK
                    refine An.one (i := 19) (by (simp only [List.getElem?_toArray, List.getElem?_cons_succ, List.getElem?_cons_zero]; rfl)) (by decide +kernel) (by rfl) (fun K hK => ?_)
                    go_simp
                    refine hK _ _ ?_
                    clear hK
                    refine An.done (by decide +kernel) ?_
                    refine NoPanic.normal ?_
                    go_wp2_with fail
                    go_meet
                    exact ⟨by rw [HR.out], hx4⟩
                  · go_simp
                    refine hK _ _ (Below.refl _ _) (fun v2 hv2 => ?_)
                    clear hK
                    refine An.one (i := 14) (by (simp only [List.getElem?_toArray, List.getElem?_cons_succ, List.getElem?_cons_zero]; rfl)) (by decide +kernel) (by rfl) (fun K hK => ?_)
                    go_simp
                    refine hK _ _ ?_
                    clear hK
                    obtain ⟨c0, c1, c2, c3⟩ := cells4 v2 (.int .i64 1) (.int .i64 (p + 1)) (.int .i64 (q + 1)) (.int .i64 (r + 1)) 3
                    have hA := ext_alloc v2 (.cells #[.int .i64 1, .int .i64 (p + 1), .int .i64 (q + 1), .int .i64 (r + 1)] 3)
                    have hx4 := (hxv1.trans hv2).trans hA
                    clear hA hv1 hv2
                    refine An.one (i := 17) (by (simp only [List.getElem?_toArray, List.getElem?_cons_succ, List.getElem?_cons_zero]; rfl)) (by decide +kernel) (by rfl) (fun K hK => ?_)
                    go_simp
                    refine hK _ _ ?_
                    clear hK
                    refine An.one (i := 18) (by (simp only [List.getElem?_toArray, List.getElem?_cons_succ, List.getElem?_cons_zero]; rfl)) (by decide +kernel) (by rfl) (fun K hK => ?_)
                    go_simp
                    refine hK _ _ ?_
                    clear hK
                    refine An.one (i := 19) (by (simp only [List.getElem?_toArray, List.getElem?_cons_succ, List.getElem?_cons_zero]; rfl)) (by decide +kernel) (by rfl) (fun K hK => ?_)
                    go_simp
                    refine hK _ _ ?_
                    clear hK
                    refine An.done (by decide +kernel) ?_
                    refine NoPanic.normal ?_
                    go_wp2_with fail
                    go_meet
                    exact ⟨by rw [HR.out], hx4⟩
              case rest =>
                obtain ⟨rfl, hx4⟩ := hcut
                generalize wc = V4 at hx4 ⊢
                replace s3 := hx4.cell s3
                replace n1 := hx4.cell n1
                replace rf2 := hx4.frozen r2 rf2
                replace r0 := hx4.cell r0
                replace r1 := hx4.cell r1
                replace r2 := hx4.cell r2
                replace r3 := hx4.cell r3
                replace hch3 := hch3.trans (Chg.of_ext hx4)
                replace hrow := hrow.ext hx4
                have Hh := Lib.hid (fun w' (h : Ext V4 w') => Hh.out w' (hx4.trans h))
                clear np1 nn1 s2 hw4
                obtain ⟨v2, hv2⟩ : ∃ v2 : Int, v2 = if k = 0 then 1 else if top = true ∧ p = 1 ∧ highB pr k = true then 0 else raw := ⟨_, rfl⟩
                have hv2m : (if top = true ∧ p = 1 ∧ highB pr k = true then (0 : Int) else if k = 0 then 1 else min raw 1000) = min v2 1000 := by
                  go_light
                  rw [hv2]
                  by_cases hk0 : k = 0
                  · have := hp0 hk0
                    rw [if_neg (by go_light; omega), if_pos hk0, if_pos hk0]; omega
                  · rw [if_neg hk0, if_neg hk0]; split <;> omega
                have HS := Lib.hid (HS.out.trans (by rw [hv2m]))
                have hv2r : 0 ≤ v2 := by go_light; rw [hv2]; split; omega; split <;> omega
                clear hv2m
                go_upto_block 6 with fail
                go_cut [17] from 117 to 140 (fun x wx => x = .int .i64 v2 ∧ Ext V4 wx)
                case first =>
                  clear r0 r2 r3 rf2 hch3 hrow hp0
                  rcases Nat.eq_zero_or_pos k with hk0 | hk0
                  · rw [if_pos hk0] at hv2
                    have hkb : ((k : Int) == 0) = true := by go_light; rw [beq_iff_eq]; omega
                    go_wp2_with fail
                    go_meet
                    exact ⟨by rw [hv2], Below.refl _ _⟩
                  · rw [if_neg (by go_light; omega)] at hv2
                    have hkb : ((k : Int) == 0) = false := by go_light; rw [beq_eq_false_iff_ne]; omega
                    by_cases hp1' : p = 1
                    · have hpb : (p == 1) = true := by rw [beq_iff_eq]; exact hp1'
                      cases top with
                      | false =>
                        rw [if_neg (by simp)] at hv2
                        go_wp2_with fail
                        go_meet
                        exact ⟨by rw [hv2], Below.refl _ _⟩
                      | true =>
                        cases hhb : highB pr k with
                        | false =>
                          rw [hhb] at Hh hv2
                          rw [if_neg (by simp)] at hv2
                          clear hp1' hhb
                          go_wp2_with (go_at_call 24; refine (Hh.out _ (Below.refl _ _)).mono ?_; rintro e w5 ⟨rfl, hx5⟩)
                          go_meet
                          exact ⟨by rw [hv2], hx5⟩
                        | true =>
                          rw [hhb] at Hh hv2
                          rw [if_pos ⟨rfl, hp1', rfl⟩] at hv2
                          clear hp1' hhb
                          go_wp2_with (go_at_call 24; refine (Hh.out _ (Below.refl _ _)).mono ?_; rintro e w5 ⟨rfl, hx5⟩)
                          go_meet
                          exact ⟨by rw [hv2], hx5⟩
                    · have hpb : (p == 1) = false := by rw [beq_eq_false_iff_ne]; exact hp1'
                      rw [if_neg (fun h => hp1' h.2.1)] at hv2
                      cases top with
                      | false =>
                        go_wp2_with fail
                        go_meet
                        exact ⟨by rw [hv2], Below.refl _ _⟩
                      | true =>
                        go_wp2_with fail
                        go_meet
                        exact ⟨by rw [hv2], Below.refl _ _⟩
                case rest =>
                  obtain ⟨rfl, hx5⟩ := hcut
                  generalize wc = V5 at hx5 ⊢
                  replace rf2 := hx5.frozen r2 rf2
                  replace r0 := hx5.cell r0
                  replace r1 := hx5.cell r1
                  replace r2 := hx5.cell r2
                  replace r3 := hx5.cell r3
                  replace hch3 := hch3.trans (Chg.of_ext hx5)
                  replace hrow := hrow.ext hx5
                  have hV2ob : ob < V2.heap.size := by go_light; have := hch2.size; have := hch.size; omega
                  clear n1 s3 hv2 Hh hp0
                  have hv3r : 0 ≤ min v2 1000 ∧ min v2 1000 ≤ 1000 := by go_light; omega
                  have hobV5 : ob < V5.heap.size := Nat.lt_of_lt_of_le hV2ob hch3.size
                  go_wp2_with (at_builtin; refine wpList_append_row rfl _ _ _ rfl 3 i0 _ 8 Try.underlying25 hi0 hz0 hz1' hz2' rfl (by decide) V2.heap.size (.slice va k vc) (weightsOf l weight top pr ns k) rfl V5 hrow (ext_alloc _ _) V5.heap.size rfl _ _ (heap_alloc_new _ _) (min v2 1000) ⟨rfl, by go_light; omega, by go_light; omega⟩ (by go_light; rw [Hwl.out]; simp only [maxLen]; omega) (by go_light; rw [Hwl.out]; omega) (Nat.le_trans hch3.size (ext_alloc _ _).size) ?_; intro g cap w4 hrow4 hgrow4 hat4 hlt4; rw [Hwl.out] at hrow4 ⊢; (have hc4 := Chg.app hch3 hrow (Nat.le_refl _) (ext_alloc _ _) hgrow4); (have hfar : (some ob) ≠ (Value.slice va k vc).ownBlock := fun e => absurd (hrow.own_ge e.symm).1 (Nat.not_le.2 hV2ob)); (have hlt5 : ob < (V5.alloc (.cells #[.int .i64 (min v2 1000)] 3)).heap.size := Nat.lt_of_lt_of_le hobV5 (ext_alloc _ _).size); (have y0 := (hgrow4.cell_far ⟨ob, 0, none⟩ hlt5 hfar).trans ((ext_alloc _ _).cell r0)); (have y1 := (hgrow4.cell_far ⟨ob, 1, none⟩ hlt5 hfar).trans ((ext_alloc _ _).cell r1)); (have y2 := (hgrow4.cell_far ⟨ob, 2, none⟩ hlt5 hfar).trans ((ext_alloc _ _).cell r2)); (have y3 := (hgrow4.cell_far ⟨ob, 3, none⟩ hlt5 hfar).trans ((ext_alloc _ _).cell r3)); (have yf := (hgrow4.frozen_far ⟨ob, 2, none⟩ hlt5 hfar).trans ((ext_alloc _ _).frozen r2 rf2)))
                  go_roundw
                  case rel =>
                    first | (refine ⟨k + 1, _, cap, by go_light; omega, by go_num, ?_, World.cell?_setCell_same _ _ _ y2, (World.frozen?_setCell _ _ _ _).trans yf, by rw [World.cell?_setCell_other _ _ _ _ (by simp)]; exact y0, by rw [World.cell?_setCell_other _ _ _ _ (by simp)]; exact y1, by rw [World.cell?_setCell_other _ _ _ _ (by simp)]; exact y3, hc4.setCell (p := ⟨ob, 2, none⟩) _ (.inl (by simp))⟩) | ((repeat apply Exists.intro); refine ⟨⟨k + 1, _, cap, by go_light; omega, by go_num, ?_, World.cell?_setCell_same _ _ _ y2, (World.frozen?_setCell _ _ _ _).trans yf, by rw [World.cell?_setCell_other _ _ _ _ (by simp)]; exact y0, by rw [World.cell?_setCell_other _ _ _ _ (by simp)]; exact y1, by rw [World.cell?_setCell_other _ _ _ _ (by simp)]; exact y3, hc4.setCell (p := ⟨ob, 2, none⟩) _ (.inl (by simp))⟩, rfl⟩)
                    rw [HS.out]
                    have hx6 := hrow4.chg ((Chg.refl [ob] w4).setCell (p := ⟨ob, 2, none⟩) (.slice (some ⟨g, 0, none⟩) (k + 1) cap) (.inl (by simp))) (by go_light; simp; have := hch3.size; omega)
                    exact hx6
                  case measure => go_light; simp [intOf]; omega
            case neg =>
              have hk3 : ¬ (k : Int) < l.length := by go_light; omega
              have hke : k = l.length := by go_light; omega
              have hwl' := Lib.hid hwl; clear hwl
              obtain ⟨w0, w1', w2', w3', x0, x1, x2, x3⟩ := HW0.out
              replace x0 := hch3.frozen w0 (by go_light; simp; omega) x0
              replace x1 := hch3.frozen w1' (by go_light; simp; omega) x1
              replace x2 := hch3.frozen w2' (by go_light; simp; omega) x2
              replace x3 := hch3.frozen w3' (by go_light; simp; omega) x3
              replace w0 := hch3.cell w0 (by go_light; simp; omega)
              replace w1' := hch3.cell w1' (by go_light; simp; omega)
              replace w2' := hch3.cell w2' (by go_light; simp; omega)
              replace w3' := hch3.cell w3' (by go_light; simp; omega)
              have hNp := Lib.hid (HNP2.out.chg hch3 (by go_light; simp; omega))
              have HKE := Lib.hid hke; clear hke
              have HROW := Lib.hid hrow; clear hrow
              go_wp2_with fail
              obtain ⟨c0, c1, c2, c3, hch4⟩ := set4 wr (w.heap.size + 1 + 1) (.bool false) (.slice (some ⟨pb, 0, none⟩) l.length l.length) (.slice va k vc) (.int .i64 1) _ _ _ _ w0 w1' w2' w3'
              refine bodyPost_ret (v := .tuple #[.agg #[.bool false, .slice (some ⟨pb, 0, none⟩) l.length l.length, .slice va k vc, .int .i64 1], .int .i64 0]) (by simp [results, Try.results11, go_sem, c0, c1, c2, c3]) rfl ?_
              have hmo : madeOrd l cs ⟨false, (pp : Int), weight, top⟩ = ⟨false, pr, weightsOf l weight top pr ns k, 1⟩ := by
                unfold madeOrd; rw [if_pos HM.out, HPR.out, ← Hpr.out, ← HI.out.1, HKE.out]; rfl
              have hextf : Ext w wr := Chg.ext hwV2 hch3 (by go_light; simp; omega)
              refine ⟨⟨_, rfl, .agg #[.bool false, .slice (some ⟨pb, 0, none⟩) l.length l.length, .slice va k vc, .int .i64 1], by rw [HM.out], ?_⟩, Chg.ext hextf hch4 (fun i hi => by rw [List.mem_singleton.1 hi]; exact Nat.le_trans (Nat.le_succ _) (Nat.le_succ _))⟩
              rw [hmo]
              obtain ⟨a5, c5, hv5, hc5, hat5⟩ := HROW.out.ints
              rw [hwl'.out] at hv5 hc5
              injection hv5 with e1 e2 e3
              subst e1; subst e3
              refine ⟨some ⟨pb, 0, none⟩, l.length, va, vc, by rw [hrl, hwl'.out], ?_, ?_, by rw [hrl]; exact Nat.le_refl _, by rw [hwl'.out]; exact hc5, by simp, by simp⟩
              · refine (Nums.chg hNp.out hch4 hpbn).isInts fun x hx => ?_
                have := HPRR.out x hx
                omega
              · have hI : IsInts wr va (weightsOf l weight top pr ns k) := hat5.isInts
                refine fun i hi => ?_
                obtain ⟨z1, z2, bb, oo, z3, z4⟩ := hat5 i hi
                obtain ⟨z5, z6⟩ := z4
                have h51 : V2.heap.size ≤ bb := z5.1
                have h52 := hch2.size
                have h53 : V.heap.size ≤ _ := hch.size
                exact ⟨z1, z2, bb, oo, z3, hch4.cell z6 (fun h => absurd (List.mem_singleton.1 h) (Nat.ne_of_gt (Nat.lt_of_lt_of_le hn2 h51)))⟩
end Go.Proofs.Ytdmiphdohfcbeaa
