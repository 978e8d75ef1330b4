/- What the reference's Make returns where a way can be gone. Conditions: at most 100 clauses; lengths and sizes fit. -/
import Derived.Test.YtdmiphdohfcbeaaPrecR6
import Derived.Deep.CutRange
import Derived.Deep.CutBlock
namespace Go.Proofs.Ytdmiphdohfcbeaa
open Go.ChangeShapes Go.WideShapes Go.ChangeAt Go.RowKit

theorem fresh4 (w : World) (x y z u : Value) (t : TypeId) : (∀ j v, (#[x, y, z, u] : Array Value)[j]? = some v → (w.alloc (.cells #[x, y, z, u] t)).cell? ⟨w.heap.size, j, none⟩ = some v) ∧ ∀ j, (w.alloc (.cells #[x, y, z, u] t)).frozen? ⟨w.heap.size, j, none⟩ = false := by
  have ho := heap_alloc_new w (.cells #[x, y, z, u] t)
  refine ⟨fun j v h => by rw [cell_of_row _ w.heap.size _ _ _ _ ho]; exact h, fun j => ?_⟩
  unfold World.frozen?; simp only [ho]; simp
/-- a row of numbers and an order that bears it, both new -/
structure MkO (w V : World) (pb ob n : Nat) (lpo : Bool) : Prop where
  ext : Ext w V
  ne : pb ≠ ob
  p1 : w.heap.size ≤ pb
  p2 : pb < V.heap.size
  o1 : w.heap.size ≤ ob
  o2 : ob < V.heap.size
  nums : Nums V pb (List.replicate n 0)
  c0 : V.cell? ⟨ob, 0, none⟩ = some (.bool lpo)
  c1 : V.cell? ⟨ob, 1, none⟩ = some (.slice (some ⟨pb, 0, none⟩) n n)
  c2 : V.cell? ⟨ob, 2, none⟩ = some (.slice none 0 0)
  c3 : V.cell? ⟨ob, 3, none⟩ = some (.int .i64 0)
  fr : ∀ j, V.frozen? ⟨ob, j, none⟩ = false
theorem mkO_one (w : World) (n : Nat) (lpo : Bool) : MkO w ((w.alloc (.cells (madeCells #[.int .i64 0] n) 3)).alloc (.cells #[.bool lpo, .slice (some ⟨w.heap.size, 0, none⟩) n n, .slice none 0 0, .int .i64 0] 27)).drew w.heap.size (w.heap.size + 1) n lpo := by
  obtain ⟨h1, h2⟩ := fresh4 (w.alloc (.cells (madeCells #[.int .i64 0] n) 3)) (.bool lpo) (.slice (some ⟨w.heap.size, 0, none⟩) n n) (.slice none 0 0) (.int .i64 0) 27
  have hs : (w.alloc (.cells (madeCells #[.int .i64 0] n) 3)).heap.size = w.heap.size + 1 := by simp
  rw [hs] at h1 h2
  refine ⟨((ext_alloc _ _).trans (ext_alloc _ _)).drew, by omega, Nat.le_refl _, by simp [World.drew]; omega, by omega, by simp [World.drew], ?_, h1 0 _ rfl, h1 1 _ rfl, h1 2 _ rfl, h1 3 _ rfl, h2⟩
  exact (Nums.made w n).ext (ext_alloc _ _).drew
theorem mkO_two (w : World) (n : Nat) (lpo : Bool) : MkO w ((w.alloc (.cells #[.bool lpo, .slice (some ⟨w.heap.size + 1, 0, none⟩) n n, .slice none 0 0, .int .i64 0] 27)).alloc (.cells (madeCells #[.int .i64 0] n) 3)).drew (w.heap.size + 1) w.heap.size n lpo := by
  obtain ⟨h1, h2⟩ := fresh4 w (.bool lpo) (.slice (some ⟨w.heap.size + 1, 0, none⟩) n n) (.slice none 0 0) (.int .i64 0) 27
  have hx := ext_alloc (w.alloc (.cells #[.bool lpo, .slice (some ⟨w.heap.size + 1, 0, none⟩) n n, .slice none 0 0, .int .i64 0] 27)) (.cells (madeCells #[.int .i64 0] n) 3)
  have hN := Nums.made (w.alloc (.cells #[.bool lpo, .slice (some ⟨w.heap.size + 1, 0, none⟩) n n, .slice none 0 0, .int .i64 0] 27)) n
  have hs : (w.alloc (.cells #[.bool lpo, .slice (some ⟨w.heap.size + 1, 0, none⟩) n n, .slice none 0 0, .int .i64 0] 27)).heap.size = w.heap.size + 1 := by simp
  rw [hs] at hN
  exact ⟨((ext_alloc _ _).trans (ext_alloc _ _)).drew, by omega, by omega, by simp [World.drew], Nat.le_refl _, by simp [World.drew]; omega, hN.ext (Ext.drew (Below.refl _ _)), (hx.drew).cell (h1 0 _ rfl), (hx.drew).cell (h1 1 _ rfl), (hx.drew).cell (h1 2 _ rfl), (hx.drew).cell (h1 3 _ rfl), fun j => by
    have : ((w.alloc (.cells #[.bool lpo, .slice (some ⟨w.heap.size + 1, 0, none⟩) n n, .slice none 0 0, .int .i64 0] 27)).alloc (.cells (madeCells #[.int .i64 0] n) 3)).drew.heap[w.heap.size]? = (w.alloc (.cells #[.bool lpo, .slice (some ⟨w.heap.size + 1, 0, none⟩) n n, .slice none 0 0, .int .i64 0] 27)).heap[w.heap.size]? := hx.drew.block _ (by simp)
    have h3 := h2 j
    unfold World.frozen? at h3 ⊢
    simp only [this]
    exact h3⟩

set_option maxHeartbeats 4000000 in
set_option maxRecDepth 100000 in
theorem refMake_ok (l : List Sy) (hl : l.length ≤ 1048576) (cs : List (List Lt)) (hcl : cs.length ≤ 100) (hcs : sizedCls cs) (y : Way) (w : World) (a ca : Option Addr) (n cn : Nat) (hsy : IsSyms w a l) (hc : IsCls w ca cs)
    (hm : makeErr l cs y = 0) :
    Calls Try.prog 12 #[.agg #[.slice a l.length n], .slice ca cs.length cn, y.val] w fun e w' => (∃ v, e = .returned v ∧ OrderGiven w' v l cs y) ∧ Ext w w' := by
  obtain ⟨lpo, prec, weight, top⟩ := y
  unfold Way.val
  obtain ⟨W, hW⟩ : ∃ W, W = ((w.alloc (.cells #[.slice a l.length n] 24)).alloc (.cells #[.bool lpo, .int .i64 prec, .int .i64 weight, .bool top] 37)).alloc (.cells #[.bool false, .slice none 0 0, .slice none 0 0, .int .i64 0] 27) := ⟨_, rfl⟩
  have hx : Ext w W := by subst hW; go_grown
  have hsW : W.heap.size = w.heap.size + 3 := by subst hW; simp
  have k00 : W.cell? ⟨w.heap.size, 0, none⟩ = some (.slice a l.length n) := by subst hW; go_simp
  have k0 : W.cell? ⟨w.heap.size + 1, 0, none⟩ = some (.bool lpo) := by subst hW; go_simp
  have k1 : W.cell? ⟨w.heap.size + 1, 1, none⟩ = some (.int .i64 prec) := by subst hW; go_simp
  have k2 : W.cell? ⟨w.heap.size + 1, 2, none⟩ = some (.int .i64 weight) := by subst hW; go_simp
  have k3 : W.cell? ⟨w.heap.size + 1, 3, none⟩ = some (.bool top) := by subst hW; go_simp
  have j0 : W.cell? ⟨w.heap.size + 1 + 1, 0, none⟩ = some (.bool false) := by subst hW; go_simp
  have j1 : W.cell? ⟨w.heap.size + 1 + 1, 1, none⟩ = some (.slice none 0 0) := by subst hW; go_simp
  have j2 : W.cell? ⟨w.heap.size + 1 + 1, 2, none⟩ = some (.slice none 0 0) := by subst hW; go_simp
  have j3 : W.cell? ⟨w.heap.size + 1 + 1, 3, none⟩ = some (.int .i64 0) := by subst hW; go_simp
  have f0 : W.frozen? ⟨w.heap.size + 1 + 1, 0, none⟩ = false := by subst hW; go_simp
  have f1 : W.frozen? ⟨w.heap.size + 1 + 1, 1, none⟩ = false := by subst hW; go_simp
  have f2 : W.frozen? ⟨w.heap.size + 1 + 1, 2, none⟩ = false := by subst hW; go_simp
  have f3 : W.frozen? ⟨w.heap.size + 1 + 1, 3, none⟩ = false := by subst hW; go_simp
  have HC := Lib.hid (refCounts_any l hl cs hcl hcs W a ca n cn (hsy.ext hx) (hc.ext hx))
  have HM := Lib.hid hm
  have hok : countsErr l cs = 0 ∧ 0 ≤ prec ∧ prec ≤ 4 ∧ 0 ≤ weight ∧ weight ≤ 3 := by
    unfold makeErr at hm
    split at hm
    · assumption
    · cases hm
  obtain ⟨h0, b1, b2, b3, b4⟩ := hok
  have d1 : decide (prec < 0) = false := decide_eq_false (by omega)
  have d2 : decide (4 < prec) = false := decide_eq_false (by omega)
  have d3 : decide (weight < 0) = false := decide_eq_false (by omega)
  have d4 : decide (3 < weight) = false := decide_eq_false (by omega)
  have h0e : ¬ countsErr l cs = 2 := by omega
  have H0 := Lib.hid (And.intro h0 h0e); clear h0 h0e hm hc
  have hmk := fun w' => mk_ints l.length (by omega) w'
  go_enter Try.func12, Try.ntmps12
  go_upto_region 4 with ((rw [← hW]; clear hW; go_at_call 14; refine (HC.out).mono ?_; rintro e w1 ⟨⟨v, rfl, hv⟩, hx1⟩; obtain ⟨nb, hnb1, hnb2, rfl, hN⟩ := (hv.resolve_left (fun h => H0.out.2 h.1)).2; have HN := Lib.hid hN; clear hv hN; replace k00 := hx1.cell k00; replace k0 := hx1.cell k0; replace k1 := hx1.cell k1; replace k2 := hx1.cell k2; replace k3 := hx1.cell k3; replace f0 := hx1.frozen j0 f0; replace f1 := hx1.frozen j1 f1; replace f2 := hx1.frozen j2 f2; replace f3 := hx1.frozen j3 f3; replace j0 := hx1.cell j0; replace j1 := hx1.cell j1; replace j2 := hx1.cell j2; replace j3 := hx1.cell j3))
  replace hx := Ext.trans hx hx1
  clear hx1 HC
  obtain ⟨hl1, hl96, har0, hars⟩ := sig_ok (counts_err H0.out.1).1
  obtain ⟨ns, hns⟩ : ∃ ns, ns = countsOf l cs := ⟨_, rfl⟩
  have hnl : ns.length = l.length := by rw [hns]; exact counts_length _ _
  have hnr : ∀ x ∈ ns, 0 ≤ x ∧ x ≤ 4611686018427387904 := by
    intro x hx
    rw [hns] at hx
    have h1 := counts_le x hx
    have h2 := allSyms_length cs hcs
    omega
  have hNs : Nums w1 nb ns := by rw [hns]; exact HN.out
  have hIn : IsInts w1 (some ⟨nb, 0, none⟩) ns := hNs.isInts fun x hx => by have := hnr x hx; omega
  obtain ⟨vv, hvv⟩ : ∃ vv, vv = rankVal l prec ns := ⟨_, rfl⟩
  have HA := Lib.hid (fun w' (h : Ext w1 w') i k (hi : i < l.length) (hk : k < l.length) => by
    have := above_any l hl prec b1 b2 ns hnl hnr i k hi hk w' a (some ⟨nb, 0, none⟩) n l.length (hsy.ext (Ext.trans hx h)) (hIn.ext h)
    rw [hnl, ← hvv] at this
    exact this)
  have HP : precOf l prec (countsOf l cs) = rankList l.length vv := by unfold precOf; rw [hvv, hns]
  have HPR := Lib.hid HP; clear HP
  have HI := Lib.hid (And.intro hns (And.intro hNs (And.intro hIn hnr)))
  clear hns hNs hIn hnr hvv HN
  go_cut [10] from 44 to 147 (fun x wx => ∃ pb ob, x = .pointer (some ⟨ob, 0, none⟩) ∧ MkO w1 wx pb ob l.length lpo)
  case first =>
    have hne := World.new_ne w1 _ k0
    go_region_held3 (fun w' => w'.cell? ⟨w.heap.size + 1, 0, none⟩ = some (.bool lpo)) (go_keep) (fail)
    · go_wp2_with fail
      go_meet
      exact ⟨_, _, rfl, mkO_one w1 l.length lpo⟩
    · go_wp2_with fail
      go_meet
      exact ⟨_, _, rfl, mkO_two w1 l.length lpo⟩
  case rest =>
    obtain ⟨pb, ob, rfl, hV⟩ := hcut
    have hz1 := hV.p1
    have hz2 := hV.o1
    generalize wc = V at hV ⊢
    have hobw : w.heap.size + 3 ≤ ob := by have := hsW; have := hx.size; omega
    obtain ⟨hxV, hpo, hp1, hp2, ho1, ho2, hNV, oc0, oc1, oc2, oc3, ofr⟩ := hV
    replace k00 := hxV.cell k00
    replace k0 := hxV.cell k0
    replace k1 := hxV.cell k1
    replace k2 := hxV.cell k2
    replace k3 := hxV.cell k3
    replace f0 := hxV.frozen j0 f0
    replace f1 := hxV.frozen j1 f1
    replace f2 := hxV.frozen j2 f2
    replace f3 := hxV.frozen j3 f3
    replace j0 := hxV.cell j0
    replace j1 := hxV.cell j1
    replace j2 := hxV.cell j2
    replace j3 := hxV.cell j3
    have HNV := Lib.hid hNV; clear hNV
    go_wp2_with fail
    go_loopw [11] (fun s wr => ∃ k : Nat, 1 ≤ k ∧ k ≤ l.length ∧ s = .int .i64 k ∧ Chg [pb] V wr ∧ Nums wr pb (rankRow l.length vv k)) (fun s _ => l.length - (intOf s).toNat)
    case atStart => exact ⟨1, Nat.le_refl _, hl1, rfl, Chg.refl _ _, by rw [rankRow_one]; exact HNV.out⟩
    case round =>
      obtain ⟨k, hk1, hkk, rfl, hch, hN⟩ := hrel
      have e1 := hch.cell oc1 (by simp; omega)
      by_cases hlt : k < l.length
      case pos =>
        have hkl : (k : Int) < l.length := by omega
        obtain ⟨m1, m2⟩ := hN.cell k (by rw [rankRow_length]; exact hlt)
        have hNset := hN.set k 1
        rw [← rankUpto_one (n := l.length) (v := vv) (i := k)] at hNset
        generalize (rankRow l.length vv k)[k]'_ = old at m1
        have HNS := Lib.hid hNset; clear hNset hN
        go_wp2_with fail
        obtain ⟨V1, hV1⟩ : ∃ V1, V1 = wr.setCell ⟨pb, k, none⟩ (.int .i64 1) := ⟨_, rfl⟩
        rw [← hV1]
        have hch1 : Chg [pb] V V1 := by rw [hV1]; exact hch.setCell (p := ⟨pb, k, none⟩) _ (.inl (by simp))
        have hN1 : Nums V1 pb ((rankRow l.length vv k).set k (rankUpto l.length vv k 1)) := by
          have := HNS.out
          rw [hV1]; rw [rankUpto_one] at this ⊢; exact this
        clear hV1 HNS m1 m2
        have HN1 := Lib.hid hN1; clear hN1
        go_loopw [12] (fun s wr => ∃ m : Nat, 1 ≤ m ∧ m ≤ l.length ∧ s = .int .i64 m ∧ Chg [pb] V wr ∧ Nums wr pb ((rankRow l.length vv k).set k (rankUpto l.length vv k m))) (fun s _ => l.length - (intOf s).toNat)
        case atStart => exact ⟨1, Nat.le_refl _, hl1, rfl, hch1, HN1.out⟩
        case round =>
          obtain ⟨m, hm1, hmm, rfl, hchm, hNm⟩ := hrel
          have g0 := hchm.cell k00 (by simp; omega)
          have g1 := hchm.cell k1 (by simp; omega)
          have g2 := hchm.cell oc1 (by simp; omega)
          have hext1 : Ext w1 wr := Chg.ext hxV hchm (by simpa using hp1)
          by_cases hltm : m < l.length
          case pos =>
            have hml : (m : Int) < l.length := by omega
            have Hst := Lib.hid (rankUpto_step (n := l.length) (v := vv) (i := k) hm1)
            by_cases hmk : m = k
            · have hb : ((m : Int) != (k : Int)) = false := by rw [bne_eq_false_iff_eq]; omega
              have Hmk := Lib.hid hmk; clear hmk
              have HNm := Lib.hid hNm; clear hNm
              go_wp2_with fail
              go_roundw
              case rel =>
                refine ⟨m + 1, by omega, by omega, by go_num, hchm, ?_⟩
                rw [Hst.out, Hmk.out, above_irrefl]
                have h := HNm.out
                rw [Hmk.out] at h
                simpa using h
              case measure => simp [intOf]; omega
            · have hb : ((m : Int) != (k : Int)) = true := by simp; omega
              have Hmk := Lib.hid hmk; clear hmk
              have Ha := Lib.hid (HA.out wr hext1 k m hlt hltm)
              cases hab : aboveB vv k m with
              | false =>
                rw [hab] at Ha Hst
                have HNm := Lib.hid hNm; clear hNm
                go_wp2_with ((go_at_call 31; refine (Ha.out).mono ?_; rintro e w2 ⟨rfl, hx2⟩))
                go_roundw
                case rel =>
                  refine ⟨m + 1, by omega, by omega, by go_num, hchm.trans (Chg.of_ext hx2), ?_⟩
                  rw [Hst.out]
                  simpa using HNm.out.ext hx2
                case measure => simp [intOf]; omega
              | true =>
                rw [hab] at Ha Hst
                obtain ⟨m1, m2⟩ := hNm.cell k (by rw [List.length_set, rankRow_length]; exact hlt)
                rw [List.getElem_set_self] at m1
                have hr := rankUpto_range l.length vv k m
                have hwr : IntKind.i64.wrap (rankUpto l.length vv k m + 1) = rankUpto l.length vv k m + 1 := IntWalk.i64_in _ (by omega)
                have HNm := Lib.hid hNm; clear hNm
                generalize hru : rankUpto l.length vv k m = ru at m1 hwr
                have Hru := Lib.hid hru; clear hru hr
                go_wp2_with ((go_at_call 31; refine (Ha.out).mono ?_; rintro e w2 ⟨rfl, hx2⟩; replace g2 := hx2.cell g2; replace m2 := hx2.frozen m1 m2; replace m1 := hx2.cell m1))
                go_roundw
                case rel =>
                  refine ⟨m + 1, by omega, by omega, by go_num, (hchm.trans (Chg.of_ext hx2)).setCell (p := ⟨pb, k, none⟩) _ (.inl (by simp)), ?_⟩
                  have h := (HNm.out.ext hx2).set k (ru + 1)
                  rw [List.set_set] at h
                  rw [Hst.out, Hru.out]
                  simpa using h
                case measure => simp [intOf]; omega
          case neg =>
            have hml : ¬ (m : Int) < l.length := by omega
            have hme : m = l.length := by omega
            have HE := Lib.hid hme; clear hme
            have HNm := Lib.hid hNm; clear hNm
            go_wp2_with fail
            go_roundw
            case rel =>
              refine ⟨k + 1, by omega, by omega, by go_num, hchm, ?_⟩
              have h := HNm.out
              rw [HE.out, rankRow_step _ _ _ (by omega)] at h
              exact h
            case measure => simp [intOf]; omega
      case neg =>
        have hkl : ¬ (k : Int) < l.length := by omega
        have hke : k = l.length := by omega
        rw [hke, rankRow_done] at hN
        clear hke e1
        have q0 := hch.cell k0 (by simp; omega)
        have q2 := hch.cell k2 (by simp; omega)
        have q3 := hch.cell k3 (by simp; omega)
        have q00 := hch.cell k00 (by simp; omega)
        have e0 := hch.cell oc0 (by simp; omega)
        have e1 := hch.cell oc1 (by simp; omega)
        have e2 := hch.cell oc2 (by simp; omega)
        have e3 := hch.cell oc3 (by simp; omega)
        have efr : ∀ j, j < 4 → wr.frozen? ⟨ob, j, none⟩ = false := fun j hj => by
          have : j = 0 ∨ j = 1 ∨ j = 2 ∨ j = 3 := by omega
          rcases this with rfl | rfl | rfl | rfl
          · exact hch.frozen oc0 (by simp; omega) (ofr _)
          · exact hch.frozen oc1 (by simp; omega) (ofr _)
          · exact hch.frozen oc2 (by simp; omega) (ofr _)
          · exact hch.frozen oc3 (by simp; omega) (ofr _)
        replace f0 := hch.frozen j0 (by simp; omega) f0
        replace f1 := hch.frozen j1 (by simp; omega) f1
        replace f2 := hch.frozen j2 (by simp; omega) f2
        replace f3 := hch.frozen j3 (by simp; omega) f3
        replace j0 := hch.cell j0 (by simp; omega)
        replace j1 := hch.cell j1 (by simp; omega)
        replace j2 := hch.cell j2 (by simp; omega)
        replace j3 := hch.cell j3 (by simp; omega)
        have hextw : Ext w wr := Ext.trans hx (Chg.ext hxV hch (by simpa using hp1))
        have HNP := Lib.hid hN; clear hN
        cases lpo with
        | true =>
          go_wp2_with fail
          obtain ⟨c0, c1, c2, c3, hch4⟩ := set4 wr (w.heap.size + 1 + 1) (.bool true) (.slice (some ⟨pb, 0, none⟩) l.length l.length) (.slice none 0 0) (.int .i64 0) _ _ _ _ j0 j1 j2 j3
          refine bodyPost_ret (v := .tuple #[.agg #[.bool true, .slice (some ⟨pb, 0, none⟩) l.length l.length, .slice none 0 0, .int .i64 0], .int .i64 0]) (by simp [results, Try.results12, go_sem, c0, c1, c2, c3]) rfl ?_
          refine ⟨⟨_, rfl, .agg #[.bool true, .slice (some ⟨pb, 0, none⟩) l.length l.length, .slice none 0 0, .int .i64 0], by rw [HM.out], ?_⟩, Chg.ext hextw hch4 (by simp <;> omega)⟩
          have hmo : madeOrd l cs ⟨true, prec, weight, top⟩ = ⟨true, rankList l.length vv, [], 0⟩ := by
            unfold madeOrd; rw [if_pos HM.out, HPR.out]; rfl
          rw [hmo]
          have hrl : (rankList l.length vv).length = l.length := by simp [rankList]
          refine ⟨some ⟨pb, 0, none⟩, l.length, none, 0, by rw [hrl]; rfl, ?_, fun i hi => by simp at hi, by rw [hrl]; exact Nat.le_refl _, by simp, by simp, by simp⟩
          refine (Nums.chg HNP.out hch4 (by simp; omega)).isInts fun x hx => ?_
          have := precOf_range (l := l) (prec := prec) (ns := countsOf l cs) x (by rw [HPR.out]; exact hx)
          omega
        | false =>
          have efr3 := efr 3 (by omega)
          have efr2 := efr 2 (by omega)
          have HNN : Nums wr nb ns := (HI.out.2.1.ext hxV).chg hch (by simp; omega)
          have HNN := Lib.hid HNN
          have HEF := Lib.hid efr2
          clear efr efr2
          go_wp2_with fail
          obtain ⟨V2, hV2⟩ : ∃ V2, V2 = wr.setCell ⟨ob, 3, none⟩ (.int .i64 1) := ⟨_, rfl⟩
          have hch2 : Chg [ob] wr V2 := by rw [hV2]; exact (Chg.refl _ _).setCell (p := ⟨ob, 3, none⟩) _ (.inl (by simp))
          have u0 : V2.cell? ⟨ob, 0, none⟩ = some (.bool false) := by rw [hV2, World.cell?_setCell_other _ _ _ _ (by simp)]; exact e0
          have u1 : V2.cell? ⟨ob, 1, none⟩ = some (.slice (some ⟨pb, 0, none⟩) l.length l.length) := by rw [hV2, World.cell?_setCell_other _ _ _ _ (by simp)]; exact e1
          have u2 : V2.cell? ⟨ob, 2, none⟩ = some (.slice none 0 0) := by rw [hV2, World.cell?_setCell_other _ _ _ _ (by simp)]; exact e2
          have u3 : V2.cell? ⟨ob, 3, none⟩ = some (.int .i64 1) := by rw [hV2]; exact World.cell?_setCell_same _ _ _ e3
          have uf2 : V2.frozen? ⟨ob, 2, none⟩ = false := by rw [hV2, World.frozen?_setCell]; exact HEF.out
          rw [← hV2]
          have HNP2 := Lib.hid (HNP.out.chg hch2 (by simp; omega))
          have HNN2 := Lib.hid (HNN.out.chg hch2 (by simp; omega))
          have hwV2 : Ext w V2 := Chg.ext hextw hch2 (by simp; omega)
          have v0 := hch2.cell q00 (by simp; omega)
          have v2 := hch2.cell q2 (by simp; omega)
          have v3 := hch2.cell q3 (by simp; omega)
          have w0 := hch2.cell j0 (by simp; omega)
          have w1' := hch2.cell j1 (by simp; omega)
          have w2' := hch2.cell j2 (by simp; omega)
          have w3' := hch2.cell j3 (by simp; omega)
          have x0 := hch2.frozen j0 (by simp; omega) f0
          have x1 := hch2.frozen j1 (by simp; omega) f1
          have x2 := hch2.frozen j2 (by simp; omega) f2
          have x3 := hch2.frozen j3 (by simp; omega) f3
          clear hV2 e0 e1 e2 e3 efr3 q0 q2 q3 q00 f0 f1 f2 f3 j0 j1 j2 j3 HEF HNP HNN
          obtain ⟨i0, hi0, hz0, hz1', hz2'⟩ := info_parts infoInt
          have hrl : (rankList l.length vv).length = l.length := by simp [rankList]
          obtain ⟨pr, hpr⟩ : ∃ pr, pr = rankList l.length vv := ⟨_, rfl⟩
          rw [← hpr] at HNP2 hrl
          have hprr : ∀ x ∈ pr, 0 ≤ x ∧ x ≤ 97 := fun x hx => by
            have := precOf_range (l := l) (prec := prec) (ns := countsOf l cs) x (by rw [HPR.out, ← hpr]; exact hx)
            omega
          have HPRR := Lib.hid hprr; clear hprr
          have Hpr := Lib.hid hpr; clear hpr
          have HW0 := Lib.hid (And.intro w0 (And.intro w1' (And.intro w2' (And.intro w3' (And.intro x0 (And.intro x1 (And.intro x2 x3)))))))
          clear w0 w1' w2' w3' x0 x1 x2 x3
          go_loopw [13] (fun s wr => ∃ (k : Nat) (va : Option Addr) (vc : Nat), k ≤ l.length ∧ s = .int .i64 k ∧ GRow eltInt 3 V2.heap.size wr (.slice va k vc) (weightsOf l weight top pr ns k) ∧ wr.cell? ⟨ob, 2, none⟩ = some (.slice va k vc) ∧ wr.frozen? ⟨ob, 2, none⟩ = false ∧
            wr.cell? ⟨ob, 0, none⟩ = some (.bool false) ∧ wr.cell? ⟨ob, 1, none⟩ = some (.slice (some ⟨pb, 0, none⟩) l.length l.length) ∧ wr.cell? ⟨ob, 3, none⟩ = some (.int .i64 1) ∧ Chg [ob] V2 wr) (fun s _ => l.length - (intOf s).toNat)
          case atStart => exact ⟨0, none, 0, Nat.zero_le _, rfl, GRow.nil, u2, uf2, u0, u1, u3, Chg.refl _ _⟩
          case round =>
            obtain ⟨k, va, vc, hkk3, rfl, hrow, r2, rf2, r0, r1, r3, hch3⟩ := hrel
            clear u0 u1 u2 u3 uf2
            have hwl : (weightsOf l weight top pr ns k).length = k := by simp [weightsOf]
            by_cases hlt3 : k < l.length
            case pos =>
              have hk3 : (k : Int) < l.length := by omega
              obtain ⟨sb, so, rfl, -, -, sa, -⟩ := hsy.look hlt3
              replace sa := hch3.cell (hwV2.cell sa) (by have := cell_lt sa; simp at this ⊢; omega)
              have s0 := hch3.cell v0 (by simp; omega)
              have s2 := hch3.cell v2 (by simp; omega)
              have s3 := hch3.cell v3 (by simp; omega)
              have hNp := HNP2.out.chg hch3 (by simp; omega)
              have hNn := HNN2.out.chg hch3 (by simp; omega)
              obtain ⟨np1, -⟩ := hNp.cell k (by omega)
              obtain ⟨nn1, -⟩ := hNn.cell k (by omega)
              have hpk := HPRR.out pr[k] (List.getElem_mem _)
              have hnk := HI.out.2.2.2 ns[k] (List.getElem_mem _)
              have hak := hars k hlt3
              have hhi := refHigh_any pr k (by omega) (by omega)
              have Hh := Lib.hid (fun w' (h : Ext wr w') => by
                have := hhi w' (some ⟨pb, 0, none⟩) l.length ((hNp.ext h).isInts fun x hx => by have := HPRR.out x hx; omega)
                rewrite [hrl] at this
                exact this)
              clear hhi
              have hspec : weightsOf l weight top pr ns (k + 1) = weightsOf l weight top pr ns k ++ [if top = true ∧ l[k].arity = 1 ∧ highB pr k = true then 0 else if k = 0 then 1 else min (if weight = 1 then l[k].arity + 1 else if weight = 2 then pr[k]'(by omega) + 1 else if weight = 3 then ns[k]'(by omega) + 1 else 1) 1000] := by 
                exact weightsOf_at hlt3 (by omega) (by omega)
              generalize l[k].arity = p at sa hak hspec
              generalize pr[k]'_ = q at np1 hpk hspec
              generalize ns[k]'_ = r at nn1 hnk hspec
              have wp : IntKind.i64.wrap (p + 1) = p + 1 := IntWalk.i64_in _ (by omega)
              have wq : IntKind.i64.wrap (q + 1) = q + 1 := IntWalk.i64_in _ (by omega)
              have wr' : IntKind.i64.wrap (r + 1) = r + 1 := IntWalk.i64_in _ (by omega)
              have HS := Lib.hid hspec; clear hspec hNp hNn
              have Hwl := Lib.hid hwl; clear hwl
              obtain ⟨raw, hraw⟩ : ∃ raw : Int, raw = if weight = 1 then p + 1 else if weight = 2 then q + 1 else if weight = 3 then r + 1 else 1 := ⟨_, rfl⟩
              rw [← hraw] at HS
              have hrawr : 0 ≤ raw := by rw [hraw]; split; omega; split; omega; split <;> omega
              have hw4 : weight = 0 ∨ weight = 1 ∨ weight = 2 ∨ weight = 3 := by omega
              have Hrw := Lib.hid hraw; clear hraw
              go_upto_block 6 with fail
              go_cut [14] from 97 to 120 (fun x wx => x = .int .i64 raw ∧ wx = wr)
              case first =>
                rcases hw4 with h | h | h | h
                · have e1 : (weight == 1) = false := by rw [beq_eq_false_iff_ne]; omega
                  have e2 : (weight == 2) = false := by rw [beq_eq_false_iff_ne]; omega
                  have e3 : (weight == 3) = false := by rw [beq_eq_false_iff_ne]; omega
                  have hr : raw = 1 := by have hh := Hrw.out; rw [h] at hh; simpa using hh
                  have HR := Lib.hid hr; clear hr h
                  go_wp2_with fail
                  go_meet
                  exact ⟨by rw [HR.out], rfl⟩
                · have e1 : (weight == 1) = true := by rw [beq_iff_eq]; omega
                  have e2 : (weight == 2) = false := by rw [beq_eq_false_iff_ne]; omega
                  have e3 : (weight == 3) = false := by rw [beq_eq_false_iff_ne]; omega
                  have hr : raw = p + 1 := by have hh := Hrw.out; rw [h] at hh; simpa using hh
                  have HR := Lib.hid hr; clear hr h
                  go_wp2_with fail
                  go_meet
                  exact ⟨by rw [HR.out], rfl⟩
                · have e1 : (weight == 1) = false := by rw [beq_eq_false_iff_ne]; omega
                  have e2 : (weight == 2) = true := by rw [beq_iff_eq]; omega
                  have e3 : (weight == 3) = false := by rw [beq_eq_false_iff_ne]; omega
                  have hr : raw = q + 1 := by have hh := Hrw.out; rw [h] at hh; simpa using hh
                  have HR := Lib.hid hr; clear hr h
                  go_wp2_with fail
                  go_meet
                  exact ⟨by rw [HR.out], rfl⟩
                · have e1 : (weight == 1) = false := by rw [beq_eq_false_iff_ne]; omega
                  have e2 : (weight == 2) = false := by rw [beq_eq_false_iff_ne]; omega
                  have e3 : (weight == 3) = true := by rw [beq_iff_eq]; omega
                  have hr : raw = r + 1 := by have hh := Hrw.out; rw [h] at hh; simpa using hh
                  have HR := Lib.hid hr; clear hr h
                  go_wp2_with fail
                  go_meet
                  exact ⟨by rw [HR.out], rfl⟩
              case rest =>
                obtain ⟨rfl, rfl⟩ := hcut
                obtain ⟨v1, hv1⟩ : ∃ v1 : Int, v1 = if k = 0 then 1 else raw := ⟨_, rfl⟩
                have hv1r : 0 ≤ v1 := by rw [hv1]; split <;> omega
                go_upto_if 122 with fail
                go_cut [14] from 122 to 122 (fun x wx => x = .int .i64 v1 ∧ wx = wc)
                case first =>
                  rcases Nat.eq_zero_or_pos k with hk0 | hk0
                  · rw [if_pos hk0] at hv1
                    have hkb : ((k : Int) == 0) = true := by rw [beq_iff_eq]; omega
                    go_wp2_with fail
                    go_meet
                    exact ⟨by rw [hv1], rfl⟩
                  · rw [if_neg (by omega)] at hv1
                    have hkb : ((k : Int) == 0) = false := by rw [beq_eq_false_iff_ne]; omega
                    go_wp2_with fail
                    go_meet
                    exact ⟨by rw [hv1], rfl⟩
                case rest =>
                  obtain ⟨rfl, rfl⟩ := hcut
                  have hv1m : (if k = 0 then (1 : Int) else min raw 1000) = min v1 1000 := by rw [hv1]; split <;> omega
                  rw [hv1m] at HS
                  have hV2ob : ob < V2.heap.size := by have := hch2.size; have := hch.size; omega
                  clear hv1m hv1
                  by_cases hv : v1 ≤ 1000
                  · have hvm : min v1 1000 = v1 := by omega
                    rw [hvm] at HS
                    have hvd : decide (v1 ≤ 1000) = true := decide_eq_true hv
                    have hvd2 : decide (1000 < v1) = false := decide_eq_false (by omega)
                    have hvd3 : decide (v1 < 1000) = decide (v1 < 1000) := rfl
                    have hvn : ¬ 1000 < v1 := by omega
                    clear hvm hvd3
                    cases top with
                    | false =>
                      rw [if_neg (by simp)] at HS
                      go_wp2_with (at_builtin; refine wpList_append_row rfl _ _ _ rfl 3 i0 _ 8 Try.underlying25 hi0 hz0 hz1' hz2' rfl (by decide) V2.heap.size (.slice va k vc) (weightsOf l weight false pr ns k) rfl wc hrow (ext_alloc _ _) wc.heap.size rfl _ _ (heap_alloc_new _ _) v1 ⟨rfl, by omega, by omega⟩ (by rw [Hwl.out]; simp only [maxLen]; omega) (by rw [Hwl.out]; omega) (by have := hch3.size; simp; omega) ?_; intro g cap w4 hrow4 hgrow4 hat4 hlt4; rw [Hwl.out] at hrow4 ⊢; (have hc4 := Chg.app hch3 hrow (Nat.le_refl _) (ext_alloc _ _) hgrow4); (have hfar : (some ob) ≠ (Value.slice va k vc).ownBlock := fun e => by have := (hrow.own_ge e.symm).1; omega); (have hlt5 : ob < (wc.alloc (.cells #[.int .i64 (v1)] 3)).heap.size := by simp; have := hch3.size; simp; omega); (have y0 := (hgrow4.cell_far ⟨ob, 0, none⟩ hlt5 hfar).trans ((ext_alloc _ _).cell r0)); (have y1 := (hgrow4.cell_far ⟨ob, 1, none⟩ hlt5 hfar).trans ((ext_alloc _ _).cell r1)); (have y2 := (hgrow4.cell_far ⟨ob, 2, none⟩ hlt5 hfar).trans ((ext_alloc _ _).cell r2)); (have y3 := (hgrow4.cell_far ⟨ob, 3, none⟩ hlt5 hfar).trans ((ext_alloc _ _).cell r3)); (have yf := (hgrow4.frozen_far ⟨ob, 2, none⟩ hlt5 hfar).trans ((ext_alloc _ _).frozen r2 rf2)))
                      go_roundw
                      case rel =>
                        first | (refine ⟨k + 1, _, cap, by omega, by go_num, ?_, World.cell?_setCell_same _ _ _ y2, (World.frozen?_setCell _ _ _ _).trans yf, by rw [World.cell?_setCell_other _ _ _ _ (by simp)]; exact y0, by rw [World.cell?_setCell_other _ _ _ _ (by simp)]; exact y1, by rw [World.cell?_setCell_other _ _ _ _ (by simp)]; exact y3, hc4.setCell (p := ⟨ob, 2, none⟩) _ (.inl (by simp))⟩) | ((repeat apply Exists.intro); refine ⟨⟨k + 1, _, cap, by omega, by go_num, ?_, World.cell?_setCell_same _ _ _ y2, (World.frozen?_setCell _ _ _ _).trans yf, by rw [World.cell?_setCell_other _ _ _ _ (by simp)]; exact y0, by rw [World.cell?_setCell_other _ _ _ _ (by simp)]; exact y1, by rw [World.cell?_setCell_other _ _ _ _ (by simp)]; exact y3, hc4.setCell (p := ⟨ob, 2, none⟩) _ (.inl (by simp))⟩, rfl⟩)
                        rw [HS.out]
                        have hx5 := hrow4.chg ((Chg.refl [ob] w4).setCell (p := ⟨ob, 2, none⟩) (.slice (some ⟨g, 0, none⟩) (k + 1) cap) (.inl (by simp))) (by simp; have := hch3.size; omega)
                        exact hx5
                      case measure => simp [intOf]; omega
                    | true =>
                      by_cases hp1' : p = 1
                      · have hpb : (p == 1) = true := by rw [beq_iff_eq]; exact hp1'
                        cases hhb : highB pr k with
                        | false =>
                          rw [hhb] at Hh
                          rw [if_neg (by rw [hhb]; simp)] at HS
                          clear hp1'
                          go_wp2_with (first | (go_at_call 27; refine (Hh.out _ (Below.refl _ _)).mono ?_; rintro e w5 ⟨rfl, hx5⟩; replace r0 := hx5.cell r0; replace r1 := hx5.cell r1; replace rf2 := hx5.frozen r2 rf2; replace r2 := hx5.cell r2; replace r3 := hx5.cell r3) | (at_builtin; refine wpList_append_row rfl _ _ _ rfl 3 i0 _ 8 Try.underlying25 hi0 hz0 hz1' hz2' rfl (by decide) V2.heap.size (.slice va k vc) (weightsOf l weight true pr ns k) rfl wc hrow (hx5.trans (ext_alloc _ _)) w5.heap.size rfl _ _ (heap_alloc_new _ _) v1 ⟨rfl, by omega, by omega⟩ (by rw [Hwl.out]; simp only [maxLen]; omega) (by rw [Hwl.out]; omega) (by have := hch3.size; have := hx5.size; simp; omega) ?_; intro g cap w4 hrow4 hgrow4 hat4 hlt4; rw [Hwl.out] at hrow4 ⊢; (have hc4 := Chg.app hch3 hrow (Nat.le_refl _) (hx5.trans (ext_alloc _ _)) hgrow4); (have hfar : (some ob) ≠ (Value.slice va k vc).ownBlock := fun e => by have := (hrow.own_ge e.symm).1; omega); (have hlt5 : ob < (w5.alloc (.cells #[.int .i64 (v1)] 3)).heap.size := by simp; have := hch3.size; have := hx5.size; simp; omega); (have y0 := (hgrow4.cell_far ⟨ob, 0, none⟩ hlt5 hfar).trans ((ext_alloc _ _).cell r0)); (have y1 := (hgrow4.cell_far ⟨ob, 1, none⟩ hlt5 hfar).trans ((ext_alloc _ _).cell r1)); (have y2 := (hgrow4.cell_far ⟨ob, 2, none⟩ hlt5 hfar).trans ((ext_alloc _ _).cell r2)); (have y3 := (hgrow4.cell_far ⟨ob, 3, none⟩ hlt5 hfar).trans ((ext_alloc _ _).cell r3)); (have yf := (hgrow4.frozen_far ⟨ob, 2, none⟩ hlt5 hfar).trans ((ext_alloc _ _).frozen r2 rf2))))
                          go_roundw
                          case rel =>
                            first | (refine ⟨k + 1, _, cap, by omega, by go_num, ?_, World.cell?_setCell_same _ _ _ y2, (World.frozen?_setCell _ _ _ _).trans yf, by rw [World.cell?_setCell_other _ _ _ _ (by simp)]; exact y0, by rw [World.cell?_setCell_other _ _ _ _ (by simp)]; exact y1, by rw [World.cell?_setCell_other _ _ _ _ (by simp)]; exact y3, hc4.setCell (p := ⟨ob, 2, none⟩) _ (.inl (by simp))⟩) | ((repeat apply Exists.intro); refine ⟨⟨k + 1, _, cap, by omega, by go_num, ?_, World.cell?_setCell_same _ _ _ y2, (World.frozen?_setCell _ _ _ _).trans yf, by rw [World.cell?_setCell_other _ _ _ _ (by simp)]; exact y0, by rw [World.cell?_setCell_other _ _ _ _ (by simp)]; exact y1, by rw [World.cell?_setCell_other _ _ _ _ (by simp)]; exact y3, hc4.setCell (p := ⟨ob, 2, none⟩) _ (.inl (by simp))⟩, rfl⟩)
                            rw [HS.out]
                            have hx5 := hrow4.chg ((Chg.refl [ob] w4).setCell (p := ⟨ob, 2, none⟩) (.slice (some ⟨g, 0, none⟩) (k + 1) cap) (.inl (by simp))) (by simp; have := hch3.size; omega)
                            exact hx5
                          case measure => simp [intOf]; omega
                        | true =>
                          rw [hhb] at Hh
                          rw [if_pos ⟨rfl, hp1', hhb⟩] at HS
                          clear hp1'
                          go_wp2_with (first | (go_at_call 27; refine (Hh.out _ (Below.refl _ _)).mono ?_; rintro e w5 ⟨rfl, hx5⟩; replace r0 := hx5.cell r0; replace r1 := hx5.cell r1; replace rf2 := hx5.frozen r2 rf2; replace r2 := hx5.cell r2; replace r3 := hx5.cell r3) | (at_builtin; refine wpList_append_row rfl _ _ _ rfl 3 i0 _ 8 Try.underlying25 hi0 hz0 hz1' hz2' rfl (by decide) V2.heap.size (.slice va k vc) (weightsOf l weight true pr ns k) rfl wc hrow (hx5.trans (ext_alloc _ _)) w5.heap.size rfl _ _ (heap_alloc_new _ _) 0 ⟨rfl, by omega, by omega⟩ (by rw [Hwl.out]; simp only [maxLen]; omega) (by rw [Hwl.out]; omega) (by have := hch3.size; have := hx5.size; simp; omega) ?_; intro g cap w4 hrow4 hgrow4 hat4 hlt4; rw [Hwl.out] at hrow4 ⊢; (have hc4 := Chg.app hch3 hrow (Nat.le_refl _) (hx5.trans (ext_alloc _ _)) hgrow4); (have hfar : (some ob) ≠ (Value.slice va k vc).ownBlock := fun e => by have := (hrow.own_ge e.symm).1; omega); (have hlt5 : ob < (w5.alloc (.cells #[.int .i64 (0)] 3)).heap.size := by simp; have := hch3.size; have := hx5.size; simp; omega); (have y0 := (hgrow4.cell_far ⟨ob, 0, none⟩ hlt5 hfar).trans ((ext_alloc _ _).cell r0)); (have y1 := (hgrow4.cell_far ⟨ob, 1, none⟩ hlt5 hfar).trans ((ext_alloc _ _).cell r1)); (have y2 := (hgrow4.cell_far ⟨ob, 2, none⟩ hlt5 hfar).trans ((ext_alloc _ _).cell r2)); (have y3 := (hgrow4.cell_far ⟨ob, 3, none⟩ hlt5 hfar).trans ((ext_alloc _ _).cell r3)); (have yf := (hgrow4.frozen_far ⟨ob, 2, none⟩ hlt5 hfar).trans ((ext_alloc _ _).frozen r2 rf2))))
                          go_roundw
                          case rel =>
                            first | (refine ⟨k + 1, _, cap, by omega, by go_num, ?_, World.cell?_setCell_same _ _ _ y2, (World.frozen?_setCell _ _ _ _).trans yf, by rw [World.cell?_setCell_other _ _ _ _ (by simp)]; exact y0, by rw [World.cell?_setCell_other _ _ _ _ (by simp)]; exact y1, by rw [World.cell?_setCell_other _ _ _ _ (by simp)]; exact y3, hc4.setCell (p := ⟨ob, 2, none⟩) _ (.inl (by simp))⟩) | ((repeat apply Exists.intro); refine ⟨⟨k + 1, _, cap, by omega, by go_num, ?_, World.cell?_setCell_same _ _ _ y2, (World.frozen?_setCell _ _ _ _).trans yf, by rw [World.cell?_setCell_other _ _ _ _ (by simp)]; exact y0, by rw [World.cell?_setCell_other _ _ _ _ (by simp)]; exact y1, by rw [World.cell?_setCell_other _ _ _ _ (by simp)]; exact y3, hc4.setCell (p := ⟨ob, 2, none⟩) _ (.inl (by simp))⟩, rfl⟩)
                            rw [HS.out]
                            have hx5 := hrow4.chg ((Chg.refl [ob] w4).setCell (p := ⟨ob, 2, none⟩) (.slice (some ⟨g, 0, none⟩) (k + 1) cap) (.inl (by simp))) (by simp; have := hch3.size; omega)
                            exact hx5
                          case measure => simp [intOf]; omega
                      · have hpb : (p == 1) = false := by rw [beq_eq_false_iff_ne]; exact hp1'
                        rw [if_neg (fun h => hp1' h.2.1)] at HS
                        clear hp1'
                        go_wp2_with (at_builtin; refine wpList_append_row rfl _ _ _ rfl 3 i0 _ 8 Try.underlying25 hi0 hz0 hz1' hz2' rfl (by decide) V2.heap.size (.slice va k vc) (weightsOf l weight true pr ns k) rfl wc hrow (ext_alloc _ _) wc.heap.size rfl _ _ (heap_alloc_new _ _) v1 ⟨rfl, by omega, by omega⟩ (by rw [Hwl.out]; simp only [maxLen]; omega) (by rw [Hwl.out]; omega) (by have := hch3.size; simp; omega) ?_; intro g cap w4 hrow4 hgrow4 hat4 hlt4; rw [Hwl.out] at hrow4 ⊢; (have hc4 := Chg.app hch3 hrow (Nat.le_refl _) (ext_alloc _ _) hgrow4); (have hfar : (some ob) ≠ (Value.slice va k vc).ownBlock := fun e => by have := (hrow.own_ge e.symm).1; omega); (have hlt5 : ob < (wc.alloc (.cells #[.int .i64 (v1)] 3)).heap.size := by simp; have := hch3.size; simp; omega); (have y0 := (hgrow4.cell_far ⟨ob, 0, none⟩ hlt5 hfar).trans ((ext_alloc _ _).cell r0)); (have y1 := (hgrow4.cell_far ⟨ob, 1, none⟩ hlt5 hfar).trans ((ext_alloc _ _).cell r1)); (have y2 := (hgrow4.cell_far ⟨ob, 2, none⟩ hlt5 hfar).trans ((ext_alloc _ _).cell r2)); (have y3 := (hgrow4.cell_far ⟨ob, 3, none⟩ hlt5 hfar).trans ((ext_alloc _ _).cell r3)); (have yf := (hgrow4.frozen_far ⟨ob, 2, none⟩ hlt5 hfar).trans ((ext_alloc _ _).frozen r2 rf2)))
                        go_roundw
                        case rel =>
                          first | (refine ⟨k + 1, _, cap, by omega, by go_num, ?_, World.cell?_setCell_same _ _ _ y2, (World.frozen?_setCell _ _ _ _).trans yf, by rw [World.cell?_setCell_other _ _ _ _ (by simp)]; exact y0, by rw [World.cell?_setCell_other _ _ _ _ (by simp)]; exact y1, by rw [World.cell?_setCell_other _ _ _ _ (by simp)]; exact y3, hc4.setCell (p := ⟨ob, 2, none⟩) _ (.inl (by simp))⟩) | ((repeat apply Exists.intro); refine ⟨⟨k + 1, _, cap, by omega, by go_num, ?_, World.cell?_setCell_same _ _ _ y2, (World.frozen?_setCell _ _ _ _).trans yf, by rw [World.cell?_setCell_other _ _ _ _ (by simp)]; exact y0, by rw [World.cell?_setCell_other _ _ _ _ (by simp)]; exact y1, by rw [World.cell?_setCell_other _ _ _ _ (by simp)]; exact y3, hc4.setCell (p := ⟨ob, 2, none⟩) _ (.inl (by simp))⟩, rfl⟩)
                          rw [HS.out]
                          have hx5 := hrow4.chg ((Chg.refl [ob] w4).setCell (p := ⟨ob, 2, none⟩) (.slice (some ⟨g, 0, none⟩) (k + 1) cap) (.inl (by simp))) (by simp; have := hch3.size; omega)
                          exact hx5
                        case measure => simp [intOf]; omega
                  · have hvm : min v1 1000 = 1000 := by omega
                    rw [hvm] at HS
                    have hvd : decide (v1 ≤ 1000) = false := decide_eq_false hv
                    have hvn : 1000 < v1 := by omega
                    have hvd2 : decide (1000 < v1) = true := decide_eq_true hvn
                    clear hvm
                    cases top with
                    | false =>
                      rw [if_neg (by simp)] at HS
                      go_wp2_with (at_builtin; refine wpList_append_row rfl _ _ _ rfl 3 i0 _ 8 Try.underlying25 hi0 hz0 hz1' hz2' rfl (by decide) V2.heap.size (.slice va k vc) (weightsOf l weight false pr ns k) rfl wc hrow (ext_alloc _ _) wc.heap.size rfl _ _ (heap_alloc_new _ _) 1000 ⟨rfl, by omega, by omega⟩ (by rw [Hwl.out]; simp only [maxLen]; omega) (by rw [Hwl.out]; omega) (by have := hch3.size; simp; omega) ?_; intro g cap w4 hrow4 hgrow4 hat4 hlt4; rw [Hwl.out] at hrow4 ⊢; (have hc4 := Chg.app hch3 hrow (Nat.le_refl _) (ext_alloc _ _) hgrow4); (have hfar : (some ob) ≠ (Value.slice va k vc).ownBlock := fun e => by have := (hrow.own_ge e.symm).1; omega); (have hlt5 : ob < (wc.alloc (.cells #[.int .i64 (1000)] 3)).heap.size := by simp; have := hch3.size; simp; omega); (have y0 := (hgrow4.cell_far ⟨ob, 0, none⟩ hlt5 hfar).trans ((ext_alloc _ _).cell r0)); (have y1 := (hgrow4.cell_far ⟨ob, 1, none⟩ hlt5 hfar).trans ((ext_alloc _ _).cell r1)); (have y2 := (hgrow4.cell_far ⟨ob, 2, none⟩ hlt5 hfar).trans ((ext_alloc _ _).cell r2)); (have y3 := (hgrow4.cell_far ⟨ob, 3, none⟩ hlt5 hfar).trans ((ext_alloc _ _).cell r3)); (have yf := (hgrow4.frozen_far ⟨ob, 2, none⟩ hlt5 hfar).trans ((ext_alloc _ _).frozen r2 rf2)))
                      go_roundw
                      case rel =>
                        first | (refine ⟨k + 1, _, cap, by omega, by go_num, ?_, World.cell?_setCell_same _ _ _ y2, (World.frozen?_setCell _ _ _ _).trans yf, by rw [World.cell?_setCell_other _ _ _ _ (by simp)]; exact y0, by rw [World.cell?_setCell_other _ _ _ _ (by simp)]; exact y1, by rw [World.cell?_setCell_other _ _ _ _ (by simp)]; exact y3, hc4.setCell (p := ⟨ob, 2, none⟩) _ (.inl (by simp))⟩) | ((repeat apply Exists.intro); refine ⟨⟨k + 1, _, cap, by omega, by go_num, ?_, World.cell?_setCell_same _ _ _ y2, (World.frozen?_setCell _ _ _ _).trans yf, by rw [World.cell?_setCell_other _ _ _ _ (by simp)]; exact y0, by rw [World.cell?_setCell_other _ _ _ _ (by simp)]; exact y1, by rw [World.cell?_setCell_other _ _ _ _ (by simp)]; exact y3, hc4.setCell (p := ⟨ob, 2, none⟩) _ (.inl (by simp))⟩, rfl⟩)
                        rw [HS.out]
                        have hx5 := hrow4.chg ((Chg.refl [ob] w4).setCell (p := ⟨ob, 2, none⟩) (.slice (some ⟨g, 0, none⟩) (k + 1) cap) (.inl (by simp))) (by simp; have := hch3.size; omega)
                        exact hx5
                      case measure => simp [intOf]; omega
                    | true =>
                      by_cases hp1' : p = 1
                      · have hpb : (p == 1) = true := by rw [beq_iff_eq]; exact hp1'
                        cases hhb : highB pr k with
                        | false =>
                          rw [hhb] at Hh
                          rw [if_neg (by rw [hhb]; simp)] at HS
                          clear hp1'
                          go_wp2_with (first | (go_at_call 27; refine (Hh.out _ (Below.refl _ _)).mono ?_; rintro e w5 ⟨rfl, hx5⟩; replace r0 := hx5.cell r0; replace r1 := hx5.cell r1; replace rf2 := hx5.frozen r2 rf2; replace r2 := hx5.cell r2; replace r3 := hx5.cell r3) | (at_builtin; refine wpList_append_row rfl _ _ _ rfl 3 i0 _ 8 Try.underlying25 hi0 hz0 hz1' hz2' rfl (by decide) V2.heap.size (.slice va k vc) (weightsOf l weight true pr ns k) rfl wc hrow (hx5.trans (ext_alloc _ _)) w5.heap.size rfl _ _ (heap_alloc_new _ _) 1000 ⟨rfl, by omega, by omega⟩ (by rw [Hwl.out]; simp only [maxLen]; omega) (by rw [Hwl.out]; omega) (by have := hch3.size; have := hx5.size; simp; omega) ?_; intro g cap w4 hrow4 hgrow4 hat4 hlt4; rw [Hwl.out] at hrow4 ⊢; (have hc4 := Chg.app hch3 hrow (Nat.le_refl _) (hx5.trans (ext_alloc _ _)) hgrow4); (have hfar : (some ob) ≠ (Value.slice va k vc).ownBlock := fun e => by have := (hrow.own_ge e.symm).1; omega); (have hlt5 : ob < (w5.alloc (.cells #[.int .i64 (1000)] 3)).heap.size := by simp; have := hch3.size; have := hx5.size; simp; omega); (have y0 := (hgrow4.cell_far ⟨ob, 0, none⟩ hlt5 hfar).trans ((ext_alloc _ _).cell r0)); (have y1 := (hgrow4.cell_far ⟨ob, 1, none⟩ hlt5 hfar).trans ((ext_alloc _ _).cell r1)); (have y2 := (hgrow4.cell_far ⟨ob, 2, none⟩ hlt5 hfar).trans ((ext_alloc _ _).cell r2)); (have y3 := (hgrow4.cell_far ⟨ob, 3, none⟩ hlt5 hfar).trans ((ext_alloc _ _).cell r3)); (have yf := (hgrow4.frozen_far ⟨ob, 2, none⟩ hlt5 hfar).trans ((ext_alloc _ _).frozen r2 rf2))))
                          go_roundw
                          case rel =>
                            first | (refine ⟨k + 1, _, cap, by omega, by go_num, ?_, World.cell?_setCell_same _ _ _ y2, (World.frozen?_setCell _ _ _ _).trans yf, by rw [World.cell?_setCell_other _ _ _ _ (by simp)]; exact y0, by rw [World.cell?_setCell_other _ _ _ _ (by simp)]; exact y1, by rw [World.cell?_setCell_other _ _ _ _ (by simp)]; exact y3, hc4.setCell (p := ⟨ob, 2, none⟩) _ (.inl (by simp))⟩) | ((repeat apply Exists.intro); refine ⟨⟨k + 1, _, cap, by omega, by go_num, ?_, World.cell?_setCell_same _ _ _ y2, (World.frozen?_setCell _ _ _ _).trans yf, by rw [World.cell?_setCell_other _ _ _ _ (by simp)]; exact y0, by rw [World.cell?_setCell_other _ _ _ _ (by simp)]; exact y1, by rw [World.cell?_setCell_other _ _ _ _ (by simp)]; exact y3, hc4.setCell (p := ⟨ob, 2, none⟩) _ (.inl (by simp))⟩, rfl⟩)
                            rw [HS.out]
                            have hx5 := hrow4.chg ((Chg.refl [ob] w4).setCell (p := ⟨ob, 2, none⟩) (.slice (some ⟨g, 0, none⟩) (k + 1) cap) (.inl (by simp))) (by simp; have := hch3.size; omega)
                            exact hx5
                          case measure => simp [intOf]; omega
                        | true =>
                          rw [hhb] at Hh
                          rw [if_pos ⟨rfl, hp1', hhb⟩] at HS
                          clear hp1'
                          go_wp2_with (first | (go_at_call 27; refine (Hh.out _ (Below.refl _ _)).mono ?_; rintro e w5 ⟨rfl, hx5⟩; replace r0 := hx5.cell r0; replace r1 := hx5.cell r1; replace rf2 := hx5.frozen r2 rf2; replace r2 := hx5.cell r2; replace r3 := hx5.cell r3) | (at_builtin; refine wpList_append_row rfl _ _ _ rfl 3 i0 _ 8 Try.underlying25 hi0 hz0 hz1' hz2' rfl (by decide) V2.heap.size (.slice va k vc) (weightsOf l weight true pr ns k) rfl wc hrow (hx5.trans (ext_alloc _ _)) w5.heap.size rfl _ _ (heap_alloc_new _ _) 0 ⟨rfl, by omega, by omega⟩ (by rw [Hwl.out]; simp only [maxLen]; omega) (by rw [Hwl.out]; omega) (by have := hch3.size; have := hx5.size; simp; omega) ?_; intro g cap w4 hrow4 hgrow4 hat4 hlt4; rw [Hwl.out] at hrow4 ⊢; (have hc4 := Chg.app hch3 hrow (Nat.le_refl _) (hx5.trans (ext_alloc _ _)) hgrow4); (have hfar : (some ob) ≠ (Value.slice va k vc).ownBlock := fun e => by have := (hrow.own_ge e.symm).1; omega); (have hlt5 : ob < (w5.alloc (.cells #[.int .i64 (0)] 3)).heap.size := by simp; have := hch3.size; have := hx5.size; simp; omega); (have y0 := (hgrow4.cell_far ⟨ob, 0, none⟩ hlt5 hfar).trans ((ext_alloc _ _).cell r0)); (have y1 := (hgrow4.cell_far ⟨ob, 1, none⟩ hlt5 hfar).trans ((ext_alloc _ _).cell r1)); (have y2 := (hgrow4.cell_far ⟨ob, 2, none⟩ hlt5 hfar).trans ((ext_alloc _ _).cell r2)); (have y3 := (hgrow4.cell_far ⟨ob, 3, none⟩ hlt5 hfar).trans ((ext_alloc _ _).cell r3)); (have yf := (hgrow4.frozen_far ⟨ob, 2, none⟩ hlt5 hfar).trans ((ext_alloc _ _).frozen r2 rf2))))
                          go_roundw
                          case rel =>
                            first | (refine ⟨k + 1, _, cap, by omega, by go_num, ?_, World.cell?_setCell_same _ _ _ y2, (World.frozen?_setCell _ _ _ _).trans yf, by rw [World.cell?_setCell_other _ _ _ _ (by simp)]; exact y0, by rw [World.cell?_setCell_other _ _ _ _ (by simp)]; exact y1, by rw [World.cell?_setCell_other _ _ _ _ (by simp)]; exact y3, hc4.setCell (p := ⟨ob, 2, none⟩) _ (.inl (by simp))⟩) | ((repeat apply Exists.intro); refine ⟨⟨k + 1, _, cap, by omega, by go_num, ?_, World.cell?_setCell_same _ _ _ y2, (World.frozen?_setCell _ _ _ _).trans yf, by rw [World.cell?_setCell_other _ _ _ _ (by simp)]; exact y0, by rw [World.cell?_setCell_other _ _ _ _ (by simp)]; exact y1, by rw [World.cell?_setCell_other _ _ _ _ (by simp)]; exact y3, hc4.setCell (p := ⟨ob, 2, none⟩) _ (.inl (by simp))⟩, rfl⟩)
                            rw [HS.out]
                            have hx5 := hrow4.chg ((Chg.refl [ob] w4).setCell (p := ⟨ob, 2, none⟩) (.slice (some ⟨g, 0, none⟩) (k + 1) cap) (.inl (by simp))) (by simp; have := hch3.size; omega)
                            exact hx5
                          case measure => simp [intOf]; omega
                      · have hpb : (p == 1) = false := by rw [beq_eq_false_iff_ne]; exact hp1'
                        rw [if_neg (fun h => hp1' h.2.1)] at HS
                        clear hp1'
                        go_wp2_with (at_builtin; refine wpList_append_row rfl _ _ _ rfl 3 i0 _ 8 Try.underlying25 hi0 hz0 hz1' hz2' rfl (by decide) V2.heap.size (.slice va k vc) (weightsOf l weight true pr ns k) rfl wc hrow (ext_alloc _ _) wc.heap.size rfl _ _ (heap_alloc_new _ _) 1000 ⟨rfl, by omega, by omega⟩ (by rw [Hwl.out]; simp only [maxLen]; omega) (by rw [Hwl.out]; omega) (by have := hch3.size; simp; omega) ?_; intro g cap w4 hrow4 hgrow4 hat4 hlt4; rw [Hwl.out] at hrow4 ⊢; (have hc4 := Chg.app hch3 hrow (Nat.le_refl _) (ext_alloc _ _) hgrow4); (have hfar : (some ob) ≠ (Value.slice va k vc).ownBlock := fun e => by have := (hrow.own_ge e.symm).1; omega); (have hlt5 : ob < (wc.alloc (.cells #[.int .i64 (1000)] 3)).heap.size := by simp; have := hch3.size; simp; omega); (have y0 := (hgrow4.cell_far ⟨ob, 0, none⟩ hlt5 hfar).trans ((ext_alloc _ _).cell r0)); (have y1 := (hgrow4.cell_far ⟨ob, 1, none⟩ hlt5 hfar).trans ((ext_alloc _ _).cell r1)); (have y2 := (hgrow4.cell_far ⟨ob, 2, none⟩ hlt5 hfar).trans ((ext_alloc _ _).cell r2)); (have y3 := (hgrow4.cell_far ⟨ob, 3, none⟩ hlt5 hfar).trans ((ext_alloc _ _).cell r3)); (have yf := (hgrow4.frozen_far ⟨ob, 2, none⟩ hlt5 hfar).trans ((ext_alloc _ _).frozen r2 rf2)))
                        go_roundw
                        case rel =>
                          first | (refine ⟨k + 1, _, cap, by omega, by go_num, ?_, World.cell?_setCell_same _ _ _ y2, (World.frozen?_setCell _ _ _ _).trans yf, by rw [World.cell?_setCell_other _ _ _ _ (by simp)]; exact y0, by rw [World.cell?_setCell_other _ _ _ _ (by simp)]; exact y1, by rw [World.cell?_setCell_other _ _ _ _ (by simp)]; exact y3, hc4.setCell (p := ⟨ob, 2, none⟩) _ (.inl (by simp))⟩) | ((repeat apply Exists.intro); refine ⟨⟨k + 1, _, cap, by omega, by go_num, ?_, World.cell?_setCell_same _ _ _ y2, (World.frozen?_setCell _ _ _ _).trans yf, by rw [World.cell?_setCell_other _ _ _ _ (by simp)]; exact y0, by rw [World.cell?_setCell_other _ _ _ _ (by simp)]; exact y1, by rw [World.cell?_setCell_other _ _ _ _ (by simp)]; exact y3, hc4.setCell (p := ⟨ob, 2, none⟩) _ (.inl (by simp))⟩, rfl⟩)
                          rw [HS.out]
                          have hx5 := hrow4.chg ((Chg.refl [ob] w4).setCell (p := ⟨ob, 2, none⟩) (.slice (some ⟨g, 0, none⟩) (k + 1) cap) (.inl (by simp))) (by simp; have := hch3.size; omega)
                          exact hx5
                        case measure => simp [intOf]; omega
            case neg =>
              have hk3 : ¬ (k : Int) < l.length := by omega
              have hke : k = l.length := by omega
              have hwl' := Lib.hid hwl; clear hwl
              obtain ⟨w0, w1', w2', w3', x0, x1, x2, x3⟩ := HW0.out
              replace x0 := hch3.frozen w0 (by simp; omega) x0
              replace x1 := hch3.frozen w1' (by simp; omega) x1
              replace x2 := hch3.frozen w2' (by simp; omega) x2
              replace x3 := hch3.frozen w3' (by simp; omega) x3
              replace w0 := hch3.cell w0 (by simp; omega)
              replace w1' := hch3.cell w1' (by simp; omega)
              replace w2' := hch3.cell w2' (by simp; omega)
              replace w3' := hch3.cell w3' (by simp; omega)
              have hNp := Lib.hid (HNP2.out.chg hch3 (by simp; omega))
              have HKE := Lib.hid hke; clear hke
              have HROW := Lib.hid hrow; clear hrow
              go_wp2_with fail
              obtain ⟨c0, c1, c2, c3, hch4⟩ := set4 wr (w.heap.size + 1 + 1) (.bool false) (.slice (some ⟨pb, 0, none⟩) l.length l.length) (.slice va k vc) (.int .i64 1) _ _ _ _ w0 w1' w2' w3'
              refine bodyPost_ret (v := .tuple #[.agg #[.bool false, .slice (some ⟨pb, 0, none⟩) l.length l.length, .slice va k vc, .int .i64 1], .int .i64 0]) (by simp [results, Try.results12, go_sem, c0, c1, c2, c3]) rfl ?_
              have hmo : madeOrd l cs ⟨false, prec, weight, top⟩ = ⟨false, pr, weightsOf l weight top pr ns k, 1⟩ := by
                unfold madeOrd; rw [if_pos HM.out, HPR.out, ← Hpr.out, ← HI.out.1, HKE.out]; rfl
              have hextf : Ext w wr := Chg.ext hwV2 hch3 (by simp; omega)
              refine ⟨⟨_, rfl, .agg #[.bool false, .slice (some ⟨pb, 0, none⟩) l.length l.length, .slice va k vc, .int .i64 1], by rw [HM.out], ?_⟩, Chg.ext hextf hch4 (by simp <;> omega)⟩
              rw [hmo]
              obtain ⟨a5, c5, hv5, hc5, hat5⟩ := HROW.out.ints
              rw [hwl'.out] at hv5 hc5
              injection hv5 with e1 e2 e3
              subst e1; subst e3
              refine ⟨some ⟨pb, 0, none⟩, l.length, va, vc, by rw [hrl, hwl'.out], ?_, ?_, by rw [hrl]; exact Nat.le_refl _, by rw [hwl'.out]; exact hc5, by simp, by simp⟩
              · refine (Nums.chg hNp.out hch4 (by simp; omega)).isInts fun x hx => ?_
                have := HPRR.out x hx
                omega
              · have hI : IsInts wr va (weightsOf l weight top pr ns k) := hat5.isInts
                refine fun i hi => ?_
                obtain ⟨z1, z2, bb, oo, z3, z4⟩ := hat5 i hi
                obtain ⟨z5, z6⟩ := z4
                have h51 : V2.heap.size ≤ bb := z5.1
                have h52 := hch2.size
                have h53 : V.heap.size ≤ _ := hch.size
                exact ⟨z1, z2, bb, oo, z3, hch4.cell z6 (by simp; omega)⟩
end Go.Proofs.Ytdmiphdohfcbeaa
