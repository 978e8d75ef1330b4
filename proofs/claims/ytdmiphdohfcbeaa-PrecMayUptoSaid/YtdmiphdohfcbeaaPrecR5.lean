/- What the reference's Counts returns. Conditions: at most 100 clauses; lengths and sizes fit. -/
import Derived.Test.YtdmiphdohfcbeaaPrecR4
namespace Go.Proofs.Ytdmiphdohfcbeaa
open Go.ChangeShapes Go.WideShapes Go.ChangeAt Go.RowKit

set_option maxHeartbeats 4000000 in
set_option maxRecDepth 100000 in
theorem refCounts_any (l : List Sy) (hl : l.length ≤ 1048576) (cs : List (List Lt)) (hcl : cs.length ≤ 100) (hcs : sizedCls cs) (w : World) (a ca : Option Addr) (n cn : Nat) (hsy : IsSyms w a l) (hc : IsCls w ca cs) :
    Calls Try.prog 14 #[.agg #[.slice a l.length n], .slice ca cs.length cn] w fun e w' => (∃ v, e = .returned v ∧ CountsGiven w.heap.size w' v l cs) ∧ Ext w w' := by
  have hA := ext_alloc w (.cells #[.slice a l.length n] 24)
  have hck := refSigCheck_any l hl _ a n (hsy.ext hA)
  by_cases hz : sigCheck l = 0
  case neg =>
    have hzb : (sigCheck l != 0) = true := by simpa using hz
    have He := Lib.hid (show countsErr l cs = 2 by unfold countsErr; rw [if_neg (fun h => hz h.1)])
    have Hck := Lib.hid hck; clear hck hz
    go_enter Try.func14, Try.ntmps14
    go_wp2_with ((go_at_call 25; refine (Hck.out).mono ?_; rintro e w1 ⟨rfl, hx1⟩))
    refine bodyPost_ret (v := .tuple #[.slice none 0 0, .int .i64 2]) (by simp [results, Try.results14, go_sem]) rfl ?_
    exact ⟨⟨_, rfl, .inl ⟨He.out, rfl⟩⟩, Ext.trans hA hx1⟩
  have Hz := Lib.hid hz
  rw [hz] at hck
  have Hck := Lib.hid hck; clear hck hz
  have hmk := fun w' => mk_ints l.length (by omega) w'
  have hc0 := (cells1 w (.slice a l.length n) 24)
  go_enter Try.func14, Try.ntmps14
  go_wp2_with ((go_at_call 25; refine (Hck.out).mono ?_; rintro e w1 ⟨rfl, hx1⟩; have hc1 := hx1.cell hc0))
  obtain ⟨W, hW⟩ : ∃ W, W = w1.alloc (.cells (madeCells #[.int .i64 0] l.length) 3) := ⟨_, rfl⟩
  have hx2 : Ext w1 W := by rw [hW]; exact ext_alloc _ _
  have hN0 : Nums W w1.heap.size (counts l.length []) := by rw [counts_nil, hW]; exact Nums.made _ _
  have hbox := hx2.cell hc1
  have hext : Ext w W := Ext.trans hA (Ext.trans hx1 hx2)
  obtain ⟨nb, hnb⟩ : ∃ nb, nb = w1.heap.size := ⟨_, rfl⟩
  have hnb1 : w.heap.size + 1 ≤ nb := by have := hx1.size; simp at this; omega
  have hnb2 : nb < W.heap.size := by rw [hW]; simp; omega
  rw [← hnb] at hN0 ⊢
  (try rw [← hW])
  clear hW hnb hmk hc0 hc1 hx2 hx1 hA Hck
  have HN0 := Lib.hid hN0; clear hN0
  go_loopw [7] (fun s wr => ∃ i : Nat, i ≤ cs.length ∧ s = .int .i64 i ∧ (∀ j (hj : j < cs.length), j < i → ∀ k (hk : k < cs[j].length), litOk l cs[j][k] = true) ∧ Chg [nb] W wr ∧ Nums wr nb (counts l.length (allSyms (cs.take i)))) (fun s _ => cs.length - (intOf s).toNat)
  case atStart => exact ⟨0, Nat.zero_le _, rfl, fun j _ h => by omega, Chg.refl _ _, by simpa [allSyms] using HN0.out⟩
  case round =>
    obtain ⟨i, hii, rfl, hok, hch, hN⟩ := hrel
    have Hok := Lib.hid hok; clear hok
    have HN := Lib.hid hN; clear hN HN0
    by_cases hlt : i < cs.length
    case neg =>
      have hi1 : ¬ (i : Int) < cs.length := by omega
      have hie : i = cs.length := by omega
      have HE := Lib.hid hie; clear hie
      go_wp2_with fail
      refine bodyPost_ret (v := .tuple #[.slice (some ⟨nb, 0, none⟩) l.length l.length, .int .i64 0]) (by simp [results, Try.results14, go_sem]) rfl ?_
      have h := HN.out
      rw [HE.out, List.take_length] at h
      have hck : countsErr l cs = 0 := by
        unfold countsErr
        rw [if_pos ⟨Hz.out, clsOk_true fun j hj => Hok.out j hj (by omega)⟩]
      exact ⟨⟨_, rfl, .inr ⟨hck, nb, by omega, by have := hch.size; omega, rfl, h⟩⟩, Chg.ext hext hch (by simp; omega)⟩
    have hi1 : (i : Int) < cs.length := by omega
    obtain ⟨cb, co, la, ln, rfl, m0, -, hli⟩ := hc i hlt
    obtain ⟨hcl1, hcs1⟩ := hcs i hlt
    have HAL := Lib.hid (allSyms_length _ (hcs.take i))
    have HCE : (cs.take i).length = i := by simp; omega
    go_wp2_with fail
    go_loopw [8] (fun s wr => ∃ k : Nat, k ≤ cs[i].length ∧ s = .int .i64 k ∧ (∀ j (hj : j < cs[i].length), j < k → litOk l cs[i][j] = true) ∧ Chg [nb] W wr ∧ Nums wr nb (counts l.length (allSyms (cs.take i) ++ clSyms (cs[i].take k)))) (fun s _ => cs[i].length - (intOf s).toNat)
    case atStart => exact ⟨0, Nat.zero_le _, rfl, fun j _ h => by omega, hch, by simpa [clSyms] using HN.out⟩
    case round =>
      obtain ⟨k, hkk, rfl, hok2, hch2, hN2⟩ := hrel
      have Hok2 := Lib.hid hok2; clear hok2
      have HN2 := Lib.hid hN2; clear hN2
      have hextr : Ext w wr := Chg.ext hext hch2 (by simp; omega)
      have g0 := hch2.cell hbox (by simp; omega)
      have g1 := hextr.cell m0
      by_cases hkl : k < cs[i].length
      case neg =>
        have hk1 : ¬ (k : Int) < cs[i].length := by omega
        have hke : k = cs[i].length := by omega
        have HE := Lib.hid hke; clear hke
        go_wp2_with fail
        go_roundw
        case rel =>
          refine ⟨i + 1, by omega, by go_num, fun j hj hji => ?_, hch2, ?_⟩
          · by_cases hji' : j < i
            · exact Hok.out j hj hji'
            · obtain rfl : j = i := by omega
              exact fun k hk => Hok2.out k hk (by have := HE.out; omega)
          · have h := HN2.out
            rw [HE.out, List.take_length, ← allSyms_take hlt] at h
            exact h
        case measure => simp [intOf]; omega
      have hk1 : (k : Int) < cs[i].length := by omega
      obtain ⟨lb, lo, xa, xc, ya, yc, rfl, p0, p1, p2, p3, p4, hX, hY⟩ := hli k hkl
      replace p0 := hextr.cell p0
      replace p1 := hextr.cell p1
      replace p2 := hextr.cell p2
      replace p3 := hextr.cell p3
      replace p4 := hextr.cell p4
      obtain ⟨hsz1, hsz2⟩ := hcs1 k hkl
      have HCL := Lib.hid (clSyms_length (cs[i].take k) (fun q hq => by rw [List.getElem_take]; exact hcs1 q (by simp at hq; omega)))
      have HST := Lib.hid (clSyms_take hkl)
      obtain ⟨x, hxe⟩ : ∃ x, x = cs[i][k] := ⟨_, rfl⟩
      rw [← hxe] at p0 p1 p2 p3 p4 hX hY hsz1 hsz2 HST
      obtain ⟨W3, hW3⟩ : ∃ W3, W3 = wr.alloc (.cells #[.bool x.neg, .int .i64 x.l.f, .slice xa x.l.ks.length xc, .int .i64 x.r.f, .slice ya x.r.ks.length yc] 64) := ⟨_, rfl⟩
      have hx3 : Ext wr W3 := by rw [hW3]; exact ext_alloc _ _
      have Ht1 := Lib.hid (fun w' (h : Ext wr w') => refTermCheck_any l hl x.l hsz1 w' a n (hsy.ext (Ext.trans hextr h)) _ _ (hX.ext (Ext.trans hextr h)))
      have Ht2 := Lib.hid (fun w' (h : Ext wr w') => refTermCheck_any l hl x.r hsz2 w' a n (hsy.ext (Ext.trans hextr h)) _ _ (hY.ext (Ext.trans hextr h)))
      have Hxe := Lib.hid hxe; clear hxe
      have q0 := hx3.cell g0
      have q1 : W3.cell? ⟨wr.heap.size, 1, none⟩ = some (.int .i64 x.l.f) := by subst hW3; go_simp
      have q2 : W3.cell? ⟨wr.heap.size, 2, none⟩ = some (.slice xa x.l.ks.length xc) := by subst hW3; go_simp
      have q3 : W3.cell? ⟨wr.heap.size, 3, none⟩ = some (.int .i64 x.r.f) := by subst hW3; go_simp
      have q4 : W3.cell? ⟨wr.heap.size, 4, none⟩ = some (.slice ya x.r.ks.length yc) := by subst hW3; go_simp
      have hN3 := HN2.out.ext hx3
      have q0' := q0
      rw [hW3] at q0'
      rcases tc_cases l x.l with hz1 | hz1
      case inr =>
        rw [hz1] at Ht1
        have HZ := Lib.hid hz1; clear hz1
        go_wp2_with (first
          | ((try rw [← hW3]); (try clear hW3); go_at_call 34; with_reducible refine (Ht1.out _ hx3).mono ?_; rintro e w4 ⟨rfl, hx4⟩))
        refine bodyPost_ret (v := .tuple #[.slice none 0 0, .int .i64 2]) (by simp [results, Try.results14, go_sem]) rfl ?_
        have hf : litOk l x = false := by unfold litOk; rw [decide_eq_false_iff_not]; exact fun h => by have := HZ.out; omega
        rw [Hxe.out] at hf
        have hck : countsErr l cs = 2 := by unfold countsErr; rw [if_neg (fun h => by rw [clsOk_false hlt hkl hf] at h; cases h.2)]
        exact ⟨⟨_, rfl, .inl ⟨hck, rfl⟩⟩, Ext.trans hextr (Ext.trans hx3 hx4)⟩
      rw [hz1] at Ht1
      have hz1' := tc_under hz1
      rcases tc_cases l x.r with hz2 | hz2
      case inr =>
        rw [hz2] at Ht2
        have HZ := Lib.hid hz2; clear hz2 hz1 hz1'
        go_wp2_with (first
          | ((try rw [← hW3]); (try clear hW3); go_at_call 34; with_reducible refine (Ht1.out _ hx3).mono ?_; rintro e w4 ⟨rfl, hx4⟩; replace q0 := hx4.cell q0; replace q3 := hx4.cell q3; replace q4 := hx4.cell q4)
          | (go_at_call 34; with_reducible refine (Ht2.out _ (Ext.trans hx3 hx4)).mono ?_; rintro e w5 ⟨rfl, hx5⟩))
        refine bodyPost_ret (v := .tuple #[.slice none 0 0, .int .i64 2]) (by simp [results, Try.results14, go_sem]) rfl ?_
        have hf : litOk l x = false := by unfold litOk; rw [decide_eq_false_iff_not]; exact fun h => by have := HZ.out; omega
        rw [Hxe.out] at hf
        have hck : countsErr l cs = 2 := by unfold countsErr; rw [if_neg (fun h => by rw [clsOk_false hlt hkl hf] at h; cases h.2)]
        exact ⟨⟨_, rfl, .inl ⟨hck, rfl⟩⟩, Ext.trans hextr (Ext.trans hx3 (Ext.trans hx4 hx5))⟩
      rw [hz2] at Ht2
      have hz2' := tc_under hz2
      have HZ := Lib.hid (And.intro hz1 (And.intro hz2 (And.intro hz1' hz2'))); clear hz1 hz2 hz1' hz2'
      have hroom : (allSyms (cs.take i) ++ clSyms (cs[i].take k)).length ≤ 1000000000000000 := by
        have h1 := HAL.out
        have h2 := HCL.out
        rw [HCE] at h1
        rw [List.length_append]
        have : (cs[i].take k).length ≤ 1048576 := by simp; omega
        omega
      obtain ⟨s0, hs0⟩ : ∃ s0, s0 = allSyms (cs.take i) ++ clSyms (cs[i].take k) := ⟨_, rfl⟩
      rw [← hs0] at hroom hN3
      have Hs0 := Lib.hid hs0; clear hs0
      have HN3 := Lib.hid hN3; clear hN3
      have Hc1 := Lib.hid (fun w' (h : Ext w w') (hb : nb < w'.heap.size) (hN : Nums w' nb (counts l.length s0)) => refCount_any l.length hl w nb l.length (by omega) x.l s0 w' _ _ HZ.out.2.2.1 (by omega) hsz1 hX h hb hN)
      have hsz3 := syms_length x.l
      have Hc2 := Lib.hid (fun w' (h : Ext w w') (hb : nb < w'.heap.size) (hN : Nums w' nb (counts l.length (s0 ++ x.l.syms))) => refCount_any l.length hl w nb l.length (by omega) x.r (s0 ++ x.l.syms) w' _ _ HZ.out.2.2.2 (by rw [List.length_append]; omega) hsz2 hY h hb hN)
      clear hsz3
      have hnr : nb < wr.heap.size := by have := hch2.size; omega
      cases hr0 : (x.r.f != 0) with
      | true =>
        have HR0 := Lib.hid hr0
        go_wp2_with (first
          | ((try rw [← hW3]); (try clear hW3); go_at_call 34; with_reducible refine (Ht1.out _ hx3).mono ?_; rintro e w4 ⟨rfl, hx4⟩; replace q0 := hx4.cell q0; replace q1 := hx4.cell q1; replace q2 := hx4.cell q2; replace q3 := hx4.cell q3; replace q4 := hx4.cell q4)
          | (go_at_call 34; with_reducible refine (Ht2.out _ (Ext.trans hx3 hx4)).mono ?_; rintro e w5 ⟨rfl, hx5⟩; replace q0 := hx5.cell q0; replace q1 := hx5.cell q1; replace q2 := hx5.cell q2; replace q3 := hx5.cell q3; replace q4 := hx5.cell q4)
          | (go_at_call 35; with_reducible refine (Hc1.out _ (Ext.trans hextr (Ext.trans hx3 (Ext.trans hx4 hx5))) (by have := hx3.size; have := hx4.size; have := hx5.size; omega) (HN3.out.ext (Ext.trans hx4 hx5))).mono ?_; rintro e w6 ⟨rfl, hc6, hn6⟩; have HN6 := Lib.hid hn6; clear hn6; replace q3 := hc6.cell q3 (by simp; omega); replace q4 := hc6.cell q4 (by simp; omega))
          | (go_at_call 35; with_reducible refine (Hc2.out _ (Chg.ext (Ext.trans hextr (Ext.trans hx3 (Ext.trans hx4 hx5))) hc6 (by simp; omega)) (by have := hx3.size; have := hx4.size; have := hx5.size; have := hc6.size; omega) HN6.out).mono ?_; rintro e w7 ⟨rfl, hc7, hn7⟩))
        go_roundw
        case rel =>
          refine ⟨k + 1, by omega, by go_num, fun j hj hjk => ?_, (hch2.trans (Chg.of_ext (Ext.trans hx3 (Ext.trans hx4 hx5)))).trans (hc6.trans hc7), ?_⟩
          · by_cases hjk' : j < k
            · exact Hok2.out j hj hjk'
            · obtain rfl : j = k := by omega
              unfold litOk; rw [decide_eq_true_iff, ← Hxe.out]; exact ⟨HZ.out.1, HZ.out.2.1⟩
          · rw [HST.out, ← List.append_assoc, ← Hs0.out]
            unfold Lt.syms
            rw [if_neg (by have := HR0.out; simpa using this), ← List.append_assoc]
            exact hn7
        case measure => simp [intOf]; omega
      | false =>
        have HR0 := Lib.hid hr0
        go_wp2_with (first
          | ((try rw [← hW3]); (try clear hW3); go_at_call 34; with_reducible refine (Ht1.out _ hx3).mono ?_; rintro e w4 ⟨rfl, hx4⟩; replace q0 := hx4.cell q0; replace q1 := hx4.cell q1; replace q2 := hx4.cell q2; replace q3 := hx4.cell q3; replace q4 := hx4.cell q4)
          | (go_at_call 34; with_reducible refine (Ht2.out _ (Ext.trans hx3 hx4)).mono ?_; rintro e w5 ⟨rfl, hx5⟩; replace q0 := hx5.cell q0; replace q1 := hx5.cell q1; replace q2 := hx5.cell q2; replace q3 := hx5.cell q3; replace q4 := hx5.cell q4)
          | (go_at_call 35; with_reducible refine (Hc1.out _ (Ext.trans hextr (Ext.trans hx3 (Ext.trans hx4 hx5))) (by have := hx3.size; have := hx4.size; have := hx5.size; omega) (HN3.out.ext (Ext.trans hx4 hx5))).mono ?_; rintro e w6 ⟨rfl, hc6, hn6⟩; have HN6 := Lib.hid hn6; clear hn6; replace q3 := hc6.cell q3 (by simp; omega); replace q4 := hc6.cell q4 (by simp; omega)))
        go_roundw
        case rel =>
          refine ⟨k + 1, by omega, by go_num, fun j hj hjk => ?_, (hch2.trans (Chg.of_ext (Ext.trans hx3 (Ext.trans hx4 hx5)))).trans hc6, ?_⟩
          · by_cases hjk' : j < k
            · exact Hok2.out j hj hjk'
            · obtain rfl : j = k := by omega
              unfold litOk; rw [decide_eq_true_iff, ← Hxe.out]; exact ⟨HZ.out.1, HZ.out.2.1⟩
          · rw [HST.out, ← List.append_assoc, ← Hs0.out]
            unfold Lt.syms
            rw [if_pos (by have := HR0.out; simpa using this), List.append_nil]
            exact HN6.out
        case measure => simp [intOf]; omega
end Go.Proofs.Ytdmiphdohfcbeaa
