/- What the reference's Compare and Same of layer 2 return, for any two terms. -/
import Derived.Test.YtoidhdcbemmfhaaDoorComp
import Derived.Deep.RegionHeld3
import Derived.StillTailTactics
namespace Go.Proofs.YtoidhdcbemmfhaaDoor
open Go.ChangeShapes Go.WideShapes Go.ChangeAt Go.RowKit

set_option maxHeartbeats 2000000 in
set_option maxRecDepth 100000 in
theorem refCompare_any (t : Tm) : ∀ (u : Tm) (w : World) (x s y r : Value), IsTm w x s t → IsTm w y r u → t.size ≤ 2097152 → u.size ≤ 2097152 →
    Calls Tryd.prog 38 #[.agg #[x, s], .agg #[y, r]] w fun e w' => e = .returned (.int .i64 (t.cmp u)) ∧ Ext w w' := by
  induction t using Tm.ind with
  | h f ks ih =>
    intro u w x s y r ht hu hs hs2
    cases u with
    | mk g ls =>
      simp only [IsTm] at ht hu
      obtain ⟨rfl, hf1, hf2, a, c, rfl, hc, hk⟩ := ht
      obtain ⟨rfl, hg1, hg2, a2, c2, rfl, hc2, hl⟩ := hu
      simp only [Tm.size] at hs hs2
      have hkl := length_le_sizes ks
      have hll := length_le_sizes ls
      have Hih := Lib.hid ih; clear ih
      have hx : Ext w ((w.alloc (.cells #[.int .i64 f, .slice a ks.length c] 27)).alloc (.cells #[.int .i64 g, .slice a2 ls.length c2] 27)) := by go_grown
      by_cases hfg : f = g
      · subst hfg
        have h0 : topCmp f f = 0 := by unfold topCmp Lib.compareInt; split <;> split <;> (try split) <;> omega
        have hspec : Tm.cmp (.mk f ks) (.mk f ls) = Tm.cmps ks ls := by simp only [Tm.cmp]; rw [if_pos h0]
        rw [hspec]; clear hspec h0
        obtain ⟨W, hW⟩ : ∃ W, W = ((w.alloc (.cells #[.int .i64 f, .slice a ks.length c] 27)).alloc (.cells #[.int .i64 f, .slice a2 ls.length c2] 27)) := ⟨_, rfl⟩
        have k1 : W.cell? ⟨w.heap.size, 1, none⟩ = some (.slice a ks.length c) := by subst hW; go_simp
        have k3 : W.cell? ⟨w.heap.size + 1, 1, none⟩ = some (.slice a2 ls.length c2) := by subst hW; go_simp
        rw [← hW] at hx
        go_enter Tryd.func38, Tryd.ntmps38
        go_wp2_with fail
        rw [← hW]; clear hW
        go_loopw [5] (fun i wr => ∃ k : Nat, k ≤ ks.length ∧ k ≤ ls.length ∧ i = .int .i64 k ∧ Tm.cmps ks ls = Tm.cmps (ks.drop k) (ls.drop k) ∧ Ext W wr) (fun i _ => ks.length - (intOf i).toNat)
        case atStart => exact ⟨0, Nat.zero_le _, Nat.zero_le _, rfl, rfl, Below.refl _ _⟩
        case round =>
          obtain ⟨k, hkk, hkk2, rfl, hck, hext⟩ := hrel
          have Hck := Lib.hid hck; clear hck
          have q1 := hext.cell k1
          have q3 := hext.cell k3
          by_cases hlt : k < ks.length
          · have hk1 : (k : Int) < ks.length := by omega
            by_cases hlt2 : k < ls.length
            · have hk2 : (k : Int) < ls.length := by omega
              obtain ⟨b', o', a', c', rfl, h1, h2, h3⟩ := hk.look hlt
              obtain ⟨b3, o3, a3, c3, rfl, p1, p2, p3⟩ := hl.look hlt2
              have g1 := hext.cell (hx.cell h1)
              have g2 := hext.cell (hx.cell h2)
              have g3 := hext.cell (hx.cell p1)
              have g4 := hext.cell (hx.cell p2)
              have hi2 := fun w' (hx' : Ext wr w') => Hih.out _ (List.getElem_mem hlt) ls[k] w' _ _ _ _ (h3.ext (Ext.trans hx (Ext.trans hext hx'))) (p3.ext (Ext.trans hx (Ext.trans hext hx'))) (by have := size_le_sizes hlt; omega) (by have := size_le_sizes hlt2; omega)
              have Hi := Lib.hid hi2; clear hi2
              have Hst := Lib.hid (cmps_step hlt hlt2)
              clear h1 h2 p1 p2 k1 k3
              go_wp2_with fail
              go_region_held3 (fun w' => w'.cell? ⟨w.heap.size, 1, none⟩ = some (.slice (some ⟨b', o', none⟩) ks.length c) ∧ w'.cell? ⟨w.heap.size + 1, 1, none⟩ = some (.slice (some ⟨b3, o3, none⟩) ls.length c2) ∧ w'.cell? ⟨b', o' + k * 2, none⟩ = some (.int .i64 ks[k].f) ∧ w'.cell? ⟨b', o' + k * 2 + 1, none⟩ = some (.slice a' ks[k].ks.length c') ∧ w'.cell? ⟨b3, o3 + k * 2, none⟩ = some (.int .i64 ls[k].f) ∧ w'.cell? ⟨b3, o3 + k * 2 + 1, none⟩ = some (.slice a3 ls[k].ks.length c3) ∧ Ext wr w')
                (((try go_split_ands); refine ⟨?_, ?_, ?_, ?_, ?_, ?_, ?_⟩ <;> first | (with_reducible assumption) | exact Below.drew (Below.refl _ _) | exact Ext.drew (by assumption) | exact Ext.drew (ext_alloc _ _) | (apply Ext.cell hw'; (with_reducible assumption)) | exact Ext.trans (by assumption) hw' | exact Ext.frozen hw' (by (with_reducible assumption)) (by (with_reducible assumption)) | (go_keep; done)))
                ((go_at_call 38; go_split_ands; with_reducible refine (Hi.out _ (by (with_reducible assumption))).mono ?_; rintro e w' ⟨rfl, hw'⟩))
              go_split_ands
              have hE : Ext wr w' := by with_reducible assumption
              go_wp2_with fail
              · go_ret
                have hb : ¬ ks[k].cmp ls[k] = 0 := by simpa using ‹(ks[k].cmp ls[k] != 0) = true›
                rw [Hck.out, Hst.out, if_neg hb]
                exact ⟨rfl, Ext.trans hx (Ext.trans hext hE)⟩
              · have hb : ks[k].cmp ls[k] = 0 := by simpa using ‹(ks[k].cmp ls[k] != 0) = false›
                go_roundw
                case rel => exact ⟨k + 1, by omega, by omega, by go_num, by rw [Hck.out, Hst.out, if_pos hb], Ext.trans hext hE⟩
                case measure => simp [intOf]; omega
            · have hk2 : ¬ (k : Int) < ls.length := by omega
              have Hst := Lib.hid (cmps_end1 hlt (Nat.not_lt.1 hlt2))
              have hz1 : ¬ (ks.length : Int) < ls.length := by omega
              have hz2 : (ls.length : Int) < ks.length := by omega
              go_wp2_with fail
              go_ret
              rw [Hck.out, Hst.out]
              exact ⟨rfl, Ext.trans hx hext⟩
          · have hk1 : ¬ (k : Int) < ks.length := by omega
            by_cases hlt2 : k < ls.length
            · have Hst := Lib.hid (cmps_end2 (Nat.not_lt.1 hlt) hlt2)
              have hz1 : (ks.length : Int) < ls.length := by omega
              go_wp2_with fail
              go_ret
              rw [Hck.out, Hst.out]
              exact ⟨rfl, Ext.trans hx hext⟩
            · have Hst := Lib.hid (cmps_end3 (Nat.not_lt.1 hlt) (Nat.not_lt.1 hlt2))
              have hz1 : ¬ (ks.length : Int) < ls.length := by omega
              have hz2 : ¬ (ls.length : Int) < ks.length := by omega
              go_wp2_with fail
              go_ret
              rw [Hck.out, Hst.out]
              exact ⟨rfl, Ext.trans hx hext⟩
      · have hne : (f != g) = true := by simpa using hfg
        have htop : ∀ z : Int, topCmp f g = z → z ≠ 0 → Tm.cmp (.mk f ks) (.mk g ls) = z := by
          intro z h1 h2
          simp only [Tm.cmp]; rw [h1, if_neg h2]
        by_cases h1 : f < 0
        · by_cases h2 : g < 0
          · by_cases h3 : g < f
            · have hT := Lib.hid (htop (-1) (by unfold topCmp Lib.compareInt; rw [if_pos ⟨h1, h2⟩, if_pos h3]) (by omega))
              clear htop hfg
              go_enter Tryd.func38, Tryd.ntmps38
              go_wp2_with fail
              go_ret
              rw [hT.out]; exact ⟨rfl, hx⟩
            · have hT := Lib.hid (htop 1 (by unfold topCmp Lib.compareInt; rw [if_pos ⟨h1, h2⟩, if_neg h3, if_pos (by omega)]) (by omega))
              clear htop hfg
              go_enter Tryd.func38, Tryd.ntmps38
              go_wp2_with fail
              go_ret
              rw [hT.out]; exact ⟨rfl, hx⟩
          · have h3 : f < g := by omega
            have hT := Lib.hid (htop (-1) (by unfold topCmp Lib.compareInt; rw [if_neg (fun h => h2 h.2), if_pos h3]) (by omega))
            clear htop hfg
            go_enter Tryd.func38, Tryd.ntmps38
            go_wp2_with fail
            go_ret
            rw [hT.out]; exact ⟨rfl, hx⟩
        · by_cases h3 : f < g
          · have hT := Lib.hid (htop (-1) (by unfold topCmp Lib.compareInt; rw [if_neg (fun h => h1 h.1), if_pos h3]) (by omega))
            clear htop hfg
            go_enter Tryd.func38, Tryd.ntmps38
            go_wp2_with fail
            go_ret
            rw [hT.out]; exact ⟨rfl, hx⟩
          · have hT := Lib.hid (htop 1 (by unfold topCmp Lib.compareInt; rw [if_neg (fun h => h1 h.1), if_neg h3, if_pos (by omega)]) (by omega))
            clear htop hfg
            go_enter Tryd.func38, Tryd.ntmps38
            go_wp2_with fail
            go_ret
            rw [hT.out]; exact ⟨rfl, hx⟩

set_option maxHeartbeats 1000000 in
theorem refSame_any (t u : Tm) (w : World) (x s y r : Value) (ht : IsTm w x s t) (hu : IsTm w y r u) (hs : t.size ≤ 2097152) (hs2 : u.size ≤ 2097152) :
    Calls Tryd.prog 24 #[.agg #[x, s], .agg #[y, r]] w fun e w' => e = .returned (.bool (t.cmp u == 0)) ∧ Ext w w' := by
  have hx : Ext w ((w.alloc (.cells #[x, s] 27)).alloc (.cells #[y, r] 27)) := by go_grown
  have hc := refCompare_any t u _ _ _ _ _ (ht.ext hx) (hu.ext hx) hs hs2
  have Hc := Lib.hid hc; clear hc
  go_enter Tryd.func24, Tryd.ntmps24
  go_wp2_with ((go_at_call 38; refine (Hc.out).mono ?_; rintro e w2 ⟨rfl, hx2⟩))
  go_ret
  exact ⟨rfl, Ext.trans hx hx2⟩
end Go.Proofs.YtoidhdcbemmfhaaDoor
