/- What the reference's Copy of layer 2 returns: the same term in new memory. -/
import Derived.Test.YtoidhdcbemmfhaaDoorRow2
import Derived.Deep.RegionLaw
namespace Go.Proofs.YtoidhdcbemmfhaaDoor
open Go.ChangeShapes Go.WideShapes Go.ChangeAt Go.RowKit

theorem atTm_of {P : Nat → Prop} {w : World} : ∀ {t : Tm} {a : Option Addr} {c : Nat}, -9223372036854775808 ≤ t.f → t.f ≤ 9223372036854775807 → t.ks.length ≤ c → AtTms P w a t.ks → AtTm P w (.int .i64 t.f) (.slice a t.ks.length c) t
  | .mk f ks, a, c, h1, h2, h3, h4 => by simp only [AtTm]; exact ⟨rfl, h1, h2, a, c, rfl, h3, h4⟩
theorem AtTms.mono {P Q : Nat → Prop} {w : World} {a : Option Addr} {l : List Tm} (h : AtTms P w a l) (hQ : ∀ b, P b → b < w.heap.size → Q b) : AtTms Q w a l := h.of_cells hQ fun _ _ _ h => h
theorem AtTms.ext {P : Nat → Prop} {w w' : World} {a : Option Addr} {l : List Tm} (h : AtTms P w a l) (hx : Ext w w') : AtTms P w' a l := h.of_cells (fun _ h _ => h) fun _ _ _ hp => hx.cell hp

theorem Chg.append {α : Type} {E : Elt α} {e B : Nat} {S : List Nat} {w0 w w1 w2 : World} {v : Value} {l : List α} (h : Chg S w0 w) (hr : GRow E e B w v l) (hB : w0.heap.size ≤ B) (hx : Ext w w1) (hg : w1.grownBy w2 v.ownBlock) : Chg S w0 w2 := by
  have h1 := h.trans (Chg.of_ext hx)
  exact ⟨hg.os.trans h1.os, hg.tape.trans h1.tape, hg.output.trans h1.output, Nat.le_trans h1.size hg.size, fun k hk hs => (hg.block k (Nat.lt_of_lt_of_le hk h1.size) (fun e => by have := (hr.own_ge e.symm).1; omega)).trans (h1.block k hk hs)⟩

set_option maxHeartbeats 2000000 in
set_option maxRecDepth 100000 in
theorem refCopy_any (t : Tm) : ∀ (w : World) (x s : Value), IsTm w x s t → t.size ≤ 2097152 →
    Calls Tryd.prog 64 #[.agg #[x, s]] w fun e w' => (∃ v, e = .returned (.agg #[.int .i64 t.f, v]) ∧ GRow eltTm 27 w.heap.size w' v t.ks) ∧ Ext w w' := by
  induction t using Tm.ind with
  | h f ks ih =>
    intro w x s ht hs
    simp only [IsTm] at ht
    obtain ⟨rfl, hf1, hf2, a, c, rfl, hc, hk⟩ := ht
    simp only [Tm.size] at hs
    show Calls Tryd.prog 64 _ w fun e w' => (∃ v, e = .returned (.agg #[.int .i64 f, v]) ∧ GRow eltTm 27 w.heap.size w' v ks) ∧ Ext w w'
    have hkl := length_le_sizes ks
    have Hih := Lib.hid ih; clear ih
    obtain ⟨i0, hi0, hz0, hz1, hz2⟩ := info_parts infoTerm
    obtain ⟨W, hW⟩ : ∃ W, W = (((w.alloc (.cells #[.int .i64 f, .slice a ks.length c] 27)).alloc (.cells #[.int .i64 0, .slice none 0 0] 27)).alloc (.cells #[.int .i64 f, .slice none 0 0] 27)) := ⟨_, rfl⟩
    have hx : Ext w W := by subst hW; go_grown
    have hsW : W.heap.size = w.heap.size + 3 := by subst hW; simp
    have k1 : W.cell? ⟨w.heap.size, 1, none⟩ = some (.slice a ks.length c) := by subst hW; go_simp
    have k2 : W.cell? ⟨w.heap.size + 1, 0, none⟩ = some (.int .i64 0) := by subst hW; go_simp
    have k3 : W.cell? ⟨w.heap.size + 1, 1, none⟩ = some (.slice none 0 0) := by subst hW; go_simp
    have k4 : W.cell? ⟨w.heap.size + 1 + 1, 0, none⟩ = some (.int .i64 f) := by subst hW; go_simp
    have k5 : W.cell? ⟨w.heap.size + 1 + 1, 1, none⟩ = some (.slice none 0 0) := by subst hW; go_simp
    have f5 : W.frozen? ⟨w.heap.size + 1 + 1, 1, none⟩ = false := by subst hW; go_simp
    have f2 : W.frozen? ⟨w.heap.size + 1, 0, none⟩ = false := by subst hW; go_simp
    have f3 : W.frozen? ⟨w.heap.size + 1, 1, none⟩ = false := by subst hW; go_simp
    go_enter Tryd.func64, Tryd.ntmps64
    go_wp2_with fail
    rw [← hW]
    clear hW
    go_loopw [4] (fun i wr => ∃ (k : Nat) (v : Value), k ≤ ks.length ∧ i = .int .i64 k ∧ wr.cell? ⟨w.heap.size + 1 + 1, 0, none⟩ = some (.int .i64 f) ∧ wr.cell? ⟨w.heap.size + 1 + 1, 1, none⟩ = some v ∧ wr.frozen? ⟨w.heap.size + 1 + 1, 1, none⟩ = false ∧ GRow eltTm 27 W.heap.size wr v (ks.take k) ∧ Chg [w.heap.size + 1 + 1] W wr) (fun i _ => ks.length - (intOf i).toNat)
    case atStart => exact ⟨0, _, Nat.zero_le _, rfl, k4, k5, f5, GRow.nil, Chg.refl _ _⟩
    case round =>
      obtain ⟨k, v, hkk, rfl, q4, q5, z5, hrow, hch⟩ := hrel
      have q1 := hch.cell k1 (by simp; omega)
      have q2 := hch.cell k2 (by simp)
      have q3 := hch.cell k3 (by simp)
      have hext : Ext w wr := Chg.ext hx hch (by simp; omega)
      obtain ⟨va, vc, hv, hvc⟩ := hrow.form
      have HML : (ks.take k).length = k := by rw [List.length_take]; omega
      rw [HML] at hv
      subst hv
      have Hml := Lib.hid HML; clear HML
      by_cases hlt : k < ks.length
      · have hk1 : (k : Int) < ks.length := by omega
        obtain ⟨b', o', a', c', rfl, h1, h2, h3⟩ := hk.look hlt
        have g1 := hext.cell h1
        have g2 := hext.cell h2
        have hi2 := fun w' (hx : Ext wr w') => Hih.out _ (List.getElem_mem hlt) w' _ _ (h3.ext (Ext.trans hext hx)) (by have := size_le_sizes hlt; omega)
        have Hi := Lib.hid hi2; clear hi2
        obtain ⟨-, -, -, -, r1, r2, -, -⟩ := h3.form
        have hWr : W.heap.size ≤ wr.heap.size := hch.size
        have hown : ∀ g, (Value.slice va k vc).ownBlock = some g → g < wr.heap.size := fun g hg => (hrow.own_ge hg).2
        go_wp2_with fail
        go_region_law ((first
          | (go_simp; go_at_call 64; refine (Hi.out _ (Ext.drew (Below.refl _ _))).mono ?_; rintro e w2 ⟨⟨v2, rfl, hr2⟩, hx2⟩; (have hx2' : Ext wr w2 := (Ext.drew (Below.refl _ wr)).trans hx2); obtain ⟨a2, c2, rfl, hc2, ht2⟩ := hr2.tms; (have d5 := hx2'.cell q5); (have d6 := hx2'.frozen q5 z5); (have d7 := (ext_alloc w2 (.cells #[.int .i64 ks[k].f, .slice a2 ks[k].ks.length c2] 27)).cell d5); (try simp only []))
          | (refine step_append_row rfl (.tmp 16) (.tmp 23) _ rfl 27 i0 _ 32 Tryd.underlying25 hi0 hz0 hz1 hz2 rfl (by decide) W.heap.size (.slice va k vc) (ks.take k) (by rfl) wr hrow (hx2'.trans (ext_alloc _ _)) w2.heap.size (by rfl) _ _ (heap_alloc_new _ _) ks[k] ⟨_, _, rfl, atTm_of r1 r2 hc2 ((ht2.ext (ext_alloc _ _)).mono (fun b hb _ => ⟨by have : wr.heap.size ≤ b := hb; omega, fun e => by have := hown b e; have : wr.heap.size ≤ b := hb; omega⟩))⟩ (by rw [Hml.out]; simp only [maxLen]; omega) (by rw [Hml.out]; omega) (Nat.le_trans hWr (hx2'.trans (ext_alloc _ _)).size) ?_; intro g cap w4 hrow4 hgrow hat hlt4; (have hfar : (some (⟨w.heap.size + 1 + 1, 1, none⟩ : Addr).block) ≠ (Value.slice va k vc).ownBlock := fun e => by have := (hrow.own_ge e.symm).1; simp only at this; omega); (have hlt5 : (⟨w.heap.size + 1 + 1, 1, none⟩ : Addr).block < (w2.alloc (.cells #[.int .i64 ks[k].f, .slice a2 ks[k].ks.length c2] 27)).heap.size := Nat.lt_of_lt_of_le (cell_lt d5) (ext_alloc w2 _).size); (have e5 := (hgrow.cell_far ⟨w.heap.size + 1 + 1, 1, none⟩ hlt5 hfar).trans ((ext_alloc w2 _).cell d5)); (have e4 := (hgrow.cell_far ⟨w.heap.size + 1 + 1, 0, none⟩ hlt5 hfar).trans ((ext_alloc w2 _).cell (hx2'.cell q4))); (have e6 := (hgrow.frozen_far ⟨w.heap.size + 1 + 1, 1, none⟩ hlt5 hfar).trans ((ext_alloc w2 _).frozen d5 d6)))))
        all_goals
          have hc4 := Chg.append hch hrow (Nat.le_refl _) (hx2'.trans (ext_alloc w2 _)) hgrow
          go_wp2_with fail
          go_roundw
          case rel =>
            refine ⟨k + 1, _, by omega, by go_num, ?_, World.cell?_setCell_same _ _ _ e5, (World.frozen?_setCell _ _ _ _).trans e6, ?_, hc4.setCell _ (.inl (by simp))⟩
            · rw [World.cell?_setCell_other _ _ _ _ (by intro e; injection e with _ e2; omega)]; exact e4
            · rw [List.take_succ_eq_append_getElem hlt]
              have hrow5 := hrow4
              (try rw [Hml.out] at hrow5)
              exact hrow5.chg ((Chg.refl [w.heap.size + 1 + 1] w4).setCell (p := ⟨w.heap.size + 1 + 1, 1, none⟩) _ (.inl (by simp))) (by simp; omega)
          case measure => simp [intOf]; omega
      · have hk1 : ¬ (k : Int) < ks.length := by omega
        have hke : k = ks.length := by omega
        rw [hke, List.take_length] at hrow
        have Hr := Lib.hid hrow
        have Hke := Lib.hid hke
        clear hrow hke Hih
        have z2 := hch.frozen k2 (by simp) f2
        have z3 := hch.frozen k3 (by simp) f3
        go_wp2_with fail
        have hc2 : Chg [w.heap.size + 1] wr ((wr.setCell ⟨w.heap.size + 1, 0, none⟩ (.int .i64 f)).setCell ⟨w.heap.size + 1, 1, none⟩ (.slice va k vc)) :=
          ((Chg.refl _ wr).setCell _ (.inl (by simp))).setCell _ (.inl (by simp))
        have c1 : ((wr.setCell ⟨w.heap.size + 1, 0, none⟩ (.int .i64 f)).setCell ⟨w.heap.size + 1, 1, none⟩ (.slice va k vc)).cell? ⟨w.heap.size + 1, 0, none⟩ = some (.int .i64 f) := by
          rw [World.cell?_setCell_other _ _ _ _ (by simp)]; exact World.cell?_setCell_same _ _ _ q2
        have c2 : ((wr.setCell ⟨w.heap.size + 1, 0, none⟩ (.int .i64 f)).setCell ⟨w.heap.size + 1, 1, none⟩ (.slice va k vc)).cell? ⟨w.heap.size + 1, 1, none⟩ = some (.slice va k vc) :=
          World.cell?_setCell_same (u := .slice none 0 0) _ _ _ (by rw [World.cell?_setCell_other _ _ _ _ (by simp)]; exact q3)
        refine bodyPost_ret (v := .agg #[.int .i64 f, .slice va k vc]) (by simp [results, Tryd.results64, go_sem, c1, c2]) rfl ?_
        have hr3 := Hr.out.chg hc2 (by simp; omega)
        have hr4 : GRow eltTm 27 w.heap.size _ _ ks := GRow.down hr3 (by omega)
        exact ⟨⟨.slice va ks.length vc, by show Ending.returned _ = Ending.returned _; rw [← Hke.out], hr4⟩, Chg.ext hext hc2 (by simp)⟩
end Go.Proofs.YtoidhdcbemmfhaaDoor
