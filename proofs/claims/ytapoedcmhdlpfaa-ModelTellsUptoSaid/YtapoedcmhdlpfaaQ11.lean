/- What the functions that term.Vars and term.Ground hand to term.each do, and what term.Ground returns. -/
import Derived.Test.YtapoedcmhdlpfaaQ2
import Derived.Test.YtapoedcmhdlpfaaQ10
import Derived.Deep.RegionLaw
namespace Go.Proofs.Ytapoedcmhdlpfaa
open Go.ChangeShapes Go.WideShapes Go.ChangeAt Go.RowKit
def varSt (s : List Int) (t : Tm) : Bool × List Int := (true, if t.f < 0 then s ++ [-1 - t.f] else s)
def VarI (bl : Nat) (w : World) (s : List Int) (q : Nat) : Prop :=
  ∃ v, w.cell? ⟨bl, 0, none⟩ = some v ∧ w.frozen? ⟨bl, 0, none⟩ = false ∧ GRow eltInt 3 (bl + 1) w v s ∧ s.length ≤ q

set_option maxHeartbeats 1000000 in
set_option maxRecDepth 100000 in
theorem vars1_any (w0 : World) (bl : Nat) (hbl : w0.heap.size ≤ bl) : Does2 varSt 46 #[.pointer (some ⟨bl, 0, none⟩)] w0 4000000 (VarI bl) 2097152 := by
  intro w s q t b o x y hq hsz hx hy ht hext hI
  obtain ⟨v, c1, c2, hrow, hsl⟩ := hI
  obtain ⟨a, c, rfl, rfl, hf1, hf2, -, -⟩ := ht.form
  have gx := hext.cell hx
  obtain ⟨ao, co, rfl, hmc⟩ := hrow.form
  have hbw := cell_lt c1
  simp only at hbw
  by_cases hf : t.f < 0
  · have hst : (varSt s t) = (true, s ++ [-1 - t.f]) := by unfold varSt; rw [if_pos hf]
    rw [hst]; clear hst
    obtain ⟨i0, hi0, hz0, hz1, hz2⟩ := info_parts infoInt
    have hxa : Ext w (w.drew.alloc (.cells #[.int .i64 (-1 - t.f)] 3)) := (Ext.drew (Below.refl _ w)).alloc _
    have hwr : IntKind.i64.wrap (-1 - t.f) = -1 - t.f := IntWalk.i64_in _ (by omega)
    show Calls _ _ #[.pointer (some ⟨b, o, none⟩), .pointer (some ⟨bl, 0, none⟩)] _ _
    go_enter Try.func46, Try.ntmps46
    go_wp2_with fail
    go_region_law ((refine step_append_row rfl (.tmp 9) (.tmp 15) _ rfl 3 i0 _ 8 Try.underlying31 hi0 hz0 hz1 hz2 rfl (by decide) (bl + 1) (.slice ao s.length co) s (by rfl) w hrow hxa w.heap.size (by rfl) _ _ (heap_alloc_new _ _) (-1 - t.f) ⟨rfl, by omega, by omega⟩ (by simp only [maxLen]; omega) (by omega) (by simp; omega) ?_; intro g cap w2 hrow2 hgrow hat hlt2; have d1 := (hgrow.cell_far ⟨bl, 0, none⟩ (by simp; omega) (fun e => by have := (hrow.own_ge e.symm).1; simp at this; omega)).trans (hxa.cell c1); have d2 := (hgrow.frozen_far ⟨bl, 0, none⟩ (by simp; omega) (fun e => by have := (hrow.own_ge e.symm).1; simp at this; omega)).trans (hxa.frozen c1 c2)))
    all_goals
      go_wp2_with fail
      go_ret
      have hx2 : Ext w0 w2 := Ext.append' hext hrow (by omega) hxa hgrow
      refine ⟨rfl, Chg.ext hx2 ((Chg.refl [bl] w2).setCell (p := ⟨bl, 0, none⟩) _ (.inl (by simp))) (by simp; omega), _, World.cell?_setCell_same _ _ _ d1, (World.frozen?_setCell _ _ _ _).trans d2, hrow2.chg ((Chg.refl [bl] _).setCell _ (.inl (by simp))) (by simp), by simp; omega⟩
  · have hst : (varSt s t) = (true, s) := by unfold varSt; rw [if_neg hf]
    rw [hst]; clear hst
    show Calls _ _ #[.pointer (some ⟨b, o, none⟩), .pointer (some ⟨bl, 0, none⟩)] _ _
    go_enter Try.func46, Try.ntmps46
    go_wp2_with fail
    go_ret
    exact ⟨rfl, hext, _, c1, c2, hrow, by omega⟩

end Go.Proofs.Ytapoedcmhdlpfaa
