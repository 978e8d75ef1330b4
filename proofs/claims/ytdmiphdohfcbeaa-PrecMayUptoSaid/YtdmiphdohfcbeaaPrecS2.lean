/- slices.Values, slices.Collect, slices.Sorted over a row of numbers. Condition: the length fits. -/
import Derived.Test.YtdmiphdohfcbeaaPrecS1
import Derived.Test.YtdmiphdohfcbeaaPrecC
namespace Go.Proofs.Ytdmiphdohfcbeaa
open Go.ChangeShapes Go.WideShapes Go.ChangeAt Go.RowKit

theorem nums_of_own {w : World} {B : Nat} {v : Value} {l : List Int} (h0 : 0 < l.length) (h : w.ownsRow B 3 1 v l.length (l.map (Value.int .i64))) : ∃ g cap, v = .slice (some ⟨g, 0, none⟩) l.length cap ∧ B ≤ g ∧ g < w.heap.size ∧ l.length ≤ cap ∧ Nums w g l := by
  have hc := h
  obtain ⟨g, cap, rfl, hb, hlt⟩ := hc.form h0
  rcases h.2 with ⟨h1, -⟩ | ⟨g', cap', cur, hv, -, hh, hr, -⟩
  · cases h1
  · injection hv with e1 e2 e3
    injection e1 with e1
    injection e1 with e1
    subst e1; subst e3
    refine ⟨g, cap, rfl, hb, hlt, hr, ⟨fun i hi => ⟨?_, ?_⟩⟩⟩
    · have := h.cells (g := g) rfl i (.int .i64 l[i]) (by rw [List.getElem?_map, List.getElem?_eq_getElem hi]; rfl)
      have hadd : (⟨g, 0, none⟩ : Addr).add i = ⟨g, i, none⟩ := by unfold Addr.add; split <;> simp_all
      rw [hadd] at this
      exact this
    · unfold World.frozen?; simp only [hh]; simp

set_option maxHeartbeats 1000000 in
set_option maxRecDepth 100000 in
theorem collect_values (l : List Int) (hl : l.length ≤ 1048576) (bo : Nat) (w : World) (a : Option Addr) (c : Nat) (h0 : w.cell? ⟨bo, 0, none⟩ = some (.slice a l.length c)) (hl1 : IsInts w a l) :
    Calls Try.prog 38 #[.func (.func 40) #[] #[.pointer (some ⟨bo, 0, none⟩)]] w fun e w' => (∃ v, e = .returned v ∧ w'.ownsRow w.heap.size 3 1 v l.length (l.map (Value.int .i64))) ∧ Ext w w' := by
  have HA := Lib.hid (appendSeq_values l hl bo w a c h0 hl1)
  clear h0 hl1
  go_enter Try.func38, Try.ntmps38
  go_wp2_with (go_at_call 62; refine (HA.out).mono ?_; rintro e w1 ⟨⟨v, rfl, hv⟩, hx1⟩)
  go_ret
  exact ⟨⟨_, rfl, hv⟩, hx1⟩

set_option maxHeartbeats 1000000 in
set_option maxRecDepth 100000 in
theorem values_any (l : List Int) (w : World) (a : Option Addr) (c : Nat) :
    Calls Try.prog 21 #[.slice a l.length c] w fun e w' => e = .returned (.func (.func 40) #[] #[.pointer (some ⟨w.heap.size, 0, none⟩)]) ∧ w'.cell? ⟨w.heap.size, 0, none⟩ = some (.slice a l.length c) ∧ Ext w w' := by
  go_enter Try.func21, Try.ntmps21
  go_wp2_with fail
  go_ret
  exact ⟨rfl, by go_simp, by go_grown⟩

set_option maxHeartbeats 1000000 in
set_option maxRecDepth 100000 in
theorem sorted_values (l : List Int) (hl : l.length ≤ 1048576) (hpos : 0 < l.length) (bo : Nat) (w : World) (a : Option Addr) (c : Nat) (h0 : w.cell? ⟨bo, 0, none⟩ = some (.slice a l.length c)) (hl1 : IsInts w a l) :
    Calls Try.prog 20 #[.func (.func 40) #[] #[.pointer (some ⟨bo, 0, none⟩)]] w fun e w' =>
      (∃ g cap, e = .returned (.slice (some ⟨g, 0, none⟩) l.length cap) ∧ w.heap.size ≤ g ∧ g < w'.heap.size ∧ l.length ≤ cap ∧ Nums w' g (sortInts l)) ∧ Ext w w' := by
  have HC := Lib.hid (collect_values l hl bo w a c h0 hl1)
  have HS := Lib.hid (fun w1 g cap (hg : g < w1.heap.size) (hN : Nums w1 g l) => Try.slices_Sort_int g 0 cap l w1 (fun j hj => by
    have hj' : j < l.length := by simpa using hj
    rw [Nat.zero_add, getElem!_pos l.toArray j hj]
    have := hN.cell j hj'
    simpa using this) hg (by omega))
  clear h0 hl1
  go_enter Try.func20, Try.ntmps20
  go_wp2_with (first
    | (go_at_call 38; refine (HC.out).mono ?_; rintro e w1 ⟨⟨v, rfl, hv⟩, hx1⟩; obtain ⟨g, cap, rfl, hg1, hg2, hcap, hN⟩ := nums_of_own hpos hv; clear hv)
    | (go_at_call 39; refine (HS.out _ _ _ hg2 hN).mono ?_; rintro e w2 ⟨rfl, n, os, hw2⟩; (have HW := Lib.hid hw2); clear hw2))
  go_ret
  have hch : Chg [g] w1 w2 := by rw [HW.out]; exact chg_sortWorld _ _ _ _ _ _ _
  have hsl : (sortInts l).length = l.length := (sortInts_perm l).length_eq
  have hH : Go.Sort.Holds (Value.int .i64) w1 g 0 l.toArray := fun j hj => by
    have hj' : j < l.length := by simpa using hj
    rw [Nat.zero_add, getElem!_pos l.toArray j hj]
    have := hN.cell j hj'
    simpa using this
  have hh := holds_sortWorld (Value.int .i64) w1 g 0 n l.toArray (sortInts l).toArray os hg2 hH (by simp [hsl])
  refine ⟨⟨g, cap, rfl, hg1, Nat.lt_of_lt_of_le hg2 hch.size, hcap, ⟨fun i hi => ?_⟩⟩, Chg.ext hx1 hch (by simpa using hg1)⟩
  have h3 := hh i (by simpa using hi)
  rw [Nat.zero_add, getElem!_pos (sortInts l).toArray i (by simpa using hi)] at h3
  have h4 : (sortWorld (Value.int .i64) w1 g 0 n (sortInts l).toArray os).cell? ⟨g, i, none⟩ = some (.int .i64 (sortInts l)[i]) ∧ (sortWorld (Value.int .i64) w1 g 0 n (sortInts l).toArray os).frozen? ⟨g, i, none⟩ = false := by simpa using h3
  rw [HW.out]
  exact h4
end Go.Proofs.Ytdmiphdohfcbeaa
