/- slices.AppendSeq, slices.Collect over slices.Values of a row of numbers: a new row with the same numbers. Condition: the length fits. -/
import Derived.Test.YtdmiphdohfcbeaaPrecV
import Derived.Test.YtdmiphdohfcbeaaPrecI
import Derived.Maps.OwnIn
namespace Go.Proofs.Ytdmiphdohfcbeaa
open Go.ChangeShapes Go.WideShapes Go.ChangeAt Go.RowKit
attribute [local go_sem] fw_round fw_depth fw_fn Oper.semAt_some

theorem own_form {w : World} {B e size n : Nat} {v : Value} {xs : List Value} (h : w.ownsRow B e size v n xs) : ∃ a c, v = .slice a n c := by
  rcases h.2 with ⟨h1, h2⟩ | ⟨g, cap, cur, hv, -⟩
  · exact ⟨none, 0, by rw [h1, h2]⟩
  · exact ⟨_, _, hv⟩

/-- between two rounds: the box holds the row of what has come -/
def ApJ (B : Nat) (W : World) (pre : List Int) (S : List Nat) : Prop :=
  ∃ v, W.cell? ⟨B, 0, none⟩ = some v ∧ W.frozen? ⟨B, 0, none⟩ = false ∧ W.ownsRow (B + 1) 3 1 v pre.length (pre.map (Value.int .i64)) ∧ S = B :: v.ownBlock.toList

set_option maxHeartbeats 1000000 in
set_option maxRecDepth 100000 in
theorem appendSeq_values (l : List Int) (hl : l.length ≤ 1048576) (bo : Nat) (w : World) (a : Option Addr) (c : Nat) (h0 : w.cell? ⟨bo, 0, none⟩ = some (.slice a l.length c)) (hl1 : IsInts w a l) :
    Calls Try.prog 62 #[.slice none 0 0, .func (.func 40) #[] #[.pointer (some ⟨bo, 0, none⟩)]] w fun e w' => (∃ v, e = .returned v ∧ w'.ownsRow w.heap.size 3 1 v l.length (l.map (Value.int .i64))) ∧ Ext w w' := by
  obtain ⟨i0, hi0, hz0, hz1', hz2'⟩ := info_parts infoInt
  have hbo := cell_lt h0
  simp only at hbo
  obtain ⟨V, hV⟩ : ∃ V, V = w.alloc (.cells #[.slice none 0 0] 25) := ⟨_, rfl⟩
  have hxV : Ext w V := by subst hV; go_grown
  have hsV : V.heap.size = w.heap.size + 1 := by subst hV; simp
  have o1 : V.cell? ⟨w.heap.size, 0, none⟩ = some (.slice none 0 0) := by subst hV; go_simp
  have f1 : V.frozen? ⟨w.heap.size, 0, none⟩ = false := by subst hV; go_simp
  obtain ⟨B, hB⟩ : ∃ B, B = w.heap.size := ⟨_, rfl⟩
  rw [← hB] at o1 f1 hsV hbo
  refine callsFw.1 (callsIn_of_wp_marks (n := 0) Try.func62 rfl trivial (wpIn_wide.2 ?_))
  simp only [Try.ntmps62, List.size_toArray, List.length_cons, List.length_nil, Nat.reduceAdd, Nat.reduceSub, Array.replicate_succ, Array.replicate_zero, List.push_toArray, List.append_toArray, List.nil_append, List.cons_append]
  go_wp2_with fail
  rw [← hV, ← hB]
  have HB := Lib.hid hB; clear hV hB
  refine (wpIn_wide (n := 0)).1 ?_
  refine wpIn_rangeFunc_run (n := 0) (gf := 40) (lb := #[.pointer (some ⟨bo, 0, none⟩)]) (by rfl) (fun _ _ => rfl) (values1_ok l hl bo) (fun x args w h => by obtain ⟨rfl, -⟩ := h; rfl)
    [B] (ApJ B) (fun _ _ _ _ => False) ?hD ?hS0 ?h0 ?hJ ?hJx ?hJe ?hJxe ?body ?done ?stop
  case hD =>
    intro w' hw'
    refine ⟨a, c, (hxV.trans hw').cell h0, fun i hi => ?_⟩
    obtain ⟨z1, z2, b, o, z3, z4⟩ := hl1 i hi
    have hb := cell_lt z4
    simp only at hb
    have hs := hw'.size
    have hB := HB.out
    exact ⟨z1, z2, b, o, z3, ⟨by simp; omega, by omega⟩, (hxV.trans hw').cell z4⟩
  case hS0 => intro b hb; simp at hb; omega
  case h0 => exact ⟨_, o1, f1, World.ownsRow_nil _ _ _ _, rfl⟩
  case hJ =>
    intro w1 w2 s S hne h k
    obtain ⟨v, h1, h2, h3, rfl⟩ := h
    have hBn := hne B (by simp)
    refine ⟨v, k.cell h1 (by simpa using hBn), k.frozen h1 (by simpa using hBn) h2, own_keep h3 fun g hg hlt => k.block g hlt ?_, rfl⟩
    have := hne g (by simp [hg])
    simpa using this
  case hJx => exact fun _ _ _ _ _ _ h _ => h.elim
  case hJe =>
    intro w1 w2 s S h k
    obtain ⟨v, h1, h2, h3, rfl⟩ := h
    exact ⟨v, k.cell h1, k.frozen h1 h2, own_ext h3 k, rfl⟩
  case hJxe => exact fun _ _ _ _ _ h _ => h.elim
  case stop => exact fun _ _ _ _ _ _ h _ => h.elim
  case done =>
    intro W S hm hj hK
    obtain ⟨v, q1, q2, q3, rfl⟩ := hj
    obtain ⟨va, vc, rfl⟩ := own_form q3
    have Hq3 := Lib.hid q3; clear q3
    go_wp2_with fail
    have hD1 : V.heap.size < W.heap.size := (Array.getElem?_eq_some_iff.1 hK).1
    refine leaves_mark (v := .slice va l.length vc) rfl hK (by simp [results, Try.results62, go_sem]) ?_
    have hch2 := chg_putObj W V.heap.size (.deferred none)
    have hDK : ∀ g, (Value.slice va l.length vc).ownBlock = some g → g ≠ V.heap.size := by
      rintro g hg rfl
      rcases Hq3.out.2 with ⟨h1, -⟩ | ⟨g', cap, cur, hv, hg', hh, hr⟩
      · rw [h1] at hg; cases hg
      · rw [hv] at hg
        injection hg with hg
        simp only at hg
        subst hg
        rw [hK] at hh
        cases hh
    refine ⟨⟨_, rfl, ?_⟩, ?_⟩
    · have h4 := own_keep Hq3.out fun g hg hlt => hch2.block g hlt (by simpa using hDK g hg)
      have hB := HB.out
      rw [hB] at h4
      refine ⟨h4.1, h4.2.imp id ?_⟩
      rintro ⟨g, cap, cur, h5, h6, h7⟩
      exact ⟨g, cap, cur, h5, by omega, h7⟩
    · exact Chg.ext hxV ((hm.chg.mono (T := [B, V.heap.size]) (by simp)).trans (hch2.mono (by simp))) (by have hB := HB.out; simp; omega)
  case body =>
    intro pre x rest hitems args W S mm hG hj hSne hVl
    obtain ⟨rfl, hx1, hx2⟩ := hG
    obtain ⟨v, q1, q2, q3, rfl⟩ := hj
    obtain ⟨va, vc, rfl⟩ := own_form q3
    have hpl : pre.length + 1 ≤ 1048576 := by
      have h2 : l.length = pre.length + (rest.length + 1) := by rw [hitems]; simp
      omega
    clear hitems
    have hBn := hSne B (by simp)
    have hgn : ∀ g, (Value.slice va pre.length vc).ownBlock = some g → g ≠ V.heap.size + 1 := fun g hg => (hSne g (by simp [hg])).2
    have Hq3 := Lib.hid q3; clear q3 hSne
    gi_wp2
    intro V2 hc2 hcell2
    refine ⟨Mv.refl _ _, ?_⟩
    replace q2 := hc2.frozen q1 (by simpa using hBn.2) q2
    replace q1 := hcell2 _ _ q1
    have h4 := own_keep Hq3.out fun g hg hlt => hc2.block g hlt (by simpa using hgn g hg)
    have hown : (V2.alloc (.cells #[.int .i64 x] 3)).ownsRow (B + 1) 3 1 (.slice va pre.length vc) pre.length (pre.map (Value.int .i64)) := own_ext h4 (ext_alloc _ _)
    have hsz := hc2.size
    have hbz : B + 1 ≤ (V2.alloc (.cells #[.int .i64 x] 3)).heap.size := by simp; omega
    have HO := Lib.hid (And.intro h4 hown); clear h4 hown Hq3
    have hA := ext_alloc V2 (.cells #[.int .i64 x] 3)
    gi_wp2_with (gi_at_builtin; refine wpListIn_append_own_at _ rfl _ _ 25 rfl (B + 1) 3 i0 (.int .i64 0) 1 8 Try.underlying25 hi0 hz0 hz1' hz2' rfl (by decide) (.slice va pre.length vc) pre.length _ rfl HO.out.2 ⟨V2.heap.size, 0, none⟩ 1 1 [.int .i64 x] rfl rfl (cell_one_new _ _ _) (by intro u hu; simp at hu; subst hu; rfl) (by unfold maxLen; omega) (by omega) hbz ?_; intro v' w1 hown' hgrow hnil hloc; clear hnil; obtain ⟨va', vc', rfl⟩ := own_form hown'; (have hfar : (some B) ≠ (Value.slice va pre.length vc).ownBlock := fun e => by have := (own_lt HO.out.1 e.symm).1; omega); (have hlt5 : B < (V2.alloc (.cells #[.int .i64 x] 3)).heap.size := by simp; omega); (have y1 := (hgrow.cell_far ⟨B, 0, none⟩ hlt5 hfar).trans (hA.cell q1)); (have yf := (hgrow.frozen_far ⟨B, 0, none⟩ hlt5 hfar).trans (hA.frozen q1 q2)); (have HN := Lib.hid (And.intro hown' (And.intro hgrow hloc))); clear hown' hgrow hloc hfar)
    obtain ⟨hown', hgrow, hloc⟩ := HN.out
    have hchB : Chg [B] w1 (w1.setCell ⟨B, 0, none⟩ (.slice va' (pre.length + 1) vc')) := (Chg.refl _ _).setCell (p := ⟨B, 0, none⟩) _ (.inl (by simp))
    refine ⟨B :: (Value.slice va' (pre.length + 1) vc').ownBlock.toList, ⟨?_, ?_⟩, ?_⟩
    · refine ((Chg.of_ext hA).trans (Chg.of_grown hgrow fun g hg => .inl ?_)).trans (hchB.mono (by simp))
      simp [hg]
    · intro b hb
      rcases List.mem_cons.1 hb with rfl | hb
      · exact .inl (by simp)
      · rw [Option.mem_toList] at hb
        rcases hloc with h | h
        · rw [h] at hb; exact .inl (by simp [hb])
        · have h1 := own_lt hown' hb
          rw [h] at hb
          injection hb with hb
          refine .inr ⟨?_, ?_⟩
          · rw [← hb]; simp
          · have := hchB.size; omega
    · refine ⟨_, World.cell?_setCell_same _ _ _ y1, (World.frozen?_setCell _ _ _ _).trans yf, ?_, rfl⟩
      have h5 := own_chg hown' hchB (by simp)
      simpa using h5
end Go.Proofs.Ytdmiphdohfcbeaa
