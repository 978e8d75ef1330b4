/- What syllogismlaw02.sig and wakes return; the law TermChecks over terms. -/
import Derived.Test.YtoidhdcbemmfhaaDoorComp
import Derived.Test.YtoidhdcbemmfhaaDoorAt
import Derived.Test.YtoidhdcbemmfhaaDoorRefText
namespace Go.Proofs.YtoidhdcbemmfhaaDoor
open Go.ChangeShapes Go.WideShapes Go.ChangeAt Go.RowKit

def sig02 : List Sy := [⟨⟨#[36, 116, 114, 117, 101]⟩, 0, true⟩, ⟨⟨#[97]⟩, 0, false⟩, ⟨⟨#[102]⟩, 2, false⟩, ⟨⟨#[112]⟩, 1, true⟩]
def tm02 : Tm := .mk 3 [.mk 2 [.mk (-2) [], .mk 1 []]]
theorem sig02_check : sigCheck sig02 = 0 := by decide +kernel
theorem tm02_check : termCheck sig02 tm02 = 0 := by decide +kernel
theorem tm02_check2 : termCheck sig02 (.mk 2 []) = 2 := by decide +kernel
theorem tm02_text : termText sig02 tm02 = [112, 40, 102, 40, 88, 49, 44, 97, 41, 41] := by
  unfold termText
  rw [if_pos tm02_check]
  have h : Lib.decDigits 1 = [49] := decDigits_last 1 (by omega)
  simp [tm02, Tm.text, Tm.textArgs, nameAt, sig02, h]
theorem tm02_at : tm02.at [0, 1] = some (.mk 1 []) := by
  simp [tm02, Tm.at, Tm.kid, Tm.ks]
theorem tm02_cmp : Tm.cmp (.mk (-1) []) (.mk (-2) []) = -1 := by
  simp [Tm.cmp, topCmp, Lib.compareInt]
theorem tm02_size : tm02.size = 4 := by simp [tm02, Tm.size, Tm.sizes]

theorem sig02_syms {w : World} {b o : Nat} (h : ∀ i (hi : i < 4), w.cell? ⟨b, o + i * 3, none⟩ = some (.string (sig02[i]'hi).name) ∧ w.cell? ⟨b, o + i * 3 + 1, none⟩ = some (.int .i64 (sig02[i]'hi).arity) ∧ w.cell? ⟨b, o + i * 3 + 2, none⟩ = some (.bool (sig02[i]'hi).pred)) : IsSyms w (some ⟨b, o, none⟩) sig02 := by
  intro i hi
  refine ⟨?_, b, o, rfl, h i hi⟩
  have hi' : i < 4 := hi
  have hall : ∀ s ∈ sig02, s.name.size ≤ 1048576 ∧ -9223372036854775808 ≤ s.arity ∧ s.arity ≤ 9223372036854775807 := by decide +kernel
  exact hall _ (List.getElem_mem hi)

set_option maxHeartbeats 1000000 in
set_option maxRecDepth 100000 in
theorem sig_any (w : World) : Calls Tryd.prog 59 #[] w fun e w' => (∃ a, e = .returned (.agg #[.slice a 4 4]) ∧ IsSyms w' a sig02) ∧ Ext w w' := by
  go_enter Tryd.func59, Tryd.ntmps59
  go_wp2_with fail
  obtain ⟨W0, hW0⟩ : ∃ W0, W0 = w.alloc (.cells #[.slice (some ⟨w.heap.size + 1, 0, none⟩) 4 4] 24) := ⟨_, rfl⟩
  have hs0 : W0.heap.size = w.heap.size + 1 := by subst hW0; simp
  have k0 : W0.cell? ⟨w.heap.size, 0, none⟩ = some (.slice (some ⟨w.heap.size + 1, 0, none⟩) 4 4) := by subst hW0; go_simp
  have hx0 : Ext w W0 := by subst hW0; go_grown
  rw [← hW0]
  clear hW0
  obtain ⟨W, hW⟩ : ∃ W, W = W0.alloc (.cells #[.string ⟨#[36, 116, 114, 117, 101]⟩, .int .i64 0, .bool true, .string ⟨#[97]⟩, .int .i64 0, .bool false, .string ⟨#[102]⟩, .int .i64 2, .bool false, .string ⟨#[112]⟩, .int .i64 1, .bool true] 38) := ⟨_, rfl⟩
  have hx : Ext W0 W := by subst hW; go_grown
  have hc : ∀ i (hi : i < 4), W.cell? ⟨w.heap.size + 1, 0 + i * 3, none⟩ = some (.string (sig02[i]'hi).name) ∧ W.cell? ⟨w.heap.size + 1, 0 + i * 3 + 1, none⟩ = some (.int .i64 (sig02[i]'hi).arity) ∧ W.cell? ⟨w.heap.size + 1, 0 + i * 3 + 2, none⟩ = some (.bool (sig02[i]'hi).pred) := by
    intro i hi
    rw [← hs0]
    subst hW
    have : i = 0 ∨ i = 1 ∨ i = 2 ∨ i = 3 := by omega
    rcases this with rfl | rfl | rfl | rfl <;> (refine ⟨?_, ?_, ?_⟩ <;> go_simp <;> rfl)
  rw [← hW]
  clear hW
  have k1 := hx.cell k0
  refine bodyPost_ret (v := .agg #[.slice (some ⟨w.heap.size + 1, 0, none⟩) 4 4]) (by simp [results, Tryd.results59, go_sem, k1]) rfl ?_
  exact ⟨⟨_, rfl, sig02_syms hc⟩, Ext.trans hx0 hx⟩

theorem leaf_isTm (w : World) (n : Int) (h : -9223372036854775808 ≤ n ∧ n ≤ 9223372036854775807) : IsTm w (.int .i64 n) (.slice none 0 0) (.mk n []) := by
  simp only [IsTm, IsTms]; exact ⟨trivial, h.1, h.2, none, 0, rfl, Nat.le_refl _, trivial⟩

set_option maxHeartbeats 1000000 in
set_option maxRecDepth 100000 in
theorem wakes_any (w : World) : Calls Tryd.prog 16 #[] w fun e w' => e = .returned (.bool true) ∧ Ext w w' := by
  have Hsig := Lib.hid sig_any
  obtain ⟨W, hW⟩ : ∃ W, W = (((w.alloc (.cells #[.int .i64 (-2), .slice none 0 0, .int .i64 1, .slice none 0 0] 27)).alloc (.cells #[.int .i64 2, .slice (some ⟨w.heap.size, 0, none⟩) 2 2] 27)).alloc (.cells #[.int .i64 3, .slice (some ⟨w.heap.size + 1, 0, none⟩) 1 1] 27)) := ⟨_, rfl⟩
  have hx : Ext w W := by subst hW; go_grown
  have k1 : W.cell? ⟨w.heap.size, 0, none⟩ = some (.int .i64 (-2)) := by subst hW; go_simp
  have k2 : W.cell? ⟨w.heap.size, 1, none⟩ = some (.slice none 0 0) := by subst hW; go_simp
  have k3 : W.cell? ⟨w.heap.size, 2, none⟩ = some (.int .i64 1) := by subst hW; go_simp
  have k4 : W.cell? ⟨w.heap.size, 3, none⟩ = some (.slice none 0 0) := by subst hW; go_simp
  have k5 : W.cell? ⟨w.heap.size + 1, 0, none⟩ = some (.int .i64 2) := by subst hW; go_simp
  have k6 : W.cell? ⟨w.heap.size + 1, 1, none⟩ = some (.slice (some ⟨w.heap.size, 0, none⟩) 2 2) := by subst hW; go_simp
  have k7 : W.cell? ⟨w.heap.size + 1 + 1, 0, none⟩ = some (.int .i64 3) := by subst hW; go_simp
  have k8 : W.cell? ⟨w.heap.size + 1 + 1, 1, none⟩ = some (.slice (some ⟨w.heap.size + 1, 0, none⟩) 1 1) := by subst hW; go_simp
  have htm : IsTm W (.int .i64 3) (.slice (some ⟨w.heap.size + 1, 0, none⟩) 1 1) tm02 := by
    simp only [tm02, IsTm, IsTms]
    refine ⟨trivial, by omega, by omega, _, 1, rfl, by simp, _, _, _, _, rfl, k5, k6, ⟨rfl, by omega, by omega, _, 2, rfl, by simp, _, _, _, _, rfl, k1, k2, ⟨rfl, by omega, by omega, none, 0, rfl, by simp, trivial⟩, _, _, _, _, rfl, k3, k4, ⟨rfl, by omega, by omega, none, 0, rfl, by simp, trivial⟩, trivial⟩, trivial⟩
  have htx : ∀ w' a, Ext W w' → IsSyms w' a sig02 → Calls Tryd.prog 12 #[.agg #[.slice a 4 4], .agg #[.int .i64 3, .slice (some ⟨w.heap.size + 1, 0, none⟩) 1 1]] w' fun e w'' => e = .returned (.tuple #[.string ⟨#[112, 40, 102, 40, 88, 49, 44, 97, 41, 41]⟩, .int .i64 0]) ∧ Ext w' w'' := by
    intro w' a h1 h2
    have h := text_any sig02 (by decide) tm02 (by rw [tm02_size]; omega) w' a 4 (by decide) (by decide) h2 _ _ (htm.ext h1)
    rw [tm02_text, tm02_check] at h
    exact h
  have hck : ∀ w' a, IsSyms w' a sig02 → Calls Tryd.prog 14 #[.agg #[.slice a 4 4], .agg #[.int .i64 2, .slice none 0 0]] w' fun e w'' => e = .returned (.int .i64 2) ∧ Ext w' w'' := by
    intro w' a h2
    have h := termCheck_any sig02 (by decide) (.mk 2 []) (by simp [Tm.size, Tm.sizes]) w' a 4 (by decide) (by decide) h2 _ _ (leaf_isTm w' 2 (by omega))
    rw [tm02_check2] at h
    exact h
  have hcm : ∀ w', Calls Tryd.prog 17 #[.agg #[.int .i64 (-1), .slice none 0 0], .agg #[.int .i64 (-2), .slice none 0 0]] w' fun e w'' => e = .returned (.int .i64 (-1)) ∧ Ext w' w'' := by
    intro w'
    have h := compare_any (.mk (-1) []) (.mk (-2) []) w' _ _ _ _ (leaf_isTm w' (-1) (by omega)) (leaf_isTm w' (-2) (by omega)) (by simp [Tm.size, Tm.sizes]) (by simp [Tm.size, Tm.sizes])
    rw [tm02_cmp] at h
    exact h
  have hsz : ∀ w', Ext W w' → Calls Tryd.prog 39 #[.agg #[.int .i64 3, .slice (some ⟨w.heap.size + 1, 0, none⟩) 1 1]] w' fun e w'' => e = .returned (.int .i64 4) ∧ Ext w' w'' := by
    intro w' h1
    have h := size_any tm02 w' _ _ (htm.ext h1) (by rw [tm02_size]; omega)
    rw [tm02_size] at h
    exact h
  have hat : ∀ w', Ext W w' → Calls Tryd.prog 20 #[.agg #[.int .i64 3, .slice (some ⟨w.heap.size + 1, 0, none⟩) 1 1], .slice (some ⟨w'.heap.size, 0, none⟩) 2 2] (w'.alloc (.cells #[.int .i64 0, .int .i64 1] 3)) fun e w'' => (∃ a, e = .returned (.tuple #[.agg #[.int .i64 1, .slice a 0 0], .bool true])) ∧ Ext w' w'' := by
    intro w' h1
    have hi : IsInts (w'.alloc (.cells #[.int .i64 0, .int .i64 1] 3)) (some ⟨w'.heap.size, 0, none⟩) [0, 1] := by
      intro i hi
      have hi' : i < 2 := hi
      have : i = 0 ∨ i = 1 := by omega
      rcases this with rfl | rfl
      · exact ⟨by simp, by simp, _, _, rfl, by go_simp⟩
      · exact ⟨by simp, by simp, _, _, rfl, by go_simp⟩
    have h := at_any tm02 [0, 1] _ _ _ _ 2 ((htm.ext h1).ext (ext_alloc w' (.cells #[.int .i64 0, .int .i64 1] 3))) (by rw [tm02_size]; omega) hi (by simp)
    refine h.mono ?_
    rintro e w'' ⟨⟨v, rfl, hv⟩, hx2⟩
    rw [tm02_at] at hv
    obtain ⟨a, rfl, -⟩ := hv
    exact ⟨⟨a, rfl⟩, Ext.trans (ext_alloc _ _) hx2⟩
  have Htx := Lib.hid htx
  have Hck := Lib.hid hck
  have Hcm := Lib.hid hcm
  have Hsz := Lib.hid hsz
  have Hat := Lib.hid hat
  clear htx hck hcm hsz hat htm k1 k2 k3 k4 k5 k6
  go_enter Tryd.func16, Tryd.ntmps16
  go_wp2_with fail
  rw [← hW]
  have hA := Ext.drew (Below.refl W.heap.size W)
  clear hW
  go_region_held3 (fun w' => w'.cell? ⟨w.heap.size + 1 + 1, 0, none⟩ = some (.int .i64 3) ∧ w'.cell? ⟨w.heap.size + 1 + 1, 1, none⟩ = some (.slice (some ⟨w.heap.size + 1, 0, none⟩) 1 1) ∧ Ext W w')
    (((try go_split_ands); refine ⟨?_, ?_, ?_⟩ <;> first | (with_reducible assumption) | exact Below.drew (Below.refl _ _) | exact Ext.drew (by assumption) | exact Ext.drew (ext_alloc _ _) | (apply Ext.cell hw'; (with_reducible assumption)) | exact Ext.trans (by assumption) hw' | exact Ext.frozen hw' (by (with_reducible assumption)) (by (with_reducible assumption)) | (go_keep; done)))
    ((first
      | (go_at_call 59; refine (Hsig.out _).mono ?_; rintro e w' ⟨⟨a1, rfl, hsy⟩, hw'⟩)
      | (go_at_call 12; go_split_ands; refine (Htx.out _ _ (by (with_reducible assumption)) hsy).mono ?_; rintro e w' ⟨rfl, hw'⟩)))
  go_split_ands
  have b1 : w'.cell? ⟨w.heap.size + 1 + 1, 0, none⟩ = some (.int .i64 3) := by with_reducible assumption
  have b2 : w'.cell? ⟨w.heap.size + 1 + 1, 1, none⟩ = some (.slice (some ⟨w.heap.size + 1, 0, none⟩) 1 1) := by with_reducible assumption
  have hE : Ext W w' := by with_reducible assumption
  have hAl := ext_alloc w' (.cells #[.int .i64 0, .int .i64 1] 3)
  go_wp2_with (first
    | (go_at_call 20; refine (Hat.out _ hE).mono ?_; rintro e w2 ⟨⟨a2, rfl⟩, hx2⟩
       have hE2 := Ext.trans hE hx2
       have hB := ext_alloc w2 (.cells #[.int .i64 1, .slice a2 0 0] 27)
       have hE3 := Ext.trans hE2 hB
       have c1 := hB.cell (hx2.cell b1)
       have c2 := hB.cell (hx2.cell b2))
    | (go_at_call 39; refine (Hsz.out _ hE3).mono ?_; rintro e w3 ⟨rfl, hx3⟩)
    | (go_at_call 59; refine (Hsig.out _).mono ?_; rintro e w4 ⟨⟨a4, rfl, hsy4⟩, hx4⟩)
    | (go_at_call 14; refine (Hck.out _ _ hsy4).mono ?_; rintro e w5 ⟨rfl, hx5⟩)
    | (go_at_call 17; refine (Hcm.out _).mono ?_; rintro e w6 ⟨rfl, hx6⟩))
  go_ret
  exact ⟨rfl, Ext.trans hx (Ext.trans hE3 (Ext.trans hx3 (Ext.trans hx4 (Ext.trans hx5 hx6))))⟩
end Go.Proofs.YtoidhdcbemmfhaaDoor
