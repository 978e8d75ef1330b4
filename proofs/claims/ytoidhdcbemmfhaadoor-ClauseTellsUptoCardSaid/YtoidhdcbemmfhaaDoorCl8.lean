/- What syllogismlaw11.sig and wakes return. -/
import Derived.Test.YtoidhdcbemmfhaaDoorMat8
import Derived.Test.YtoidhdcbemmfhaaDoorCl5
import Derived.Test.YtoidhdcbemmfhaaDoorCl7
import Derived.Test.YtoidhdcbemmfhaaDoorWakes
namespace Go.Proofs.YtoidhdcbemmfhaaDoor
open Go.ChangeShapes Go.WideShapes Go.ChangeAt Go.RowKit

set_option maxHeartbeats 1000000 in
set_option maxRecDepth 100000 in
theorem sig11_any (w : World) : Calls Tryd.prog 73 #[] w fun e w' => (∃ a, e = .returned (.agg #[.slice a 4 4]) ∧ IsSyms w' a sig02) ∧ Ext w w' := by
  go_enter Tryd.func73, Tryd.ntmps73
  go_wp2_with fail
  obtain ⟨W0, hW0⟩ : ∃ W0, W0 = w.alloc (.cells #[.slice (some ⟨w.heap.size + 1, 0, none⟩) 4 4] 24) := ⟨_, rfl⟩
  have hs0 : W0.heap.size = w.heap.size + 1 := by subst hW0; simp
  have k0 : W0.cell? ⟨w.heap.size, 0, none⟩ = some (.slice (some ⟨w.heap.size + 1, 0, none⟩) 4 4) := by subst hW0; go_simp
  have hx0 : Ext w W0 := by subst hW0; go_grown
  rw [← hW0]
  clear hW0
  obtain ⟨W, hW⟩ : ∃ W, W = W0.alloc (.cells #[.string ⟨#[36, 116, 114, 117, 101]⟩, .int .i64 0, .bool true, .string ⟨#[97]⟩, .int .i64 0, .bool false, .string ⟨#[102]⟩, .int .i64 2, .bool false, .string ⟨#[112]⟩, .int .i64 1, .bool true] 38) := ⟨_, rfl⟩
  have hx : Ext W0 W := by subst hW; go_grown
  have hc : ∀ i (hi : i < 4), W.cell? ⟨w.heap.size + 1, 0 + i * 3, none⟩ = some (.string (sig02[i]'hi).name) ∧ W.cell? ⟨w.heap.size + 1, 0 + i * 3 + 1, none⟩ = some (.int .i64 (sig02[i]'hi).arity) ∧ W.cell? ⟨w.heap.size + 1, 0 + i * 3 + 2, none⟩ = some (.bool (sig02[i]'hi).pred) := by
    intro i hi
    rw [← hs0]
    subst hW
    have : i = 0 ∨ i = 1 ∨ i = 2 ∨ i = 3 := by omega
    rcases this with rfl | rfl | rfl | rfl <;> (refine ⟨?_, ?_, ?_⟩ <;> go_simp <;> rfl)
  rw [← hW]
  clear hW
  have k1 := hx.cell k0
  refine bodyPost_ret (v := .agg #[.slice (some ⟨w.heap.size + 1, 0, none⟩) 4 4]) (by simp [results, Tryd.results73, go_sem, k1]) rfl ?_
  exact ⟨⟨_, rfl, sig02_syms hc⟩, Ext.trans hx0 hx⟩

def tmF : Tm := .mk 2 [.mk (-1) [], .mk 1 []]
def tmP : Tm := .mk 3 [.mk 1 []]
def cl11 : List Lt := [⟨false, tmF, .mk (-1) []⟩, ⟨true, tmP, .mk 0 []⟩]
theorem cl11_check : clauseCheck sig02 cl11 = 0 := by decide +kernel
theorem cl11_nil : clauseCheck sig02 [] = 0 := by decide +kernel
theorem cl11_size : sizeL cl11 = 6 := by simp [sizeL, cl11, Lt.size, tmF, tmP, Tm.size, Tm.sizes, Tm.isTrue, Tm.f, Tm.ks]
theorem tmF_text : termText sig02 tmF = [102, 40, 88, 48, 44, 97, 41] := by
  unfold termText
  rw [if_pos (by decide +kernel)]
  have h : Lib.decDigits 0 = [48] := decDigits_last 0 (by omega)
  simp [tmF, Tm.text, Tm.textArgs, nameAt, sig02, h]
theorem tmX_text : termText sig02 (.mk (-1) []) = [88, 48] := by
  unfold termText
  rw [if_pos (by decide +kernel)]
  have h : Lib.decDigits 0 = [48] := decDigits_last 0 (by omega)
  simp [Tm.text, Tm.textArgs, nameAt, sig02, h]
theorem tmP_text : termText sig02 tmP = [112, 40, 97, 41] := by
  unfold termText
  rw [if_pos (by decide +kernel)]
  simp [tmP, Tm.text, Tm.textArgs, nameAt, sig02]
theorem cl11_text : clauseText sig02 cl11 = [102, 40, 88, 48, 44, 97, 41, 32, 61, 32, 88, 48, 32, 124, 32, 126, 32, 112, 40, 97, 41] := by
  unfold clauseText
  rw [if_pos cl11_check, if_neg (by simp [cl11])]
  simp [clText, cl11, litText, tmF_text, tmX_text, tmP_text, Lib.join, Tm.isTrue, Tm.f, Tm.ks]
theorem cl11_none : clauseText sig02 [] = [36, 102, 97, 108, 115, 101] := by
  unfold clauseText
  rw [if_pos cl11_nil, if_pos (by simp)]
theorem cl11_sized : ∀ x ∈ cl11, x.sized := by
  intro x hx
  simp [cl11] at hx
  rcases hx with rfl | rfl <;> simp [Lt.sized, tmF, tmP, Tm.size, Tm.sizes]

set_option maxHeartbeats 2000000 in
set_option maxRecDepth 100000 in
theorem wakes11_any (w : World) : Calls Tryd.prog 32 #[] w fun e w' => e = .returned (.bool true) ∧ Ext w w' := by
  have Hsig := Lib.hid sig11_any
  obtain ⟨W, hW⟩ : ∃ W, W = ((((w.alloc (.cells #[.int .i64 (-1), .slice none 0 0, .int .i64 1, .slice none 0 0] 27)).alloc (.cells #[.int .i64 2, .slice (some ⟨w.heap.size, 0, none⟩) 2 2] 27)).alloc (.cells #[.int .i64 1, .slice none 0 0] 27)).alloc (.cells #[.int .i64 3, .slice (some ⟨w.heap.size + 1 + 1, 0, none⟩) 1 1] 27)).alloc (.cells #[.bool false, .int .i64 2, .slice (some ⟨w.heap.size, 0, none⟩) 2 2, .int .i64 (-1), .slice none 0 0, .bool true, .int .i64 3, .slice (some ⟨w.heap.size + 1 + 1, 0, none⟩) 1 1, .int .i64 0, .slice none 0 0] 65) := ⟨_, rfl⟩
  have hx : Ext w W := by subst hW; go_grown
  have k1 : W.cell? ⟨w.heap.size, 0, none⟩ = some (.int .i64 (-1)) := by subst hW; go_simp
  have k2 : W.cell? ⟨w.heap.size, 1, none⟩ = some (.slice none 0 0) := by subst hW; go_simp
  have k3 : W.cell? ⟨w.heap.size, 2, none⟩ = some (.int .i64 1) := by subst hW; go_simp
  have k4 : W.cell? ⟨w.heap.size, 3, none⟩ = some (.slice none 0 0) := by subst hW; go_simp
  have k5 : W.cell? ⟨w.heap.size + 1 + 1, 0, none⟩ = some (.int .i64 1) := by subst hW; go_simp
  have k6 : W.cell? ⟨w.heap.size + 1 + 1, 1, none⟩ = some (.slice none 0 0) := by subst hW; go_simp
  have htf : IsTm W (.int .i64 2) (.slice (some ⟨w.heap.size, 0, none⟩) 2 2) tmF := by
    simp only [tmF, IsTm, IsTms]
    refine ⟨trivial, by omega, by omega, _, 2, rfl, by simp, _, _, _, _, rfl, k1, k2, ⟨rfl, by omega, by omega, none, 0, rfl, by simp, trivial⟩, _, _, _, _, rfl, k3, k4, ⟨rfl, by omega, by omega, none, 0, rfl, by simp, trivial⟩, trivial⟩
  have htp : IsTm W (.int .i64 3) (.slice (some ⟨w.heap.size + 1 + 1, 0, none⟩) 1 1) tmP := by
    simp only [tmP, IsTm, IsTms]
    refine ⟨trivial, by omega, by omega, _, 1, rfl, by simp, _, _, _, _, rfl, k5, k6, ⟨rfl, by omega, by omega, none, 0, rfl, by simp, trivial⟩, trivial⟩
  have hcl : IsLits W (some ⟨w.heap.size + 1 + 1 + 1 + 1, 0, none⟩) cl11 := by
    intro i hi
    have hi' : i < 2 := hi
    have : i = 0 ∨ i = 1 := by omega
    rcases this with rfl | rfl
    · refine ⟨_, _, some ⟨w.heap.size, 0, none⟩, 2, none, 0, rfl, ?_, ?_, ?_, ?_, ?_, htf, leaf_isTm W (-1) (by omega)⟩ <;> (subst hW; go_simp <;> rfl)
    · refine ⟨_, _, some ⟨w.heap.size + 1 + 1, 0, none⟩, 1, none, 0, rfl, ?_, ?_, ?_, ?_, ?_, htp, leaf_isTm W 0 (by omega)⟩ <;> (subst hW; go_simp <;> rfl)
  have htx : ∀ w' a, Ext W w' → IsSyms w' a sig02 → Calls Tryd.prog 28 #[.agg #[.slice a 4 4], .slice (some ⟨w.heap.size + 1 + 1 + 1 + 1, 0, none⟩) 2 2] w' fun e w'' => e = .returned (.tuple #[.string ⟨#[102, 40, 88, 48, 44, 97, 41, 32, 61, 32, 88, 48, 32, 124, 32, 126, 32, 112, 40, 97, 41]⟩, .int .i64 0]) ∧ Ext w' w'' := by
    intro w' a h1 h2
    have h := clText_any sig02 (by decide) cl11 cl11_sized (by decide) w' a 4 (by decide) (by decide) h2 _ 2 (hcl.ext h1)
    rw [cl11_text, cl11_check] at h
    exact h
  have htn : ∀ w' a, IsSyms w' a sig02 → Calls Tryd.prog 28 #[.agg #[.slice a 4 4], .slice none 0 0] w' fun e w'' => e = .returned (.tuple #[.string ⟨#[36, 102, 97, 108, 115, 101]⟩, .int .i64 0]) ∧ Ext w' w'' := by
    intro w' a h2
    have h := clText_any sig02 (by decide) [] (by simp) (by decide) w' a 4 (by decide) (by decide) h2 none 0 (fun i hi => absurd hi (by simp))
    rw [cl11_none, cl11_nil] at h
    exact h
  have hsz : ∀ w', Ext W w' → Calls Tryd.prog 74 #[.slice (some ⟨w.heap.size + 1 + 1 + 1 + 1, 0, none⟩) 2 2] w' fun e w'' => e = .returned (.int .i64 6) ∧ Ext w' w'' := by
    intro w' h1
    have h := clSize_any cl11 cl11_sized (by decide) w' _ 2 (hcl.ext h1)
    rw [cl11_size] at h
    exact h
  have hal : ∀ w', Calls Tryd.prog 36 #[.slice (some ⟨w'.heap.size, 0, none⟩) 1 1, .slice (some ⟨w'.heap.size + 1, 0, none⟩) 1 1] ((w'.alloc (.cells #[.bool false, .int .i64 (-1), .slice none 0 0, .int .i64 1, .slice none 0 0] 65)).alloc (.cells #[.bool false, .int .i64 1, .slice none 0 0, .int .i64 (-4), .slice none 0 0] 65)) fun e w'' => e = .returned (.bool true) ∧ Ext w' w'' := by
    intro w'
    obtain ⟨V, hV⟩ : ∃ V, V = (w'.alloc (.cells #[.bool false, .int .i64 (-1), .slice none 0 0, .int .i64 1, .slice none 0 0] 65)).alloc (.cells #[.bool false, .int .i64 1, .slice none 0 0, .int .i64 (-4), .slice none 0 0] 65) := ⟨_, rfl⟩
    rw [← hV]
    have hxv : Ext w' V := by subst hV; go_grown
    refine (alike_wake V w'.heap.size (w'.heap.size + 1) ?_ ?_ ?_ ?_ ?_ ?_ ?_ ?_ ?_ ?_).mono ?_
    iterate 10 (subst hV; go_simp)
    rintro e w'' ⟨rfl, h⟩
    exact ⟨rfl, hxv.trans h⟩
  have Htx := Lib.hid htx
  have Htn := Lib.hid htn
  have Hsz := Lib.hid hsz
  have Hal := Lib.hid hal
  clear htx htn hsz hal htf htp hcl k1 k2 k3 k4 k5 k6
  go_enter Tryd.func32, Tryd.ntmps32
  go_wp2_with fail
  rw [← hW]
  clear hW
  go_wp2_with (first
    | (go_at_call 28; with_reducible refine (Htx.out _ _ hx1 hs1).mono ?_; rintro e w2 ⟨rfl, hx2⟩; have hx12 := hx1.trans hx2)
    | (go_at_call 28; with_reducible refine (Htn.out _ _ hs1).mono ?_; rintro e w4 ⟨rfl, hx4⟩; have hx14 := (hx12.trans hx1).trans hx4)
    | (go_at_call 73; refine (Hsig.out _).mono ?_; rintro e w1 ⟨⟨a1, rfl, hs1⟩, hx1⟩)
    | (go_at_call 74; with_reducible refine (Hsz.out _ hx14).mono ?_; rintro e w5 ⟨rfl, hx5⟩)
    | (go_at_call 36; with_reducible refine (Hal.out _).mono ?_; rintro e w6 ⟨rfl, hx6⟩))
  go_ret
  exact ⟨rfl, hx.trans ((hx14.trans hx5).trans hx6)⟩
end Go.Proofs.YtoidhdcbemmfhaaDoor
