/- formula.writer: unit, form, from what form does on the parts. Conditions: formulas that may be, of at most 4194304 parts; the text is shorter than 2^47. -/
import Derived.Test.YtnclgkdpafhogaaGreatQ17
import Derived.Test.YtnclgkdpafhogaaGreatQ24
namespace Go.Proofs.YtnclgkdpafhogaaGreat
open Go.ChangeShapes Go.WideShapes Go.ChangeAt Go.RowKit
/-- form writes a formula's text -/
def FormW (f : Fm) : Prop := f.may = true → f.size ≤ 4194304 → ∀ (P : Nat → Prop) (w0 w : World) (b : Nat) (acc : List UInt8) (x y z u : Value), IsFm P w0 x y z u f → Ext w0 w → w0.heap.size ≤ b → b < w.heap.size →
    BldT 84 b acc w → acc.length + f.text.length ≤ 140737488355328 → Calls Tryz.prog 46 #[.pointer (some ⟨b, 0, none⟩), .agg #[x, y, z, u]] w (Writes b acc f.text w)

theorem IsFm.cells {P : Nat → Prop} {w : World} {x y z u : Value} {f : Fm} (ht : IsFm P w x y z u f) : ∃ b1 c1 b2 c2 b3 c3, x = .int .i64 f.op ∧ y = .slice b1 f.vars.length c1 ∧ z = .slice b2 f.terms.length c2 ∧ u = .slice b3 f.args.length c3 := by
  obtain ⟨b1, c1, b2, c2, b3, c3, rfl, rfl, rfl, rfl, -⟩ := ht.form
  exact ⟨_, _, _, _, _, _, rfl, rfl, rfl, rfl⟩

set_option maxHeartbeats 4000000 in
set_option maxRecDepth 100000 in
theorem wUnit_any {f : Fm} (hF : FormW f) (hm : f.may = true) (hs : f.size ≤ 4194304) {P : Nat → Prop} {w0 w : World} {b : Nat} {acc : List UInt8} {x y z u : Value} (ht : IsFm P w0 x y z u f) (hx0 : Ext w0 w) (hb0 : w0.heap.size ≤ b) (hbw : b < w.heap.size)
    (hbld : BldT 84 b acc w) (hlen : acc.length + (unitW f.op f.text).length ≤ 140737488355328) :
    Calls Tryz.prog 91 #[.pointer (some ⟨b, 0, none⟩), .agg #[x, y, z, u]] w (Writes b acc (unitW f.op f.text) w) := by
  have HF := Lib.hid (fun w' (hx : Ext w0 w') (hb : b < w'.heap.size) (acc' : List UInt8) (hbl : BldT 84 b acc' w') (hac : acc'.length + f.text.length ≤ 140737488355328) => hF hm hs P w0 w' b acc' x y z u ht hx hb0 hb hbl hac)
  obtain ⟨b1, c1, b2, c2, b3, c3, rfl, rfl, rfl, rfl⟩ := ht.cells
  clear ht
  obtain ⟨W, hW⟩ : ∃ W, W = w.alloc (.cells #[.int .i64 f.op, .slice b1 f.vars.length c1, .slice b2 f.terms.length c2, .slice b3 f.args.length c3] 29) := ⟨_, rfl⟩
  have hfW : BFr b w W := by rw [hW]; exact (BFr.refl b w).alloc' (Nat.le_of_lt hbw) _
  have hbW : BldT 84 b acc W := by rw [hW]; exact hbld.alloc _
  have hoW : W.heap[w.heap.size]? = some (.cells #[.int .i64 f.op, .slice b1 f.vars.length c1, .slice b2 f.terms.length c2, .slice b3 f.args.length c3] 29 (0, 0)) := by rw [hW]; exact objNew _ _
  have hsW : b < W.heap.size := by rw [hW]; simp; omega
  have hx0W : Ext w0 W := hfW.ext' hx0 hb0
  have k0 := cell_obj' hoW 0
  have k1 := cell_obj' hoW 1
  have k2 := cell_obj' hoW 2
  have k3 := cell_obj' hoW 3
  simp only [List.getElem?_toArray, List.getElem?_cons_succ, List.getElem?_cons_zero] at k0 k1 k2 k3
  have HT := Lib.hid (show unitW f.op f.text = if 6 ≤ f.op ∧ f.op ≤ 10 then 40 :: (f.text ++ [41]) else f.text from rfl)
  rw [HT.out] at hlen
  generalize unitW f.op f.text = TT at HT ⊢
  generalize f.text = tt at *
  generalize f.op = o at *
  by_cases h6 : 6 ≤ o ∧ o ≤ 10
  · replace HT := Lib.hid (HT.out.trans (if_pos h6))
    rw [if_pos h6] at hlen
    simp only [List.length_cons, List.length_append, List.length_nil] at hlen
    obtain ⟨h1, h2⟩ := h6
    have g1 : ¬ o < 6 := by omega
    have g2 : ¬ 10 < o := by omega
    have q1 : acc.length + 1 ≤ 140737488355328 := by omega
    have q2 : (acc ++ [40]).length + tt.length ≤ 140737488355328 := by simp only [List.length_append, List.length_cons, List.length_nil]; omega
    have q3 : (acc ++ [40] ++ tt).length + 1 ≤ 140737488355328 := by simp only [List.length_append, List.length_cons, List.length_nil]; omega
    clear hlen h1 h2
    go_enter Tryz.func91, Tryz.ntmps91
    go_upto_region 1 with fail
    rw [← hW]
    clear hW
    go_wp2_with (first
      | (go_at_call 140; first
          | (refine (writeByteT_any wb_writer b _ 41 _ hb4 q3 (by omega)).mono ?_; rintro e w5 ⟨rfl, hb5, hf5⟩)
          | (refine (writeByteT_any wb_writer b acc 40 _ hbW q1 (Nat.le_of_lt hsW)).mono ?_; rintro e w3 ⟨rfl, hb3, hf3⟩; have hoW3 := hf3.obj hoW (by omega) (by decide); have m0 := cell_obj' hoW3 0; have m1 := cell_obj' hoW3 1; have m2 := cell_obj' hoW3 2; have m3 := cell_obj' hoW3 3; simp only [List.getElem?_toArray, List.getElem?_cons_succ, List.getElem?_cons_zero] at m0 m1 m2 m3; have hs3 := hf3.below.size; have hx3 := hf3.ext' hx0W hb0))
      | (go_at_call 46; refine (HF.out w3 hx3 (by omega) _ hb3 q2).mono ?_; rintro e w4 ⟨rfl, hb4, hf4⟩; have hs4 := hf4.below.size))
    go_returns
    exact ⟨rfl, by rw [HT.out]; simpa [List.append_assoc] using hb5, hfW.trans ((hf3.trans hf4).trans hf5)⟩
  · replace HT := Lib.hid (HT.out.trans (if_neg h6))
    rw [if_neg h6] at hlen
    have hc : o < 6 ∨ (¬ o < 6 ∧ 10 < o) := by omega
    clear h6
    rcases hc with g1 | ⟨g1, g2⟩
    all_goals
      go_enter Tryz.func91, Tryz.ntmps91
      go_upto_region 1 with fail
      rw [← hW]
      clear hW
      go_wp2_with (go_at_call 46; refine (HF.out W hx0W hsW _ hbW hlen).mono ?_; rintro e w4 ⟨rfl, hb4, hf4⟩)
      go_returns
      exact ⟨rfl, by rw [HT.out]; exact hb4, hfW.trans hf4⟩

end Go.Proofs.YtnclgkdpafhogaaGreat
