/- What clause.Alike answers at the law's own two clauses. -/
import Derived.Test.YtoidhdcbemmfhaaDoorMat7
namespace Go.Proofs.YtoidhdcbemmfhaaDoor
open Go.ChangeShapes Go.WideShapes Go.ChangeAt Go.RowKit

set_option maxHeartbeats 2000000 in
set_option maxRecDepth 100000 in
theorem alike_wake (w : World) (ba bb : Nat)
    (r2 : w.cell? ⟨ba, 0, none⟩ = some (.bool false)) (r3 : w.cell? ⟨ba, 1, none⟩ = some (.int .i64 (-1))) (r4 : w.cell? ⟨ba, 2, none⟩ = some (.slice none 0 0)) (r5 : w.cell? ⟨ba, 3, none⟩ = some (.int .i64 1)) (r6 : w.cell? ⟨ba, 4, none⟩ = some (.slice none 0 0))
    (r7 : w.cell? ⟨bb, 0, none⟩ = some (.bool false)) (r8 : w.cell? ⟨bb, 1, none⟩ = some (.int .i64 1)) (r9 : w.cell? ⟨bb, 2, none⟩ = some (.slice none 0 0)) (r10 : w.cell? ⟨bb, 3, none⟩ = some (.int .i64 (-4))) (r11 : w.cell? ⟨bb, 4, none⟩ = some (.slice none 0 0)) :
    Calls Tryd.prog 36 #[.slice (some ⟨ba, 0, none⟩) 1 1, .slice (some ⟨bb, 0, none⟩) 1 1] w fun e w' => e = .returned (.bool true) ∧ Ext w w' := by
  have ha := cell_lt r2
  have hb := cell_lt r7
  simp only at ha hb
  obtain ⟨n, hn⟩ : ∃ n, n = w.heap.size := ⟨_, rfl⟩
  have HN := Lib.hid hn
  clear hn
  have hmk : ∀ w, (Instr.makeSlice 62 (.int .i64 1) (.int .i64 1)).run Tryd.prog w = .ok (.slice (some ⟨w.heap.size, 0, none⟩) 1 1) (w.alloc (.cells #[.bool false] 4)) := fun _ => by kernel_rfl
  obtain ⟨W1, hW1⟩ : ∃ W1, W1 = (((w.alloc (.cells #[.slice (some ⟨ba, 0, none⟩) 1 1] 56)).alloc (.cells #[.slice (some ⟨bb, 0, none⟩) 1 1] 56)).alloc (.cells #[.bool false] 4)).alloc (.cells #[.slice (some ⟨w.heap.size + 1 + 1, 0, none⟩) 1 1] 62) := ⟨_, rfl⟩
  have hx1 : Ext w W1 := by subst hW1; go_grown
  have hs1 : W1.heap.size = w.heap.size + 4 := by subst hW1; simp
  have q0 : W1.cell? ⟨w.heap.size, 0, none⟩ = some (.slice (some ⟨ba, 0, none⟩) 1 1) := by subst hW1; go_simp
  have q1 : W1.cell? ⟨w.heap.size + 1, 0, none⟩ = some (.slice (some ⟨bb, 0, none⟩) 1 1) := by subst hW1; go_simp
  have q2 : W1.cell? ⟨w.heap.size + 1 + 1, 0, none⟩ = some (.bool false) := by subst hW1; go_simp
  have q2f : W1.frozen? ⟨w.heap.size + 1 + 1, 0, none⟩ = false := by subst hW1; go_simp
  have q3 : W1.cell? ⟨w.heap.size + 1 + 1 + 1, 0, none⟩ = some (.slice (some ⟨w.heap.size + 1 + 1, 0, none⟩) 1 1) := by subst hW1; go_simp
  have Hall := Lib.hid (And.intro hx1 (And.intro hs1 (And.intro q0 (And.intro q1 (And.intro q2 (And.intro q2f q3))))))
  clear hx1 hs1 q0 q1 q2 q2f q3
  go_enter Tryd.func36, Tryd.ntmps36
  go_wp2_with fail
  rw [← hW1]
  clear hW1
  refine (new_any W1).mono ?_
  rintro e W2 ⟨rfl, M1, hx2, hs2⟩
  have HM1 := Lib.hid (And.intro M1 (And.intro hx2 hs2))
  clear M1 hx2 hs2
  go_wp2_with fail
  refine (new_any W2).mono ?_
  rintro e W3 ⟨rfl, M2, hx3, hs3⟩
  have HM2 := Lib.hid (And.intro M2 (And.intro hx3 hs3))
  clear M2 hx3 hs3
  go_wp2_with fail
  obtain ⟨hx1, hs1, q0, q1, q2, q2f, q3⟩ := Hall.out
  obtain ⟨M1, hx2, hs2⟩ := HM1.out
  obtain ⟨M2, hx3, hs3⟩ := HM2.out
  have hn := HN.out
  rw [← hn] at hs1 q0 q1 q2 q2f q3 ha hb
  rw [hs1] at M1 hs2
  rw [hs2] at M2 hs3
  simp only [Nat.add_assoc, Nat.reduceAdd] at q1 q2 q2f q3 M1 M2 hs2 hs3
  obtain ⟨W4, hW4⟩ : ∃ W4, W4 = (((W3.alloc (.cells #[.pointer (some ⟨n + 5, 0, none⟩)] 107)).alloc (.cells #[.pointer (some ⟨n + 7, 0, none⟩)] 107)).alloc (.cells #[.int .i64 0] 3)).alloc (.cells #[.func (.func 80) #[] #[.pointer (some ⟨n, 0, none⟩), .pointer (some ⟨n + 1, 0, none⟩), .pointer (some ⟨n + 3, 0, none⟩), .pointer (some ⟨n + 10, 0, none⟩), .pointer (some ⟨n + 8, 0, none⟩), .pointer (some ⟨n + 9, 0, none⟩), .pointer (some ⟨n + 11, 0, none⟩)]] 109) := ⟨_, rfl⟩
  have hx4 : Ext W3 W4 := by subst hW4; go_grown
  have hs4 : W4.heap.size = n + 12 := by subst hW4; simp [hs3]
  have p8 : W4.cell? ⟨n + 8, 0, none⟩ = some (.pointer (some ⟨n + 5, 0, none⟩)) := by subst hW4; rw [← hs3]; go_simp
  have p9 : W4.cell? ⟨n + 9, 0, none⟩ = some (.pointer (some ⟨n + 7, 0, none⟩)) := by subst hW4; rw [show n + 9 = W3.heap.size + 1 by omega]; go_simp
  have p10 : W4.cell? ⟨n + 10, 0, none⟩ = some (.int .i64 0) := by subst hW4; rw [show n + 10 = W3.heap.size + 1 + 1 by omega]; go_simp
  have p10f : W4.frozen? ⟨n + 10, 0, none⟩ = false := by subst hW4; rw [show n + 10 = W3.heap.size + 1 + 1 by omega]; go_simp
  have p11 : W4.cell? ⟨n + 11, 0, none⟩ = some (.func (.func 80) #[] #[.pointer (some ⟨n, 0, none⟩), .pointer (some ⟨n + 1, 0, none⟩), .pointer (some ⟨n + 3, 0, none⟩), .pointer (some ⟨n + 10, 0, none⟩), .pointer (some ⟨n + 8, 0, none⟩), .pointer (some ⟨n + 9, 0, none⟩), .pointer (some ⟨n + 11, 0, none⟩)]) := by subst hW4; rw [show n + 11 = W3.heap.size + 1 + 1 + 1 by omega]; go_simp
  simp only [hs3, hs2, hs1, ← hn, Nat.add_assoc, Nat.reduceAdd]
  rw [← hW4]
  clear hW4
  have hx14 := (hx2.trans hx3).trans hx4
  have hxw := hx1.trans hx14
  refine (from_zero n ba bb ha hb W4 (by omega) ⟨hx14.cell q0, hx14.cell q1, hxw.cell r2, hxw.cell r3, hxw.cell r4, hxw.cell r5, hxw.cell r6, hxw.cell r7, hxw.cell r8, hxw.cell r9, hxw.cell r10, hxw.cell r11, hx14.cell q3, p8, p9, p11⟩ ⟨M1.ext (hx3.trans hx4), by simp [Value.ownBlock], M2.ext hx4, hx14.cell q2, hx14.frozen q2 q2f, p10, p10f⟩).mono ?_
  rintro e W5 ⟨rfl, hc⟩
  have hfin : Ext w W5 := Chg.ext hxw hc (by intro i hi; simp [Wr] at hi; omega)
  clear hx1 hs1 q0 q1 q2 q2f q3 M1 hx2 hs2 M2 hx3 hs3 hx4 hs4 p8 p9 p10 p10f p11 hx14 hxw hn hc
  go_wp2_with fail
  go_ret
  exact ⟨rfl, hfin⟩
end Go.Proofs.YtoidhdcbemmfhaaDoor
