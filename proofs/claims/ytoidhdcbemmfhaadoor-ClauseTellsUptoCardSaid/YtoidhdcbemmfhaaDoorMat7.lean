/- The outermost call of Alike's function at the law's own two clauses. -/
import Derived.Test.YtoidhdcbemmfhaaDoorMat6
import Derived.Test.YtoidhdcbemmfhaaDoorSegRegion
namespace Go.Proofs.YtoidhdcbemmfhaaDoor
open Go.ChangeShapes Go.WideShapes Go.ChangeAt Go.RowKit
attribute [local go_sem] undef Oper.quiet Oper.quietAt Oper.quietUpon

theorem index_two (a0 a1 a2 a3 a4 b0 b1 b2 b3 b4 : Value) (w : World) :
    (Instr.index 111 (.agg #[a0, a1, a2, a3, a4, b0, b1, b2, b3, b4]) (.int .i64 0)).run Tryd.prog w = .ok (.agg #[a0, a1, a2, a3, a4]) w ∧
    (Instr.index 111 (.agg #[a0, a1, a2, a3, a4, b0, b1, b2, b3, b4]) (.int .i64 1)).run Tryd.prog w = .ok (.agg #[b0, b1, b2, b3, b4]) w := by
  have h1 := Tryd.isAgg65
  have h2 := Tryd.sizeOf65
  constructor <;> simp [Instr.index, asIntOf, run_underlying (Tryd.underlying111), part, h1, h2, Result.andThen]

/-- what stands in memory when Alike's function is called first, and is not written -/
structure Held (n ba bb : Nat) (w : World) : Prop where
  r0 : w.cell? ⟨n, 0, none⟩ = some (.slice (some ⟨ba, 0, none⟩) 1 1)
  r1 : w.cell? ⟨n + 1, 0, none⟩ = some (.slice (some ⟨bb, 0, none⟩) 1 1)
  r2 : w.cell? ⟨ba, 0, none⟩ = some (.bool false)
  r3 : w.cell? ⟨ba, 1, none⟩ = some (.int .i64 (-1))
  r4 : w.cell? ⟨ba, 2, none⟩ = some (.slice none 0 0)
  r5 : w.cell? ⟨ba, 3, none⟩ = some (.int .i64 1)
  r6 : w.cell? ⟨ba, 4, none⟩ = some (.slice none 0 0)
  r7 : w.cell? ⟨bb, 0, none⟩ = some (.bool false)
  r8 : w.cell? ⟨bb, 1, none⟩ = some (.int .i64 1)
  r9 : w.cell? ⟨bb, 2, none⟩ = some (.slice none 0 0)
  r10 : w.cell? ⟨bb, 3, none⟩ = some (.int .i64 (-4))
  r11 : w.cell? ⟨bb, 4, none⟩ = some (.slice none 0 0)
  r12 : w.cell? ⟨n + 3, 0, none⟩ = some (.slice (some ⟨n + 2, 0, none⟩) 1 1)
  r13 : w.cell? ⟨n + 8, 0, none⟩ = some (.pointer (some ⟨n + 5, 0, none⟩))
  r14 : w.cell? ⟨n + 9, 0, none⟩ = some (.pointer (some ⟨n + 7, 0, none⟩))
  r15 : w.cell? ⟨n + 11, 0, none⟩ = some (.func (.func 80) #[] #[.pointer (some ⟨n, 0, none⟩), .pointer (some ⟨n + 1, 0, none⟩), .pointer (some ⟨n + 3, 0, none⟩), .pointer (some ⟨n + 10, 0, none⟩), .pointer (some ⟨n + 8, 0, none⟩), .pointer (some ⟨n + 9, 0, none⟩), .pointer (some ⟨n + 11, 0, none⟩)])
/-- what is written -/
def Wr (n : Nat) : List Nat := [n + 2, n + 10, n + 4, n + 5, n + 6, n + 7]
theorem Held.chg {n ba bb : Nat} {w w' : World} (h : Held n ba bb w) (ha : ba < n) (hb : bb < n) (hx : Chg (Wr n) w w') : Held n ba bb w' := by
  refine ⟨hx.cell h.r0 (by simp [Wr]), hx.cell h.r1 (by simp [Wr]), hx.cell h.r2 (by simp [Wr]; omega), hx.cell h.r3 (by simp [Wr]; omega), hx.cell h.r4 (by simp [Wr]; omega), hx.cell h.r5 (by simp [Wr]; omega), hx.cell h.r6 (by simp [Wr]; omega), hx.cell h.r7 (by simp [Wr]; omega), hx.cell h.r8 (by simp [Wr]; omega), hx.cell h.r9 (by simp [Wr]; omega), hx.cell h.r10 (by simp [Wr]; omega), hx.cell h.r11 (by simp [Wr]; omega), hx.cell h.r12 (by simp [Wr]), hx.cell h.r13 (by simp [Wr]), hx.cell h.r14 (by simp [Wr]), hx.cell h.r15 (by simp [Wr])⟩

/-- the matchers, the row of what is used, the count -/
structure Live (n : Nat) (w : World) (t : Int) (v1 : Value) : Prop where
  m1 : Mt w (n + 6) (n + 5) (n + 4) #[] [] v1
  o1 : ∀ k, v1.ownBlock = some k → n + 12 ≤ k
  m2 : Mt w (n + 8) (n + 7) (n + 6) #[] [] (.slice none 0 0)
  u : w.cell? ⟨n + 2, 0, none⟩ = some (.bool false)
  uf : w.frozen? ⟨n + 2, 0, none⟩ = false
  c : w.cell? ⟨n + 10, 0, none⟩ = some (.int .i64 t)
  cf : w.frozen? ⟨n + 10, 0, none⟩ = false
theorem Live.ext {n : Nat} {w w' : World} {t : Int} {v1 : Value} (h : Live n w t v1) (hx : Ext w w') : Live n w' t v1 :=
  ⟨h.m1.ext hx, h.o1, h.m2.ext hx, hx.cell h.u, hx.frozen h.u h.uf, hx.cell h.c, hx.frozen h.c h.cf⟩

theorem Held.ext' {n ba bb : Nat} {w w' : World} (h : Held n ba bb w) (hx : Ext w w') : Held n ba bb w' :=
  ⟨hx.cell h.r0, hx.cell h.r1, hx.cell h.r2, hx.cell h.r3, hx.cell h.r4, hx.cell h.r5, hx.cell h.r6, hx.cell h.r7, hx.cell h.r8, hx.cell h.r9, hx.cell h.r10, hx.cell h.r11, hx.cell h.r12, hx.cell h.r13, hx.cell h.r14, hx.cell h.r15⟩
theorem back_zero (w : World) (B g bm : Nat) (es : Array MapEntry) (v : Value) (h : Mt w B g bm es [] v) :
    Calls Tryd.prog 84 #[.pointer (some ⟨g, 0, none⟩), .int .i64 0] w fun e w' => e = .returned (.tuple #[]) ∧ Mt w' B g bm es [] v ∧ Chg [g] w w' := by
  have h1 := back_none w B g bm es [] v h (by simp)
  simpa using h1
theorem not_own {x : Nat} {l : List Nat} {v : Value} (h1 : x ∉ l) (h2 : ∀ k, v.ownBlock = some k → x ≠ k) : x ∉ l ++ ownL v := by
  intro hm
  rcases List.mem_append.1 hm with h | h
  · exact h1 h
  · unfold ownL at h
    split at h
    · rename_i k hk; simp at h; exact h2 k hk h
    · simp at h

set_option maxHeartbeats 4000000 in
set_option maxRecDepth 100000 in
theorem from_zero (n ba bb : Nat) (ha : ba < n) (hb : bb < n) (w : World) (hs : n + 12 ≤ w.heap.size) (hH : Held n ba bb w) (hL : Live n w 0 (.slice none 0 0)) :
    Calls Tryd.prog 80 #[.int .i64 0, .pointer (some ⟨n, 0, none⟩), .pointer (some ⟨n + 1, 0, none⟩), .pointer (some ⟨n + 3, 0, none⟩), .pointer (some ⟨n + 10, 0, none⟩), .pointer (some ⟨n + 8, 0, none⟩), .pointer (some ⟨n + 9, 0, none⟩), .pointer (some ⟨n + 11, 0, none⟩)] w fun e w' => e = .returned (.bool true) ∧ Chg (Wr n) w w' := by
  have r0 := hH.r0
  have r1 := hH.r1
  have r2 := hH.r2
  have r3 := hH.r3
  have r4 := hH.r4
  have r5 := hH.r5
  have r6 := hH.r6
  have r7 := hH.r7
  have r8 := hH.r8
  have r9 := hH.r9
  have r10 := hH.r10
  have r11 := hH.r11
  have r12 := hH.r12
  have r13 := hH.r13
  have r14 := hH.r14
  have r15 := hH.r15
  have u0 := hL.u
  have uf := hL.uf
  have HT := Lib.hid (fun w => turn_leaf w false 1 (-4) none none 0 0 0 0)
  have HH := Lib.hid hH
  have HL := Lib.hid hL
  clear hH hL
  go_enter Tryd.func80, Tryd.ntmps80
  go_wp2_with fail
  go_loopw [21] (fun i wr => i = .int .i64 0 ∧ wr = w) (fun _ _ => 0)
  case atStart => exact ⟨rfl, rfl⟩
  case round =>
    obtain ⟨rfl, rfl⟩ := hrel
    go_wp2_with fail
    go_region_held3 (fun w' => w'.cell? ⟨n + 1, 0, none⟩ = some (.slice (some ⟨bb, 0, none⟩) 1 1) ∧ w'.cell? ⟨bb, 0, none⟩ = some (.bool false) ∧ w'.cell? ⟨bb, 1, none⟩ = some (.int .i64 1) ∧ w'.cell? ⟨bb, 2, none⟩ = some (.slice none 0 0) ∧ w'.cell? ⟨bb, 3, none⟩ = some (.int .i64 (-4)) ∧ w'.cell? ⟨bb, 4, none⟩ = some (.slice none 0 0) ∧ Ext wr w')
      (((try go_split_ands); refine ⟨?_, ?_, ?_, ?_, ?_, ?_, ?_⟩ <;> first | (with_reducible assumption) | exact Below.drew (Below.refl _ _) | exact Ext.drew (by assumption) | exact Ext.drew (ext_alloc _ _) | (apply Ext.cell hw'; (with_reducible assumption)) | exact Ext.trans (by assumption) hw' | exact Ext.frozen hw' (by (with_reducible assumption)) (by (with_reducible assumption)) | (go_keep; done)))
      ((go_at_call 81; go_split_ands; with_reducible refine (HT.out _).mono ?_; rintro e w' ⟨rfl, hw'⟩))
    go_split_ands
    have hE : Ext wr w' := by with_reducible assumption
    go_wp2_with fail
    have hE' : Ext wr w' := hE
    have h1 := HH.out.chg ha hb (Chg.of_ext (S := Wr n) hE)
    have h2 := HL.out.ext hE
    have hs1 : n + 12 ≤ w'.heap.size := Nat.le_trans hs hE.size
    have Hfin := Lib.hid (show ∀ w2, Chg (Wr n) w' w2 → Chg (Wr n) wr w2 from fun w2 hc => (Chg.of_ext hE).trans hc)
    clear hE hE' HT
    clear r0
    clear r1
    clear r2
    clear r3
    clear r4
    clear r5
    clear r6
    clear r7
    clear r8
    clear r9
    clear r10
    clear r11
    clear r12
    clear r13
    clear r14
    clear r15
    clear u0 uf
    go_loopw [38] (fun k wr => (k = .int .i64 0 ∧ wr = w') ∨ (k = .int .i64 1 ∧ ∃ v1, Held n ba bb wr ∧ Live n wr 1 v1 ∧ (∀ k, v1.ownBlock = some k → w'.heap.size ≤ k) ∧ Chg (Wr n) w' wr)) (fun k _ => 2 - (intOf k).toNat)
    case atStart => exact .inl ⟨rfl, rfl⟩
    case round =>
      rcases hrel with ⟨rfl, rfl⟩ | ⟨rfl, v1, h3, h4, h5⟩
      · have hA := ext_alloc wr (.cells #[.bool false, .int .i64 1, .slice none 0 0, .int .i64 (-4), .slice none 0 0] 65)
        have x := cells5 wr (.bool false) (.int .i64 1) (.slice none 0 0) (.int .i64 (-4)) (.slice none 0 0) 65
        have g1 := h1.chg ha hb (Chg.of_ext (S := Wr n) hA)
        have g2 := h2.ext hA
        obtain ⟨W2, hW2⟩ : ∃ W2, W2 = wr.alloc (.cells #[.bool false, .int .i64 1, .slice none 0 0, .int .i64 (-4), .slice none 0 0] 65) := ⟨_, rfl⟩
        have c0 := g2.c
        have cf := g2.cf
        have hix := fun w => (index_two (.bool false) (.int .i64 1) (.slice none 0 0) (.int .i64 (-4)) (.slice none 0 0) (.bool false) (.int .i64 (-4)) (.slice none 0 0) (.int .i64 1) (.slice none 0 0) w).1
        go_wp2_with fail
        rw [← hW2] at hA x g1 g2 ⊢
        obtain ⟨x0, x1, x2, x3, x4⟩ := x
        obtain ⟨W3, hW3⟩ : ∃ W3, W3 = W2.setCell ⟨n + 10, 0, none⟩ (.int .i64 1) := ⟨_, rfl⟩
        have hc3 : Chg [n + 10] W2 W3 := by rw [hW3]; exact (Chg.refl [n + 10] W2).setCell _ (.inl (by simp))
        have y0 : W3.cell? ⟨n + 10, 0, none⟩ = some (.int .i64 1) := by rw [hW3]; exact World.cell?_setCell_same _ _ _ g2.c
        have yf : W3.frozen? ⟨n + 10, 0, none⟩ = false := by rw [hW3]; exact (World.frozen?_setCell _ _ _ _).trans g2.cf
        rw [← hW3]
        have z1 := g1.chg ha hb (hc3.mono (by simp [Wr]))
        have hq : n + 12 ≤ wr.heap.size := hs1
        have z2 : Live n W3 1 (.slice none 0 0) := ⟨g2.m1.chg hc3 (by simp) (by simp) (by simp [Value.ownBlock]), by simp [Value.ownBlock], g2.m2.chg hc3 (by simp) (by simp) (by simp [Value.ownBlock]), hc3.cell g2.u (by simp), hc3.frozen g2.u (by simp) g2.uf, y0, yf⟩
        have w0 := hc3.cell x0 (by simp; omega)
        have w1 := hc3.cell x1 (by simp; omega)
        have w2 := hc3.cell x2 (by simp; omega)
        have w3 := hc3.cell x3 (by simp; omega)
        have w4 := hc3.cell x4 (by simp; omega)
        have hs3 : n + 13 ≤ W3.heap.size := by rw [hW3, World.size_setCell, hW2]; simp; omega
        have hC3 : Chg (Wr n) wr W3 := (Chg.of_ext hA).trans (hc3.mono (by simp [Wr]))
        clear hW3 hW2 hc3 c0 cf g1 g2 x0 x1 x2 x3 x4 hA y0 yf h1 h2
        have p13 := z1.r13
        have p14 := z1.r14
        have M1 := Lib.hid (fun w' (h : Ext W3 w') => mark_any w' _ _ _ _ _ _ (z2.m1.ext h))
        have M2 := Lib.hid (fun w' (h : Ext W3 w') => mark_any w' _ _ _ _ _ _ (z2.m2.ext h))
        have hE3 : Ext W3 W3 := Below.refl W3.heap.size W3
        go_region_held3 (fun w' => w'.cell? ⟨n + 8, 0, none⟩ = some (.pointer (some ⟨n + 5, 0, none⟩)) ∧ w'.cell? ⟨n + 9, 0, none⟩ = some (.pointer (some ⟨n + 7, 0, none⟩)) ∧ Ext W3 w')
          (((try go_split_ands); refine ⟨?_, ?_, ?_⟩ <;> first | (with_reducible assumption) | exact Below.drew (Below.refl _ _) | exact Ext.drew (by assumption) | exact Ext.drew (ext_alloc _ _) | (apply Ext.cell hw'; (with_reducible assumption)) | exact Ext.trans (by assumption) hw' | exact Ext.frozen hw' (by (with_reducible assumption)) (by (with_reducible assumption)) | (go_keep; done)))
          ((first
            | (go_at_call 82; go_split_ands; with_reducible refine (M1.out _ (by (with_reducible assumption))).mono ?_; rintro e w' ⟨rfl, rfl⟩)
            | (go_at_call 82; go_split_ands; with_reducible refine (M2.out _ (by (with_reducible assumption))).mono ?_; rintro e w' ⟨rfl, rfl⟩)))
        go_split_ands
        have p12 := z1.r12
        have u3 := z2.u
        have u4 := z2.uf
        clear p13 p14
        go_wp2_with fail
        obtain ⟨W4, hW4⟩ : ∃ W4, W4 = (W3.setCell ⟨n + 2, 0, none⟩ (.bool true)).drew := ⟨_, rfl⟩
        have hc4 : Chg [n + 2] W3 W4 := by rw [hW4]; exact ((Chg.refl [n + 2] W3).setCell (p := ⟨n + 2, 0, none⟩) _ (.inl (by simp))).drew
        have u5 : W4.cell? ⟨n + 2, 0, none⟩ = some (.bool true) := by rw [hW4]; exact World.cell?_setCell_same _ _ _ u3
        have u6 : W4.frozen? ⟨n + 2, 0, none⟩ = false := by rw [hW4]; exact (World.frozen?_setCell _ _ _ _).trans u4
        have hs4 : n + 13 ≤ W4.heap.size := Nat.le_trans hs3 hc4.size
        rw [← hW4]
        clear hW4
        have t1 := z1.chg ha hb (hc4.mono (by simp [Wr]))
        have mm1 := z2.m1.chg hc4 (by simp) (by simp) (by simp [Value.ownBlock])
        have mm2 := z2.m2.chg hc4 (by simp) (by simp) (by simp [Value.ownBlock])
        have cc := hc4.cell z2.c (by simp)
        have ccf := hc4.frozen z2.c (by simp) z2.cf
        have v0 := hc4.cell w0 (by simp; omega)
        have v1 := hc4.cell w1 (by simp; omega)
        have v2 := hc4.cell w2 (by simp; omega)
        have v3 := hc4.cell w3 (by simp; omega)
        have v4 := hc4.cell w4 (by simp; omega)
        have hC4 : Chg (Wr n) wr W4 := hC3.trans (hc4.mono (by simp [Wr]))
        clear w0 w1 w2 w3 w4 u3 u4 p12 M1 M2 z1 z2 hc4 hC3 hE3
        have b8 := t1.r13
        have b9 := t1.r0
        have e0 := t1.r2
        have e1 := t1.r3
        have e2 := t1.r4
        have e3 := t1.r5
        have e4 := t1.r6
        have hX := cell_lt v0
        simp only at hX
        refine wp_region_noPanic ?_
        refine wp_region_W Drawn 6 goes_drawn (by kernel_rfl) (by kernel_rfl) (fun _ _ _ _ _ h => h) ?_
        refine wpW_want (v := .pointer (some ⟨n + 5, 0, none⟩)) (by decide) (by rfl) (fun w1 hw1 => by obtain ⟨m, rfl⟩ := hw1; go_simp <;> rfl) ?_
        simp only [Act.put, List.setIfInBounds_toArray, List.set_cons_zero, List.set_cons_succ]
        refine wpW_want (v := .slice (some ⟨ba, 0, none⟩) 1 1) (by decide) (by rfl) (fun w1 hw1 => by obtain ⟨m, rfl⟩ := hw1; go_simp <;> rfl) ?_
        simp only [Act.put, List.setIfInBounds_toArray, List.set_cons_zero, List.set_cons_succ]
        refine wpW_want (v := .int .i64 0) (by decide) (by rfl) (fun w1 hw1 => by obtain ⟨m, rfl⟩ := hw1; go_simp <;> rfl) ?_
        simp only [Act.put, List.setIfInBounds_toArray, List.set_cons_zero, List.set_cons_succ]
        refine wpW_want (v := .pointer (some ⟨ba, 0, none⟩)) (by decide) (by rfl) (fun w1 hw1 => by obtain ⟨m, rfl⟩ := hw1; go_simp <;> rfl) ?_
        simp only [Act.put, List.setIfInBounds_toArray, List.set_cons_zero, List.set_cons_succ]
        refine wpW_want (v := .agg #[.bool false, .int .i64 (-1), .slice none 0 0, .int .i64 1, .slice none 0 0]) (by decide) (by rfl) (fun w1 hw1 => by obtain ⟨m, rfl⟩ := hw1; go_simp <;> rfl) ?_
        simp only [Act.put, List.setIfInBounds_toArray, List.set_cons_zero, List.set_cons_succ]
        refine wpW_want (v := .agg #[.bool false, .int .i64 1, .slice none 0 0, .int .i64 (-4), .slice none 0 0]) (by decide) (by rfl) (fun w1 hw1 => by obtain ⟨m, rfl⟩ := hw1; go_simp <;> rfl) ?_
        simp only [Act.put, List.setIfInBounds_toArray, List.set_cons_zero, List.set_cons_succ]
        refine wpW_turn (by kernel_rfl) (by rfl) (fun K w1 hw1 hK => ?_)
        go_simp
        have hx1 := ((Drawn.ext (show Drawn W4 (W4.drewN 1) from ⟨1, rfl⟩)).trans hw1.ext)
        have hsz1 := hx1.size
        clear hw1
        refine (Lit_fail w1 (n + 6) (n + 5) (n + 4) (by omega) _ (mm1.ext hx1) (-1) 1 1 (-4) (by omega) (by omega) (by omega) (by omega) (by omega) (by omega) (by omega) (by omega) (by decide) (by decide) (by decide) none none none none 0 0 0 0).mono ?_
        rintro e w2 ⟨rfl, ⟨vf, hM, hog⟩, hcg⟩
        have hcg' : Chg [n + 5, n + 4] W4 w2 := (Chg.of_ext hx1).trans (hcg.mono (by intro k hk; simpa [ownL, Value.ownBlock] using hk))
        replace hcg : Chg (Wr n) W4 w2 := hcg'.mono (by simp [Wr])
        have hvf : ∀ k, vf.ownBlock = some k → W4.heap.size ≤ k := by
          intro k hk
          rcases hog with h1 | h1
          · rw [h1] at hk; simp [Value.ownBlock] at hk
          · exact Nat.le_trans hsz1 (h1 k hk)
        have t3 := t1.chg ha hb hcg
        have hM2 := mm2.chg hcg' (by simp) (by simp) (by simp [Value.ownBlock])
        have f1 := hcg'.cell u5 (by simp)
        have f2 := hcg'.frozen u5 (by simp) u6
        have f3 := hcg'.cell cc (by simp)
        have f4 := hcg'.frozen cc (by simp) ccf
        clear mm1 mm2 u5 u6 cc ccf b8 b9 e0 e1 e2 e3 e4 v0 v1 v2 v3 v4 t1 hcg' hog
        refine hK _ _ Drawn 22 goes_drawn (by kernel_rfl) ?_
        refine wpW_want (v := .bool false) (by decide) (by rfl) (fun w1 hw1 => by obtain ⟨m, rfl⟩ := hw1; go_simp <;> rfl) ?_
        simp only [Act.put, List.setIfInBounds_toArray, List.set_cons_zero, List.set_cons_succ]
        refine wpW_skip (by decide) (by rfl) ?_
        simp only [Act.put, List.setIfInBounds_toArray, List.set_cons_zero, List.set_cons_succ]
        refine wpW_skip (by decide) (by rfl) ?_
        simp only [Act.put, List.setIfInBounds_toArray, List.set_cons_zero, List.set_cons_succ]
        refine wpW_skip (by decide) (by rfl) ?_
        simp only [Act.put, List.setIfInBounds_toArray, List.set_cons_zero, List.set_cons_succ]
        refine wpW_skip (by decide) (by rfl) ?_
        simp only [Act.put, List.setIfInBounds_toArray, List.set_cons_zero, List.set_cons_succ]
        refine wpW_skip (by decide) (by rfl) ?_
        simp only [Act.put, List.setIfInBounds_toArray, List.set_cons_zero, List.set_cons_succ]
        refine wpW_skip (by decide) (by rfl) ?_
        simp only [Act.put, List.setIfInBounds_toArray, List.set_cons_zero, List.set_cons_succ]
        refine wpW_skip (by decide) (by rfl) ?_
        simp only [Act.put, List.setIfInBounds_toArray, List.set_cons_zero, List.set_cons_succ]
        refine wpW_want (v := .bool false) (by decide) (by rfl) (fun w1 hw1 => by obtain ⟨m, rfl⟩ := hw1; go_simp <;> rfl) ?_
        simp only [Act.put, List.setIfInBounds_toArray, List.set_cons_zero, List.set_cons_succ]
        refine wpW_want (v := .bool false) (by decide) (by rfl) (fun w1 hw1 => by obtain ⟨m, rfl⟩ := hw1; go_simp <;> rfl) ?_
        simp only [Act.put, List.setIfInBounds_toArray, List.set_cons_zero, List.set_cons_succ]
        refine wpW_skip (by decide) (by rfl) ?_
        simp only [Act.put, List.setIfInBounds_toArray, List.set_cons_zero, List.set_cons_succ]
        refine wpW_skip (by decide) (by rfl) ?_
        simp only [Act.put, List.setIfInBounds_toArray, List.set_cons_zero, List.set_cons_succ]
        refine wpW_skip (by decide) (by rfl) ?_
        simp only [Act.put, List.setIfInBounds_toArray, List.set_cons_zero, List.set_cons_succ]
        refine wpW_skip (by decide) (by rfl) ?_
        simp only [Act.put, List.setIfInBounds_toArray, List.set_cons_zero, List.set_cons_succ]
        refine wpW_want (v := .bool false) (by decide) (by rfl) (fun w1 hw1 => by obtain ⟨m, rfl⟩ := hw1; go_simp <;> rfl) ?_
        simp only [Act.put, List.setIfInBounds_toArray, List.set_cons_zero, List.set_cons_succ]
        refine wpW_end (fun w3 hw3 => ?_)
        replace hw3 := hw3.ext
        replace t3 := t3.ext' hw3
        replace hM := hM.ext hw3
        replace hM2 := hM2.ext hw3
        replace f2 := hw3.frozen f1 f2
        replace f1 := hw3.cell f1
        replace f4 := hw3.frozen f3 f4
        replace f3 := hw3.cell f3
        have hC3 : Chg (Wr n) wr w3 := (hC4.trans hcg).trans (Chg.of_ext hw3)
        clear hw3 hcg hC4 hx1
        obtain ⟨W5, hW5⟩ : ∃ W5, W5 = w3.setCell ⟨n + 2, 0, none⟩ (.bool false) := ⟨_, rfl⟩
        have hc5 : Chg [n + 2] w3 W5 := by rw [hW5]; exact (Chg.refl [n + 2] w3).setCell (p := ⟨n + 2, 0, none⟩) _ (.inl (by simp))
        have k1 : W5.cell? ⟨n + 2, 0, none⟩ = some (.bool false) := by rw [hW5]; exact World.cell?_setCell_same _ _ _ f1
        have k2 : W5.frozen? ⟨n + 2, 0, none⟩ = false := by rw [hW5]; exact (World.frozen?_setCell _ _ _ _).trans f2
        have t5 := t3.chg ha hb (hc5.mono (by simp [Wr]))
        have s8 := t3.r13
        have s9 := t5.r14
        have s12 := t3.r12
        have m1 := hM.chg hc5 (by simp) (by simp) (by intro k hk; have := hvf k hk; simp; omega)
        have m2 := hM2.chg hc5 (by simp) (by simp) (by simp [Value.ownBlock])
        have k3 := hc5.cell f3 (by simp)
        have k4 := hc5.frozen f3 (by simp) f4
        have B1 := Lib.hid (back_zero W5 _ _ _ _ _ m1)
        refine NoPanic.normal ?_
        go_wp2_with fail
        rw [← hW5]
        clear hW5
        refine (B1.out).mono ?_
        rintro e w6 ⟨rfl, m1', hc6⟩
        have s9' := hc6.cell s9 (by simp)
        have m2' := m2.chg hc6 (by simp) (by simp) (by simp [Value.ownBlock])
        have B2 := Lib.hid (back_zero w6 _ _ _ _ _ m2')
        go_wp2_with fail
        refine (B2.out).mono ?_
        rintro e w7 ⟨rfl, m2'', hc7⟩
        go_wp2_with fail
        have hC7 : Chg (Wr n) w3 w7 := (hc5.mono (by simp [Wr])).trans ((hc6.mono (by simp [Wr])).trans (hc7.mono (by simp [Wr])))
        go_roundw
        case rel =>
          refine .inr ⟨rfl, vf, t3.chg ha hb hC7, ⟨m1'.chg hc7 (by simp) (by simp) (by intro k hk; have := hvf k hk; simp; omega), by intro k hk; have := hvf k hk; omega, m2'', ?_, ?_, ?_, ?_⟩, ?_, hC3.trans hC7⟩
          · exact hc7.cell (hc6.cell k1 (by simp)) (by simp)
          · exact hc7.frozen (hc6.cell k1 (by simp)) (by simp) (hc6.frozen k1 (by simp) k2)
          · exact hc7.cell (hc6.cell k3 (by simp)) (by simp)
          · exact hc7.frozen (hc6.cell k3 (by simp)) (by simp) (hc6.frozen k3 (by simp) k4)
          · intro k hk; have := hvf k hk; omega
        case measure => simp [intOf]
      · obtain ⟨h4O, h5⟩ := h5
        have hA := ext_alloc wr (.cells #[.bool false, .int .i64 (-4), .slice none 0 0, .int .i64 1, .slice none 0 0] 65)
        have x := cells5 wr (.bool false) (.int .i64 (-4)) (.slice none 0 0) (.int .i64 1) (.slice none 0 0) 65
        have hsz := h5.size
        have g1 := h3.chg ha hb (Chg.of_ext (S := Wr n) hA)
        have g2 := h4.ext hA
        obtain ⟨W2, hW2⟩ : ∃ W2, W2 = wr.alloc (.cells #[.bool false, .int .i64 (-4), .slice none 0 0, .int .i64 1, .slice none 0 0] 65) := ⟨_, rfl⟩
        have c0 := g2.c
        have cf := g2.cf
        have hix := fun w => (index_two (.bool false) (.int .i64 1) (.slice none 0 0) (.int .i64 (-4)) (.slice none 0 0) (.bool false) (.int .i64 (-4)) (.slice none 0 0) (.int .i64 1) (.slice none 0 0) w).2
        go_wp2_with fail
        rw [← hW2] at hA x g1 g2 ⊢
        obtain ⟨x0, x1, x2, x3, x4⟩ := x
        obtain ⟨W3, hW3⟩ : ∃ W3, W3 = W2.setCell ⟨n + 10, 0, none⟩ (.int .i64 2) := ⟨_, rfl⟩
        have hc3 : Chg [n + 10] W2 W3 := by rw [hW3]; exact (Chg.refl [n + 10] W2).setCell _ (.inl (by simp))
        have y0 : W3.cell? ⟨n + 10, 0, none⟩ = some (.int .i64 2) := by rw [hW3]; exact World.cell?_setCell_same _ _ _ g2.c
        have yf : W3.frozen? ⟨n + 10, 0, none⟩ = false := by rw [hW3]; exact (World.frozen?_setCell _ _ _ _).trans g2.cf
        rw [← hW3]
        have z1 := g1.chg ha hb (hc3.mono (by simp [Wr]))
        have z2 : Live n W3 2 v1 := ⟨g2.m1.chg hc3 (by simp) (by simp) (by intro k hk; have := g2.o1 k hk; simp; omega), g2.o1, g2.m2.chg hc3 (by simp) (by simp) (by simp [Value.ownBlock]), hc3.cell g2.u (by simp), hc3.frozen g2.u (by simp) g2.uf, y0, yf⟩
        have w0 := hc3.cell x0 (by simp; omega)
        have w1 := hc3.cell x1 (by simp; omega)
        have w2 := hc3.cell x2 (by simp; omega)
        have w3 := hc3.cell x3 (by simp; omega)
        have w4 := hc3.cell x4 (by simp; omega)
        have hs3 : wr.heap.size < W3.heap.size := by rw [hW3, World.size_setCell, hW2]; simp
        have hC3 : Chg (Wr n) wr W3 := (Chg.of_ext hA).trans (hc3.mono (by simp [Wr]))
        clear hW3 hW2 hc3 c0 cf g1 g2 x0 x1 x2 x3 x4 hA y0 yf h1 h2
        have p13 := z1.r13
        have p14 := z1.r14
        have M1 := Lib.hid (fun w' (h : Ext W3 w') => mark_any w' _ _ _ _ _ _ (z2.m1.ext h))
        have M2 := Lib.hid (fun w' (h : Ext W3 w') => mark_any w' _ _ _ _ _ _ (z2.m2.ext h))
        have hE3 : Ext W3 W3 := Below.refl W3.heap.size W3
        go_region_held3 (fun w' => w'.cell? ⟨n + 8, 0, none⟩ = some (.pointer (some ⟨n + 5, 0, none⟩)) ∧ w'.cell? ⟨n + 9, 0, none⟩ = some (.pointer (some ⟨n + 7, 0, none⟩)) ∧ Ext W3 w')
          (((try go_split_ands); refine ⟨?_, ?_, ?_⟩ <;> first | (with_reducible assumption) | exact Below.drew (Below.refl _ _) | exact Ext.drew (by assumption) | exact Ext.drew (ext_alloc _ _) | (apply Ext.cell hw'; (with_reducible assumption)) | exact Ext.trans (by assumption) hw' | exact Ext.frozen hw' (by (with_reducible assumption)) (by (with_reducible assumption)) | (go_keep; done)))
          ((first
            | (go_at_call 82; go_split_ands; with_reducible refine (M1.out _ (by (with_reducible assumption))).mono ?_; rintro e w' ⟨rfl, rfl⟩)
            | (go_at_call 82; go_split_ands; with_reducible refine (M2.out _ (by (with_reducible assumption))).mono ?_; rintro e w' ⟨rfl, rfl⟩)))
        go_split_ands
        have p12 := z1.r12
        have u3 := z2.u
        have u4 := z2.uf
        clear p13 p14
        go_wp2_with fail
        obtain ⟨W4, hW4⟩ : ∃ W4, W4 = (W3.setCell ⟨n + 2, 0, none⟩ (.bool true)).drew := ⟨_, rfl⟩
        have hc4 : Chg [n + 2] W3 W4 := by rw [hW4]; exact ((Chg.refl [n + 2] W3).setCell (p := ⟨n + 2, 0, none⟩) _ (.inl (by simp))).drew
        rw [← hW4]
        clear hW4
        have t1 := z1.chg ha hb (hc4.mono (by simp [Wr]))
        have mm1 := z2.m1.chg hc4 (by simp) (by simp) (by intro k hk; have := z2.o1 k hk; simp; omega)
        have mm2 := z2.m2.chg hc4 (by simp) (by simp) (by simp [Value.ownBlock])
        have v0 := hc4.cell w0 (by simp; omega)
        have v1' := hc4.cell w1 (by simp; omega)
        have v2 := hc4.cell w2 (by simp; omega)
        have v3 := hc4.cell w3 (by simp; omega)
        have v4 := hc4.cell w4 (by simp; omega)
        have hC4 : Chg (Wr n) wr W4 := hC3.trans (hc4.mono (by simp [Wr]))
        clear w0 w1 w2 w3 w4 u3 u4 p12 M1 M2 z1 z2 hc4 hC3 hE3
        have b8 := t1.r13
        have b7 := t1.r14
        have b9 := t1.r0
        have e0 := t1.r2
        have e1 := t1.r3
        have e2 := t1.r4
        have e3 := t1.r5
        have e4 := t1.r6
        have b6 := t1.r15
        have h4o := h4.o1
        have h4x : ∀ k, v1.ownBlock = some k → k < wr.heap.size := fun k hk => (h4.m1.row.own_ge hk).2
        clear h3 h4
        have hX := cell_lt v0
        have hn4 := cell_lt b6
        simp only at hX hn4
        refine wp_region_noPanic ?_
        refine wp_region_W Drawn 6 goes_drawn (by kernel_rfl) (by kernel_rfl) (fun _ _ _ _ _ h => h) ?_
        refine wpW_want (v := .pointer (some ⟨n + 5, 0, none⟩)) (by decide) (by rfl) (fun w1 hw1 => by obtain ⟨m, rfl⟩ := hw1; go_simp <;> rfl) ?_
        simp only [Act.put, List.setIfInBounds_toArray, List.set_cons_zero, List.set_cons_succ]
        refine wpW_want (v := .slice (some ⟨ba, 0, none⟩) 1 1) (by decide) (by rfl) (fun w1 hw1 => by obtain ⟨m, rfl⟩ := hw1; go_simp <;> rfl) ?_
        simp only [Act.put, List.setIfInBounds_toArray, List.set_cons_zero, List.set_cons_succ]
        refine wpW_want (v := .int .i64 0) (by decide) (by rfl) (fun w1 hw1 => by obtain ⟨m, rfl⟩ := hw1; go_simp <;> rfl) ?_
        simp only [Act.put, List.setIfInBounds_toArray, List.set_cons_zero, List.set_cons_succ]
        refine wpW_want (v := .pointer (some ⟨ba, 0, none⟩)) (by decide) (by rfl) (fun w1 hw1 => by obtain ⟨m, rfl⟩ := hw1; go_simp <;> rfl) ?_
        simp only [Act.put, List.setIfInBounds_toArray, List.set_cons_zero, List.set_cons_succ]
        refine wpW_want (v := .agg #[.bool false, .int .i64 (-1), .slice none 0 0, .int .i64 1, .slice none 0 0]) (by decide) (by rfl) (fun w1 hw1 => by obtain ⟨m, rfl⟩ := hw1; go_simp <;> rfl) ?_
        simp only [Act.put, List.setIfInBounds_toArray, List.set_cons_zero, List.set_cons_succ]
        refine wpW_want (v := .agg #[.bool false, .int .i64 (-4), .slice none 0 0, .int .i64 1, .slice none 0 0]) (by decide) (by rfl) (fun w1 hw1 => by obtain ⟨m, rfl⟩ := hw1; go_simp <;> rfl) ?_
        simp only [Act.put, List.setIfInBounds_toArray, List.set_cons_zero, List.set_cons_succ]
        refine wpW_turn (by kernel_rfl) (by rfl) (fun K w1 hw1 hK => ?_)
        go_simp
        have hx1 := ((Drawn.ext (show Drawn W4 (W4.drewN 1) from ⟨1, rfl⟩)).trans hw1.ext)
        clear hw1
        refine (Lit_ok w1 (n + 6) (n + 5) (n + 4) (by have := hx1.size; omega) v1 (mm1.ext hx1) (-1) 1 (-4) (by omega) (by omega) (by omega) (by omega) (by omega) (by omega) (by decide) none none none none 0 0 0 0).mono ?_
        rintro e w2 ⟨rfl, ⟨vg, val, born, hMg, hog⟩, hcg⟩
        have d9 := hcg.cell (hx1.cell b7) (not_own (by simp) (by intro k hk; have := h4o k hk; simp only; omega))
        have d0 := hcg.cell (hx1.cell v0) (not_own (by simp; omega) (by intro k hk; have := h4x k hk; simp only; omega))
        have d1 := hcg.cell (hx1.cell v1') (not_own (by simp; omega) (by intro k hk; have := h4x k hk; simp only; omega))
        have d2 := hcg.cell (hx1.cell v2) (not_own (by simp; omega) (by intro k hk; have := h4x k hk; simp only; omega))
        have d3 := hcg.cell (hx1.cell v3) (not_own (by simp; omega) (by intro k hk; have := h4x k hk; simp only; omega))
        have d4 := hcg.cell (hx1.cell v4) (not_own (by simp; omega) (by intro k hk; have := h4x k hk; simp only; omega))
        have dn := hcg.cell (hx1.cell b9) (not_own (by simp) (by intro k hk; have := h4o k hk; simp only; omega))
        have a0 := hcg.cell (hx1.cell e0) (not_own (by simp; omega) (by intro k hk; have := h4o k hk; simp only; omega))
        have a1 := hcg.cell (hx1.cell e1) (not_own (by simp; omega) (by intro k hk; have := h4o k hk; simp only; omega))
        have a2 := hcg.cell (hx1.cell e2) (not_own (by simp; omega) (by intro k hk; have := h4o k hk; simp only; omega))
        have a3 := hcg.cell (hx1.cell e3) (not_own (by simp; omega) (by intro k hk; have := h4o k hk; simp only; omega))
        have a4 := hcg.cell (hx1.cell e4) (not_own (by simp; omega) (by intro k hk; have := h4o k hk; simp only; omega))
        have df := hcg.cell (hx1.cell b6) (not_own (by simp) (by intro k hk; have := h4o k hk; simp only; omega))
        have mn2 := (mm2.ext hx1).chg hcg (not_own (by simp) (by intro k hk; have := h4o k hk; omega)) (not_own (by simp) (by intro k hk; have := h4o k hk; omega)) (by simp [Value.ownBlock])
        have hC2 : Chg (Wr n ++ ownL v1) W4 w2 := (Chg.of_ext hx1).trans (hcg.mono (by
          intro k hk
          rcases List.mem_append.1 hk with h | h
          · exact List.mem_append.2 (.inl (by simp [Wr] at h ⊢; omega))
          · exact List.mem_append.2 (.inr h)))
        have hsz2 := hC2.size
        clear hMg hcg hog b7 v0 v1' v2 v3 v4 b9 e0 e1 e2 e3 e4 b6 b8 mm1 mm2 hx1 t1
        refine hK _ _ Drawn 14 goes_drawn (by kernel_rfl) ?_
        refine wpW_want (v := .bool true) (by decide) (by rfl) (fun w1 hw1 => by obtain ⟨m, rfl⟩ := hw1; go_simp <;> rfl) ?_
        simp only [Act.put, List.setIfInBounds_toArray, List.set_cons_zero, List.set_cons_succ]
        refine wpW_want (v := .pointer (some ⟨n + 7, 0, none⟩)) (by decide) (by rfl) (fun w1 hw1 => by obtain ⟨m, rfl⟩ := hw1; go_simp <;> rfl) ?_
        simp only [Act.put, List.setIfInBounds_toArray, List.set_cons_zero, List.set_cons_succ]
        refine wpW_want (v := .agg #[.bool false, .int .i64 (-4), .slice none 0 0, .int .i64 1, .slice none 0 0]) (by decide) (by rfl) (fun w1 hw1 => by obtain ⟨m, rfl⟩ := hw1; go_simp <;> rfl) ?_
        simp only [Act.put, List.setIfInBounds_toArray, List.set_cons_zero, List.set_cons_succ]
        refine wpW_want (v := .slice (some ⟨ba, 0, none⟩) 1 1) (by decide) (by rfl) (fun w1 hw1 => by obtain ⟨m, rfl⟩ := hw1; go_simp <;> rfl) ?_
        simp only [Act.put, List.setIfInBounds_toArray, List.set_cons_zero, List.set_cons_succ]
        refine wpW_want (v := .int .i64 0) (by decide) (by rfl) (fun w1 hw1 => by obtain ⟨m, rfl⟩ := hw1; go_simp <;> rfl) ?_
        simp only [Act.put, List.setIfInBounds_toArray, List.set_cons_zero, List.set_cons_succ]
        refine wpW_want (v := .pointer (some ⟨ba, 0, none⟩)) (by decide) (by rfl) (fun w1 hw1 => by obtain ⟨m, rfl⟩ := hw1; go_simp <;> rfl) ?_
        simp only [Act.put, List.setIfInBounds_toArray, List.set_cons_zero, List.set_cons_succ]
        refine wpW_want (v := .agg #[.bool false, .int .i64 (-1), .slice none 0 0, .int .i64 1, .slice none 0 0]) (by decide) (by rfl) (fun w1 hw1 => by obtain ⟨m, rfl⟩ := hw1; go_simp <;> rfl) ?_
        simp only [Act.put, List.setIfInBounds_toArray, List.set_cons_zero, List.set_cons_succ]
        refine wpW_turn (by kernel_rfl) (by rfl) (fun K w3 hw3 hK => ?_)
        go_simp
        have hx3 := hw3.ext
        have hsz3 := hx3.size
        refine (Lit_ok w3 (n + 8) (n + 7) (n + 6) (by omega) _ (mn2.ext hx3) (-4) 1 (-1) (by omega) (by omega) (by omega) (by omega) (by omega) (by omega) (by decide) none none none none 0 0 0 0).mono ?_
        rintro e w4 ⟨rfl, ⟨vg, val, born, hMg, hog⟩, hch⟩
        have dn' := hch.cell (hx3.cell dn) (not_own (by simp) (by simp [Value.ownBlock]))
        have df' := hch.cell (hx3.cell df) (not_own (by simp) (by simp [Value.ownBlock]))
        have hC4' : Chg (Wr n ++ ownL v1) W4 w4 := (hC2.trans (Chg.of_ext hx3)).trans (hch.mono (by
          intro k hk
          exact List.mem_append.2 (.inl (by simp [Wr, ownL, Value.ownBlock] at hk ⊢; omega))))
        clear hMg hch hog hC2 hx3 hw3 dn df d9 d0 d1 d2 d3 d4 a0 a1 a2 a3 a4 mn2
        refine hK _ _ Drawn 20 goes_drawn (by kernel_rfl) ?_
        refine wpW_want (v := .bool true) (by decide) (by rfl) (fun w1 hw1 => by obtain ⟨m, rfl⟩ := hw1; go_simp <;> rfl) ?_
        simp only [Act.put, List.setIfInBounds_toArray, List.set_cons_zero, List.set_cons_succ]
        refine wpW_want (v := .bool true) (by decide) (by rfl) (fun w1 hw1 => by obtain ⟨m, rfl⟩ := hw1; go_simp <;> rfl) ?_
        simp only [Act.put, List.setIfInBounds_toArray, List.set_cons_zero, List.set_cons_succ]
        refine wpW_want (v := .func (.func 80) #[] #[.pointer (some ⟨n, 0, none⟩), .pointer (some ⟨n + 1, 0, none⟩), .pointer (some ⟨n + 3, 0, none⟩), .pointer (some ⟨n + 10, 0, none⟩), .pointer (some ⟨n + 8, 0, none⟩), .pointer (some ⟨n + 9, 0, none⟩), .pointer (some ⟨n + 11, 0, none⟩)]) (by decide) (by rfl) (fun w1 hw1 => by obtain ⟨m, rfl⟩ := hw1; go_simp <;> rfl) ?_
        simp only [Act.put, List.setIfInBounds_toArray, List.set_cons_zero, List.set_cons_succ]
        refine wpW_want (v := .int .i64 0) (by decide) (by rfl) (fun w1 hw1 => by obtain ⟨m, rfl⟩ := hw1; go_simp <;> rfl) ?_
        simp only [Act.put, List.setIfInBounds_toArray, List.set_cons_zero, List.set_cons_succ]
        refine wpW_want (v := .int .i64 1) (by decide) (by rfl) (fun w1 hw1 => by obtain ⟨m, rfl⟩ := hw1; go_simp <;> rfl) ?_
        simp only [Act.put, List.setIfInBounds_toArray, List.set_cons_zero, List.set_cons_succ]
        refine wpW_turn (by kernel_rfl) (by rfl) (fun K w5 hw5 hK => ?_)
        go_simp
        have hx5 := hw5.ext
        refine (from_end w5 n (some ⟨ba, 0, none⟩) 1 1 (hx5.cell dn') _ _ _ _ _ _).mono ?_
        rintro e w6 ⟨rfl, rfl⟩
        refine hK _ _ Drawn 22 goes_drawn (by kernel_rfl) ?_
        refine wpW_want (v := .bool true) (by decide) (by rfl) (fun w1 hw1 => by obtain ⟨m, rfl⟩ := hw1; go_simp <;> rfl) ?_
        simp only [Act.put, List.setIfInBounds_toArray, List.set_cons_zero, List.set_cons_succ]
        refine wpW_end (fun w7 hw7 => ?_)
        refine NoPanic.normal ?_
        go_wp2_with fail
        go_ret
        refine ⟨rfl, Hfin.out _ ?_⟩
        have hall := ((hC4'.trans (Chg.of_ext hx5)).trans (Chg.of_ext hw7.ext))
        have hfull := ((h5.trans hC4).mono (T := Wr n ++ ownL v1) (fun k hk => List.mem_append.2 (.inl hk))).trans hall
        exact ⟨hfull.os, hfull.tape, hfull.output, hfull.size, fun k hk hn => hfull.block k hk (not_own hn (by intro j hj e; have := h4O j hj; omega))⟩
end Go.Proofs.YtoidhdcbemmfhaaDoor
