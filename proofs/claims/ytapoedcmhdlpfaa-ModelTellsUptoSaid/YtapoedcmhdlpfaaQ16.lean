/- What term.Vars returns: a term's variables, each once, rising. -/
import Derived.Test.YtapoedcmhdlpfaaQ12
import Derived.Test.YtapoedcmhdlpfaaQ15
namespace Go.Proofs.Ytapoedcmhdlpfaa
open Go.ChangeShapes Go.WideShapes Go.ChangeAt Go.RowKit Go.Sort
theorem chg_putRow {α : Type} [Inhabited α] (enc : α → Value) (w : World) (n g o : Nat) (d : Array α) : Chg [g] w (putRow enc (Sort.ahead w n) g o d) := by
  refine ⟨rfl, rfl, rfl, by simp, fun k hk hs => ?_⟩
  unfold putRow mapBlock
  have hne : g ≠ k := fun e => hs (by simp [e])
  simp [Array.getElem?_modify, hne]
theorem ext_grow (w : World) (os : Array Obj) : Ext w (grow w os) := ⟨rfl, rfl, rfl, by simp, fun _ hk => heap_grow_old w os hk⟩
theorem GRow.holds {e B g n c : Nat} {w : World} {l : List Int} (h : GRow eltInt e B w (.slice (some ⟨g, 0, none⟩) n c) l) : Holds (Value.int .i64) w g 0 l.toArray := by
  intro j hj
  have hj' : j < l.length := by simpa using hj
  obtain ⟨g', cap, cs, hv, hb, hlt, -, ⟨hcs, -⟩, -, hcell⟩ := h.at hj'
  injection hv with hv
  injection hv with hv
  injection hv with hv
  subst hv
  have h0 := hcell 0 (.int .i64 l[j]) (by rw [hcs]; rfl)
  rw [show j * eltInt.size + 0 = 0 + j by show j * 1 + 0 = 0 + j; omega] at h0
  refine ⟨by rw [getElem!_pos l.toArray j hj]; exact h0, ?_⟩
  obtain ⟨cs2, -, ⟨-, h2⟩, -⟩ := h
  rcases h2 with ⟨h2, -⟩ | ⟨g2, cap2, cur, h2, -, h3, -⟩
  · cases h2
  · injection h2 with h2
    injection h2 with h2
    injection h2 with h2
    subst h2
    simp [World.frozen?, h3]

theorem IsInts.atB {P : Nat → Prop} {w : World} {g o : Nat} {l : List Int} (h : IsInts w (some ⟨g, o, none⟩) l) (hg : P g) : AtInts P w (some ⟨g, o, none⟩) l := fun i hi => by
  obtain ⟨h1, h2, b, o', h3, h4⟩ := h i hi
  injection h3 with h3
  injection h3 with e1 e2 _
  subst e1; subst e2
  exact ⟨h1, h2, g, o, rfl, hg, h4⟩
set_option maxHeartbeats 1000000 in
set_option maxRecDepth 100000 in
theorem varsN_any (t : Tm) (w : World) (x s : Value) (ht : IsTm w x s t) (hs : t.size ≤ 2097152) :
    Calls Try.prog 18 #[.agg #[x, s]] w fun e w' => (∃ a c, e = .returned (.slice a t.vars.length c) ∧ t.vars.length ≤ c ∧ AtInts (fun b => w.heap.size ≤ b) w' a t.vars) ∧ Ext w w' := by
  have hrange := vl_range ht
  obtain ⟨Z, hZ⟩ : ∃ Z, Z = t.vars := ⟨_, rfl⟩
  rw [← hZ]
  obtain ⟨a, c, rfl, rfl, -, -, -, -⟩ := ht.form
  obtain ⟨c0, c1⟩ := cells2 w (.int .i64 t.f) (.slice a t.ks.length c) 30
  have hx := ext_alloc w (.cells #[.int .i64 t.f, .slice a t.ks.length c] 30)
  obtain ⟨W0, hW0⟩ : ∃ W0, W0 = w.alloc (.cells #[.int .i64 t.f, .slice a t.ks.length c] 30) := ⟨_, rfl⟩
  rw [← hW0] at c0 c1 hx
  have hs0 : W0.heap.size = w.heap.size + 1 := by subst hW0; simp
  obtain ⟨W, hW⟩ : ∃ W, W = W0.alloc (.cells #[.slice none 0 0] 31) := ⟨_, rfl⟩
  have hxW : Ext W0 W := by subst hW; go_grown
  have hI : VarI (w.heap.size + 1) W [] 0 := ⟨.slice none 0 0, by subst hW; rw [← hs0]; go_simp, by subst hW; rw [← hs0]; go_simp, GRow.nil, Nat.le_refl _⟩
  have h := each2_any varSt 46 (fun _ _ => rfl) #[.pointer (some ⟨w.heap.size + 1, 0, none⟩)] W0 4000000 (VarI (w.heap.size + 1)) 2097152 (Nat.le_refl _) (vars1_any W0 (w.heap.size + 1) (by omega)) t W [] 0 w.heap.size 0 _ _ (by omega) hs c0 c1 (ht.ext hx) hxW hI
  rw [vl_run] at h
  have H := Lib.hid h; clear h
  have Hx := Lib.hid hx
  have Hr := Lib.hid hrange
  clear c0 c1 ht hI hxW hrange
  go_enter Try.func18, Try.ntmps18
  go_wp2_with fail
  rw [← hW0, ← hW]
  clear hW hW0
  go_wp2_with ((refine (H.out).mono ?_); rintro e w1 ⟨rfl, hx1, q, hq, v, d1, d2, hrow, hl⟩; rw [List.nil_append] at hrow hl)
  obtain ⟨ao, co, rfl, hmc⟩ := hrow.form
  have hvl := vl_length t
  by_cases hv0 : t.vl.length = 0
  · have hvn : t.vl = [] := List.eq_nil_of_length_eq_zero hv0
    have hZ0 : Z = [] := by rw [hZ]; unfold Tm.vars; rw [hvn]; simp [Lib.compact, Lib.compactUpTo]
    subst hZ0
    clear hZ
    rw [hv0] at d1 ⊢
    clear hrow hl hvl H
    go_wp2_with (first | (go_at_call 47; refine (Try.slices_Sort_int_none ao co w1).mono ?_; rintro e w2 ⟨rfl, rfl⟩) | (go_at_call 48; refine (Try.slices_Compact_int_empty ao co _).mono ?_; rintro e w3 ⟨rfl, rfl⟩))
    go_ret
    exact ⟨⟨_, _, rfl, Nat.zero_le _, fun i hi => by simp at hi⟩, Ext.trans Hx.out hx1⟩
  · have hn0 : 0 < t.vl.length := by omega
    obtain ⟨g, cap, cs, hv, hb, hlt, -⟩ := hrow.at hn0
    rw [hv] at hrow d1
    injection hv with e1 _ e3
    subst e1; subst e3
    have hho := hrow.holds
    have hS := Try.slices_Sort_int g 0 co t.vl w1 hho hlt (by omega)
    obtain ⟨srt, hsrt⟩ : ∃ srt, srt = t.vl.mergeSort fun x y => decide (x ≤ y) := ⟨_, rfl⟩
    rw [← hsrt] at hS
    have hsl : srt.length = t.vl.length := by rw [hsrt, List.length_mergeSort]
    have hZ0 : Z = Lib.compact srt := by rw [hZ, hsrt]; rfl
    clear hZ
    subst hZ0
    have hsm : ∀ v ∈ srt, -9223372036854775808 ≤ v ∧ v ≤ 9223372036854775807 := by
      intro v hv
      rw [hsrt, List.mem_mergeSort] at hv
      exact Hr.out v hv
    have hcl := (compact_spec srt (by
      have := List.pairwise_mergeSort (le := fun (x y : Int) => decide (x ≤ y)) (by intro a b c h1 h2; simp at *; omega) (by intro a b; simp; omega) t.vl
      rw [hsrt]
      exact this.imp (by simp))).2
    have hlen : (Lib.compact srt).length ≤ srt.length := by
      unfold Lib.compact Lib.compactUpTo
      rw [List.length_map]
      exact Nat.le_trans (List.length_filter_le _ _) (by simp)
    clear hsrt
    have Hcl := Lib.hid hcl; clear hcl
    have Hsm := Lib.hid hsm; clear hsm
    have hC := fun (w2 : World) (h : Holds (Value.int .i64) w2 g 0 srt.toArray) => Try.slices_Compact_int g 0 co srt w2 h (by omega) (by omega)
    rw [hsl] at hC
    have hfin : ∀ (w2 w3 : World) (q3 : Nat), Holds (Value.int .i64) w2 g 0 srt.toArray → w3 = putRow (Value.int .i64) (Sort.ahead w2 q3) g 0 (Lib.compact srt ++ List.replicate (t.vl.length - (Lib.compact srt).length) 0).toArray → Chg [g] w2 w3 ∧ IsInts w3 (some ⟨g, 0, none⟩) (Lib.compact srt) := by
      intro w2 w3 q3 h2 hw3
      refine ⟨by rw [hw3]; exact chg_putRow _ _ _ _ _ _, fun i hi => ?_⟩
      have hm := (Hcl.out (Lib.compact srt)[i]).1 (List.getElem_mem hi)
      obtain ⟨r1, r2⟩ := Hsm.out _ hm
      refine ⟨r1, r2, g, 0, rfl, ?_⟩
      rw [hw3]
      have := cell?_putRow (Value.int .i64) (Sort.ahead w2 q3) g 0 srt.toArray (Lib.compact srt ++ List.replicate (t.vl.length - (Lib.compact srt).length) 0).toArray (holds_ahead _ _ _ _ _ _ h2) (by simp; omega) i (by simp; omega)
      rw [this, getElem!_pos _ i (by simp; omega)]
      simp [hi]
    have Hfin := Lib.hid hfin; clear hfin
    have HC := Lib.hid hC; clear hC
    have HS := Lib.hid hS; clear hS
    have H0 := Lib.hid hho; clear hho
    go_wp2_with (first | (go_at_call 47; (refine (HS.out).mono ?_); rintro e w2 ⟨rfl, n, os, hw2⟩; (have h2 : Holds (Value.int .i64) w2 g 0 srt.toArray := by rw [hw2]; exact holds_grow _ _ _ _ _ _ (by simpa using hlt) (holds_putRow _ _ _ _ _ _ (holds_ahead _ _ _ _ _ _ H0.out) (by simp [hsl]))); (have hx2 : Chg [g] w1 w2 := by rw [hw2]; exact (chg_putRow _ _ _ _ _ _).trans (Chg.of_ext (ext_grow _ _))); have d3 := hx2.cell d1 (by simp; omega); clear hw2) | (go_at_call 48; (refine (HC.out _ h2).mono ?_); rintro e w3 ⟨rfl, q3, hw3⟩; obtain ⟨hx3, hI3⟩ := Hfin.out _ _ _ h2 hw3; clear hw3))
    go_ret
    exact ⟨⟨_, _, rfl, by omega, hI3.atB (P := fun b => w.heap.size ≤ b) (by omega)⟩, Ext.trans Hx.out (Chg.ext hx1 (hx2.trans hx3) (by simp; omega))⟩
theorem vars_any (t : Tm) (w : World) (x s : Value) (ht : IsTm w x s t) (hs : t.size ≤ 2097152) :
    Calls Try.prog 18 #[.agg #[x, s]] w fun e w' => (∃ a c, e = .returned (.slice a t.vars.length c) ∧ t.vars.length ≤ c ∧ IsInts w' a t.vars) ∧ Ext w w' :=
  (varsN_any t w x s ht hs).mono fun _ _ h => ⟨by obtain ⟨⟨a, c, h1, h2, h3⟩, -⟩ := h; exact ⟨a, c, h1, h2, h3.isInts⟩, h.2⟩
end Go.Proofs.Ytapoedcmhdlpfaa
