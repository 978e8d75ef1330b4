/- What term.Copy returns may be written to; what a copy is, for the program's and the reference's. -/
import Derived.Test.YtoidhdcbemmfhaaDoorRefCopy
namespace Go.Proofs.YtoidhdcbemmfhaaDoor
open Go.ChangeShapes Go.WideShapes Go.ChangeAt Go.RowKit

/-- a row of terms that may be written to -/
def WrAt (w : World) (a : Option Addr) (n : Nat) : Prop := 0 < n → ∃ g, a = some ⟨g, 0, none⟩ ∧ ∀ j, j < n * 2 → w.frozen? ⟨g, j, none⟩ = false

set_option maxHeartbeats 1000000 in
set_option maxRecDepth 100000 in
theorem copyF_any (t : Tm) : ∀ (w : World) (x s : Value), IsTm w x s t → t.size ≤ 2097152 →
    Calls Tryd.prog 63 #[.agg #[x, s]] w fun e w' => (∃ a, e = .returned (.agg #[.int .i64 t.f, .slice a t.ks.length t.ks.length]) ∧ NewTm w.heap.size w' (.int .i64 t.f) (.slice a t.ks.length t.ks.length) t ∧ WrAt w' a t.ks.length) ∧ Ext w w' := by
  cases t with
  | mk f ks =>
    have ih := fun (t : Tm) (_ : t ∈ ks) => copy_any t
    intro w x s ht hs
    simp only [IsTm] at ht
    obtain ⟨rfl, hf1, hf2, a, c, rfl, hc, hk⟩ := ht
    simp only [Tm.size] at hs
    show Calls Tryd.prog 63 _ w fun e w' => (∃ a, e = .returned (.agg #[.int .i64 f, .slice a ks.length ks.length]) ∧ NewTm w.heap.size w' (.int .i64 f) (.slice a ks.length ks.length) (.mk f ks) ∧ WrAt w' a ks.length) ∧ Ext w w'
    have hkl := length_le_sizes ks
    have Hih := Lib.hid ih; clear ih
    by_cases h0 : 0 < ks.length
    · have h0i : (0 : Int) < ks.length := by omega
      go_enter Tryd.func63, Tryd.ntmps63
      have hmk := mk_terms ks.length (by omega)
      go_wp2_with fail
      obtain ⟨W0, hW0⟩ : ∃ W0, W0 = (((w.alloc (.cells #[.int .i64 f, .slice a ks.length c] 27)).alloc (.cells #[.int .i64 0, .slice none 0 0] 27)).alloc (.cells #[.int .i64 f, .slice (some ⟨w.heap.size + 1 + 1 + 1, 0, none⟩) ks.length ks.length] 27)) := ⟨_, rfl⟩
      have hs0 : W0.heap.size = w.heap.size + 1 + 1 + 1 := by subst hW0; simp
      have k1 : W0.cell? ⟨w.heap.size + 1 + 1, 0, none⟩ = some (.int .i64 f) := by subst hW0; go_simp
      have k2 : W0.cell? ⟨w.heap.size + 1 + 1, 1, none⟩ = some (.slice (some ⟨w.heap.size + 1 + 1 + 1, 0, none⟩) ks.length ks.length) := by subst hW0; go_simp
      have k3 : W0.cell? ⟨w.heap.size + 1, 0, none⟩ = some (.int .i64 0) := by subst hW0; go_simp
      have k4 : W0.cell? ⟨w.heap.size + 1, 1, none⟩ = some (.slice none 0 0) := by subst hW0; go_simp
      have f3 : W0.frozen? ⟨w.heap.size + 1, 0, none⟩ = false := by subst hW0; go_simp
      have f4 : W0.frozen? ⟨w.heap.size + 1, 1, none⟩ = false := by subst hW0; go_simp
      have hx0 : Ext w W0 := by subst hW0; go_grown
      rw [← hW0]
      clear hW0
      have hrow := Row.start W0 (madeCells #[.int .i64 0, .slice none 0 0] (ks.length * 2)) 27 ks (n := ks.length) (size_madeCells _ _)
      rw [hs0] at hrow
      have hxA := ext_alloc W0 (.cells (madeCells #[.int .i64 0, .slice none 0 0] (ks.length * 2)) 27)
      obtain ⟨W, hW⟩ : ∃ W, W = W0.alloc (.cells (madeCells #[.int .i64 0, .slice none 0 0] (ks.length * 2)) 27) := ⟨_, rfl⟩
      rw [← hW] at hrow hxA ⊢
      have hsW : W.heap.size = w.heap.size + 4 := by subst hW; simp; omega
      clear hW
      replace f3 := hxA.frozen k3 f3
      replace f4 := hxA.frozen k4 f4
      replace k1 := hxA.cell k1
      replace k2 := hxA.cell k2
      replace k3 := hxA.cell k3
      replace k4 := hxA.cell k4
      have hx : Ext w W := Ext.trans hx0 hxA
      clear hx0 hxA hs0 hmk
      go_loopw [21] (fun i wr => ∃ k : Nat, k ≤ ks.length ∧ i = .int .i64 k ∧ Row (w.heap.size + 1 + 1 + 1) ks.length k ks wr ∧ Chg [w.heap.size + 1 + 1 + 1] W wr) (fun i _ => ks.length - (intOf i).toNat)
      case atStart => exact ⟨0, by omega, rfl, hrow, Chg.refl _ _⟩
      case round =>
        obtain ⟨k, hkk, rfl, hr, hch⟩ := hrel
        have hext : Ext w wr := Chg.ext hx hch (by simp; omega)
        have q1 := hch.cell k1 (by simp)
        have q2 := hch.cell k2 (by simp)
        have q3 := hch.cell k3 (by simp)
        have q4 := hch.cell k4 (by simp)
        have z3 := hch.frozen k3 (by simp) f3
        have z4 := hch.frozen k4 (by simp) f4
        have hwr : w.heap.size + 4 ≤ wr.heap.size := by have := hch.size; omega
        by_cases hlt : k < ks.length
        · have hk1 : (k : Int) < ks.length := by omega
          obtain ⟨b', o', a', c', rfl, h1, h2, h3⟩ := hk.look hlt
          have g1 := hext.cell h1
          have g2 := hext.cell h2
          obtain ⟨⟨v1, e1⟩, y1⟩ := hr.1 (k * 2) (by omega)
          obtain ⟨⟨v2, e2⟩, y2⟩ := hr.1 (k * 2 + 1) (by omega)
          have hi2 := fun w' (hx : Chg [w.heap.size + 1 + 1 + 1] wr w') => Hih.out _ (List.getElem_mem hlt) w' _ _ (h3.ext (Chg.ext hext hx (by simp; omega))) (by have := size_le_sizes hlt; omega)
          have Hi := Lib.hid hi2; clear hi2
          have Hr := Lib.hid hr; clear hr
          have hA := ext_alloc wr (.cells #[.int .i64 ks[k].f, .slice a' ks[k].ks.length c'] 27)
          have n1 := cells2 wr (.int .i64 ks[k].f) (.slice a' ks[k].ks.length c') 27
          go_wp2_with fail
          obtain ⟨W2, hW2⟩ : ∃ W2, W2 = wr.alloc (.cells #[.int .i64 ks[k].f, .slice a' ks[k].ks.length c'] 27) := ⟨_, rfl⟩
          rw [← hW2] at hA n1 ⊢
          have hs2 : W2.heap.size = wr.heap.size + 1 := by subst hW2; simp
          clear hW2
          obtain ⟨n1, n2⟩ := n1
          have r2 := hA.cell q2
          have r3 := hA.cell e1
          have r4 := hA.cell e2
          have r5 := hA.frozen e1 y1
          have r6 := hA.frozen e2 y2
          have hA2 : Chg [w.heap.size + 1 + 1 + 1] wr W2.drew := Chg.of_ext (Ext.drew hA)
          go_region_held3 (fun w' => w'.cell? ⟨w.heap.size + 1 + 1, 1, none⟩ = some (.slice (some ⟨w.heap.size + 1 + 1 + 1, 0, none⟩) ks.length ks.length) ∧ w'.cell? ⟨wr.heap.size, 0, none⟩ = some (.int .i64 ks[k].f) ∧ w'.cell? ⟨wr.heap.size, 1, none⟩ = some (.slice a' ks[k].ks.length c') ∧ w'.frozen? ⟨w.heap.size + 1 + 1 + 1, k * 2, none⟩ = false ∧ w'.frozen? ⟨w.heap.size + 1 + 1 + 1, k * 2 + 1, none⟩ = false ∧ Chg [w.heap.size + 1 + 1 + 1] wr w')
            (((try go_split_ands); refine ⟨?_, ?_, ?_, ?_, ?_, ?_⟩ <;> first | (with_reducible assumption) | exact Ext.cell hw' (by (with_reducible assumption)) | exact Ext.frozen hw' r3 (by (with_reducible assumption)) | exact Ext.frozen hw' r4 (by (with_reducible assumption)) | exact Chg.trans (by (with_reducible assumption)) (Chg.of_ext hw') | exact Chg.setCell (Chg.setCell (by (with_reducible assumption)) _ (.inl (by simp))) _ (.inl (by simp)) | (rw [World.cell?_setCell_other _ _ _ _ (by intro e; injection e with i1 i2 i3; omega), World.cell?_setCell_other _ _ _ _ (by intro e; injection e with i1 i2 i3; omega)]; (with_reducible assumption)) | (rw [World.frozen?_setCell, World.frozen?_setCell]; (with_reducible assumption)) | (go_keep; done)))
            ((go_at_call 63; go_split_ands; refine (Hi.out _ (by (with_reducible assumption))).mono ?_; rintro e w' ⟨⟨a4, rfl, hn4⟩, hw'⟩; have e1' := Ext.cell hw' r3; have e2' := Ext.cell hw' r4))
          go_split_ands
          have hx2 : Ext wr w' := Ext.trans (Ext.drew hA) hw'
          have hn5 : NewTm (w.heap.size + 1 + 1 + 1 + 1) w' (.int .i64 ks[k].f) (.slice a4 ks[k].ks.length ks[k].ks.length) ks[k] := hn4.of_cells (by show _ ≤ W2.heap.size; omega) fun _ _ _ h => h
          have hr' := (Hr.out.ext hx2).step hlt hlt hn5
          go_wp2_with fail
          go_roundw
          case rel => exact ⟨k + 1, by omega, by go_num, hr', Chg.trans hch (by assumption)⟩
          case measure => simp [intOf]; omega
        · have hk1 : ¬ (k : Int) < ks.length := by omega
          have hke : k = ks.length := by omega
          rw [hke] at hr
          have Hr := Lib.hid hr; clear hr
          go_wp2_with fail
          have hc2 : Chg [w.heap.size + 1] wr ((wr.setCell ⟨w.heap.size + 1, 0, none⟩ (.int .i64 f)).setCell ⟨w.heap.size + 1, 1, none⟩ (.slice (some ⟨w.heap.size + 1 + 1 + 1, 0, none⟩) ks.length ks.length)) :=
            ((Chg.refl _ wr).setCell _ (.inl (by simp))).setCell _ (.inl (by simp))
          have c1 : ((wr.setCell ⟨w.heap.size + 1, 0, none⟩ (.int .i64 f)).setCell ⟨w.heap.size + 1, 1, none⟩ (.slice (some ⟨w.heap.size + 1 + 1 + 1, 0, none⟩) ks.length ks.length)).cell? ⟨w.heap.size + 1, 0, none⟩ = some (.int .i64 f) := by
            rw [World.cell?_setCell_other _ _ _ _ (by simp)]; exact World.cell?_setCell_same _ _ _ q3
          have c2 : ((wr.setCell ⟨w.heap.size + 1, 0, none⟩ (.int .i64 f)).setCell ⟨w.heap.size + 1, 1, none⟩ (.slice (some ⟨w.heap.size + 1 + 1 + 1, 0, none⟩) ks.length ks.length)).cell? ⟨w.heap.size + 1, 1, none⟩ = some (.slice (some ⟨w.heap.size + 1 + 1 + 1, 0, none⟩) ks.length ks.length) :=
            World.cell?_setCell_same (u := .slice none 0 0) _ _ _ (by rw [World.cell?_setCell_other _ _ _ _ (by simp)]; exact q4)
          refine bodyPost_ret (v := .agg #[.int .i64 f, .slice (some ⟨w.heap.size + 1 + 1 + 1, 0, none⟩) ks.length ks.length]) (by simp [results, Tryd.results63, go_sem, c1, c2]) rfl ?_
          refine ⟨⟨_, rfl, ?_, fun _ => ⟨_, rfl, fun j hj => by rw [World.frozen?_setCell, World.frozen?_setCell]; exact (Hr.out.1 j hj).2⟩⟩, Chg.ext hext hc2 (by simp)⟩
          simp only [NewTm]
          refine ⟨trivial, hf1, hf2, _, rfl, fun h => by rw [h] at h0; simp at h0, ?_⟩
          exact Hr.out.done.of_cells (by omega) fun p v hp hv => hc2.cell hv (by simp; omega)
    · have h0i : ¬ (0 : Int) < ks.length := by omega
      have hn : ks = [] := by cases ks with | nil => rfl | cons a b => simp at h0
      subst hn
      obtain ⟨W, hW⟩ : ∃ W, W = (((w.alloc (.cells #[.int .i64 f, .slice a 0 c] 27)).alloc (.cells #[.int .i64 0, .slice none 0 0] 27)).alloc (.cells #[.int .i64 f, .slice none 0 0] 27)) := ⟨_, rfl⟩
      have hx : Ext w W := by subst hW; go_grown
      have k1 : W.cell? ⟨w.heap.size + 1 + 1, 0, none⟩ = some (.int .i64 f) := by subst hW; go_simp
      have k2 : W.cell? ⟨w.heap.size + 1 + 1, 1, none⟩ = some (.slice none 0 0) := by subst hW; go_simp
      have k3 : W.cell? ⟨w.heap.size + 1, 0, none⟩ = some (.int .i64 0) := by subst hW; go_simp
      have k4 : W.cell? ⟨w.heap.size + 1, 1, none⟩ = some (.slice none 0 0) := by subst hW; go_simp
      have f3 : W.frozen? ⟨w.heap.size + 1, 0, none⟩ = false := by subst hW; go_simp
      have f4 : W.frozen? ⟨w.heap.size + 1, 1, none⟩ = false := by subst hW; go_simp
      go_enter Tryd.func63, Tryd.ntmps63
      go_wp2_with fail
      rw [← hW]
      clear hW
      go_loopw [21] (fun i wr => i = .int .i64 0 ∧ wr = W) (fun _ _ => 0)
      case atStart => exact ⟨rfl, rfl⟩
      case round =>
        obtain ⟨rfl, rfl⟩ := hrel
        go_wp2_with fail
        have hc2 : Chg [w.heap.size + 1] wr ((wr.setCell ⟨w.heap.size + 1, 0, none⟩ (.int .i64 f)).setCell ⟨w.heap.size + 1, 1, none⟩ (.slice none 0 0)) :=
          ((Chg.refl _ wr).setCell _ (.inl (by simp))).setCell _ (.inl (by simp))
        have c1 : ((wr.setCell ⟨w.heap.size + 1, 0, none⟩ (.int .i64 f)).setCell ⟨w.heap.size + 1, 1, none⟩ (.slice none 0 0)).cell? ⟨w.heap.size + 1, 0, none⟩ = some (.int .i64 f) := by
          rw [World.cell?_setCell_other _ _ _ _ (by simp)]; exact World.cell?_setCell_same _ _ _ k3
        have c2 : ((wr.setCell ⟨w.heap.size + 1, 0, none⟩ (.int .i64 f)).setCell ⟨w.heap.size + 1, 1, none⟩ (.slice none 0 0)).cell? ⟨w.heap.size + 1, 1, none⟩ = some (.slice none 0 0) :=
          World.cell?_setCell_same (u := .slice none 0 0) _ _ _ (by rw [World.cell?_setCell_other _ _ _ _ (by simp)]; exact k4)
        refine bodyPost_ret (v := .agg #[.int .i64 f, .slice none 0 0]) (by simp [results, Tryd.results63, go_sem, c1, c2]) rfl ?_
        refine ⟨⟨_, rfl, ?_, fun h => absurd h (by simp)⟩, Chg.ext hx hc2 (by simp)⟩
        simp only [NewTm]
        refine ⟨trivial, hf1, hf2, _, rfl, fun _ => rfl, ?_⟩
        simp only [NewTms]

/-- a copy of a term: its row of arguments may be written to -/
def CopyOf (B : Nat) (w : World) (a : Option Addr) (c : Nat) (t : Tm) : Prop :=
  t.ks.length ≤ c ∧ AtTm (fun b => B ≤ b) w (.int .i64 t.f) (.slice a t.ks.length c) t ∧
  (0 < t.ks.length → ∃ g, a = some ⟨g, 0, none⟩ ∧ B ≤ g ∧ g < w.heap.size ∧ TmRow (fun b => B ≤ b) g w t.ks ∧ ∀ j, j < t.ks.length * 2 → w.frozen? ⟨g, j, none⟩ = false)
theorem copyOf_any (t : Tm) (w : World) (x s : Value) (ht : IsTm w x s t) (hs : t.size ≤ 2097152) :
    Calls Tryd.prog 63 #[.agg #[x, s]] w fun e w' => (∃ a c, e = .returned (.agg #[.int .i64 t.f, .slice a t.ks.length c]) ∧ CopyOf w.heap.size w' a c t) ∧ Ext w w' := by
  refine (copyF_any t w x s ht hs).mono ?_
  rintro e w' ⟨⟨a, rfl, hn, hf⟩, hx⟩
  refine ⟨⟨a, _, rfl, Nat.le_refl _, hn.at, fun h => ?_⟩, hx⟩
  obtain ⟨g, rfl, hfz⟩ := hf h
  cases t with
  | mk f ks =>
    simp only [NewTm] at hn
    obtain ⟨-, -, -, a', he, -, hks⟩ := hn
    injection he with he
    subst he
    have hrow := hks.tmRow
    have hB : w.heap.size ≤ g := by
      cases ks with
      | nil => simp [Tm.ks] at h
      | cons k ks =>
        simp only [NewTms] at hks
        obtain ⟨b, o, x, s, e, hb, -⟩ := hks
        injection e with e
        injection e with e
        subst e; exact hb
    refine ⟨g, rfl, hB, ?_, fun i hi => by have := hrow i hi; simp only [Nat.zero_add] at this; exact this, hfz⟩
    obtain ⟨x, s, h1, -⟩ := hrow 0 h
    have := cell_lt h1
    exact this
theorem refCopyOf_any (t : Tm) (w : World) (x s : Value) (ht : IsTm w x s t) (hs : t.size ≤ 2097152) :
    Calls Tryd.prog 64 #[.agg #[x, s]] w fun e w' => (∃ a c, e = .returned (.agg #[.int .i64 t.f, .slice a t.ks.length c]) ∧ CopyOf w.heap.size w' a c t) ∧ Ext w w' := by
  refine (refCopy_any t w x s ht hs).mono ?_
  rintro e w' ⟨⟨v, rfl, hr⟩, hx⟩
  obtain ⟨a, c, rfl, hc, hat⟩ := hr.tms
  obtain ⟨-, -, -, -, r1, r2, -, -⟩ := ht.form
  refine ⟨⟨a, c, rfl, hc, atTm_of r1 r2 hc hat, fun h => ?_⟩, hx⟩
  obtain ⟨g, cap, cs, hv, hb, hlt, -, -, -, -⟩ := hr.at h
  injection hv with hv
  subst hv
  refine ⟨g, rfl, hb, hlt, hr.tmRow, fun j hj => ?_⟩
  obtain ⟨cs, -, ho, -⟩ := hr
  exact ho.frozenAt j
end Go.Proofs.YtoidhdcbemmfhaaDoor
