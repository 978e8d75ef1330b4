/- What term.Copy and term.At return: the same term in new memory. -/
import Derived.Test.YtoidhdcbemmfhaaDoorSize
import Derived.Laws.MakeOwn
import Derived.Deep.RegionHeld3
import Derived.StillTailTactics
namespace Go.Proofs.YtoidhdcbemmfhaaDoor
open Go.ChangeShapes Go.WideShapes Go.ChangeAt Go.RowKit

mutual
/-- two cells read as a term all of whose arguments lie in blocks from B on, what belongs to a row's terms behind the row -/
def NewTm (B : Nat) (w : World) (x s : Value) : Tm → Prop
  | .mk n ks => x = .int .i64 n ∧ -9223372036854775808 ≤ n ∧ n ≤ 9223372036854775807 ∧ ∃ a, s = .slice a ks.length ks.length ∧ (ks = [] → a = none) ∧ NewTms B w a ks
def NewTms (B : Nat) (w : World) (a : Option Addr) : List Tm → Prop
  | [] => True
  | t :: ts => ∃ b o x s, a = some ⟨b, o, none⟩ ∧ B ≤ b ∧ w.cell? ⟨b, o, none⟩ = some x ∧ w.cell? ⟨b, o + 1, none⟩ = some s ∧ NewTm (b + 1) w x s t ∧ NewTms B w (some ⟨b, o + 2, none⟩) ts
end
section
variable {w w' : World}
mutual
theorem NewTm.of_cells : ∀ {t : Tm} {x s : Value} {B C : Nat}, C ≤ B → (∀ p v, B ≤ p.block → w.cell? p = some v → w'.cell? p = some v) → NewTm B w x s t → NewTm C w' x s t
  | .mk n ks, x, s, B, C, hB, h, ht => by
    simp only [NewTm] at ht ⊢
    obtain ⟨h1, h2, h3, a, h4, h6, h5⟩ := ht
    exact ⟨h1, h2, h3, a, h4, h6, NewTms.of_cells hB h h5⟩
theorem NewTms.of_cells : ∀ {ts : List Tm} {a : Option Addr} {B C : Nat}, C ≤ B → (∀ p v, B ≤ p.block → w.cell? p = some v → w'.cell? p = some v) → NewTms B w a ts → NewTms C w' a ts
  | [], a, B, C, hB, h, _ => trivial
  | t :: ts, a, B, C, hB, h, ht => by
    simp only [NewTms] at ht ⊢
    obtain ⟨b, o, x, s, h1, h0, h2, h3, h4, h5⟩ := ht
    exact ⟨b, o, x, s, h1, Nat.le_trans hB h0, h _ _ h0 h2, h _ _ h0 h3, NewTm.of_cells (Nat.le_refl _) (fun p v hp => h p v (by omega)) h4, NewTms.of_cells hB h h5⟩
end
mutual
theorem NewTm.isTm : ∀ {t : Tm} {x s : Value} {B : Nat}, NewTm B w x s t → IsTm w x s t
  | .mk n ks, x, s, B, ht => by
    simp only [NewTm] at ht; simp only [IsTm]
    obtain ⟨h1, h2, h3, a, h4, -, h5⟩ := ht
    exact ⟨h1, h2, h3, a, _, h4, Nat.le_refl _, NewTms.isTms h5⟩
theorem NewTms.isTms : ∀ {ts : List Tm} {a : Option Addr} {B : Nat}, NewTms B w a ts → IsTms w a ts
  | [], a, B, _ => by simp only [IsTms]
  | t :: ts, a, B, ht => by
    simp only [NewTms] at ht; simp only [IsTms]
    obtain ⟨b, o, x, s, h1, h0, h2, h3, h4, h5⟩ := ht
    exact ⟨b, o, x, s, h1, h2, h3, NewTm.isTm h4, NewTms.isTms h5⟩
end
end
theorem NewTm.ext {B : Nat} {w w' : World} {t : Tm} {x s : Value} (h : NewTm B w x s t) (hx : Ext w w') : NewTm B w' x s t := h.of_cells (Nat.le_refl _) fun _ _ _ hp => hx.cell hp
/-- a term that lies from B on stays when what changes lies ahead -/
theorem NewTm.chg {S : List Nat} {B : Nat} {w w' : World} {t : Tm} {x s : Value} (h : NewTm B w x s t) (hx : Chg S w w') (hS : ∀ i ∈ S, i < B) : NewTm B w' x s t :=
  h.of_cells (Nat.le_refl _) fun p _ hB hp => hx.cell hp (fun hm => by have := hS _ hm; omega)
theorem NewTm.form {B : Nat} {w : World} {x s : Value} : ∀ {t : Tm}, NewTm B w x s t → ∃ a, x = .int .i64 t.f ∧ s = .slice a t.ks.length t.ks.length
  | .mk f ks, h => by
    simp only [NewTm] at h
    obtain ⟨h1, -, -, a, h4, -, -⟩ := h
    exact ⟨a, h1, h4⟩
/-- rows of new terms, from the parts -/
theorem NewTms.of_at {B b : Nat} {w : World} : ∀ {ts : List Tm} {o : Nat}, B ≤ b → (∀ i (h : i < ts.length), ∃ x s, w.cell? ⟨b, o + i * 2, none⟩ = some x ∧ w.cell? ⟨b, o + i * 2 + 1, none⟩ = some s ∧ NewTm (b + 1) w x s ts[i]) → NewTms B w (some ⟨b, o, none⟩) ts
  | [], _, _, _ => trivial
  | t :: ts, o, hB, h => by
    simp only [NewTms]
    obtain ⟨x, s, h1, h2, h3⟩ := h 0 (by simp)
    refine ⟨b, o, x, s, rfl, hB, by simpa using h1, by simpa using h2, h3, NewTms.of_at hB fun i hi => ?_⟩
    obtain ⟨x, s, g1, g2, g3⟩ := h (i + 1) (by simpa using hi)
    exact ⟨x, s, by rw [show o + 2 + i * 2 = o + (i + 1) * 2 by omega]; exact g1, by rw [show o + 2 + i * 2 + 1 = o + (i + 1) * 2 + 1 by omega]; exact g2, by simpa using g3⟩

theorem infoTerm : (Tryd.prog.info? 27).map (fun i => (i.zero, i.size, i.bytes)) = some (some (.agg #[.int .i64 0, .slice none 0 0]), 2, 32) := by kernel_rfl
theorem mk_terms (n : Nat) (hn : n ≤ 2097152) (w : World) : (Instr.makeSlice 25 (.int .i64 (n : Int)) (.int .i64 (n : Int))).run Tryd.prog w = .ok (.slice (some ⟨w.heap.size, 0, none⟩) n n) (w.alloc (.cells (madeCells #[.int .i64 0, .slice none 0 0] (n * 2)) 27)) := by
  obtain ⟨i, hi, hz, hs, hb⟩ : ∃ i, Tryd.prog.info? 27 = some i ∧ i.zero = some (.agg #[.int .i64 0, .slice none 0 0]) ∧ i.size = 2 ∧ i.bytes = 32 := by
    have h := infoTerm
    cases h2 : Tryd.prog.info? 27 with
    | none => rw [h2] at h; cases h
    | some i => rw [h2] at h; simp only [Option.map_some, Option.some.injEq, Prod.mk.injEq] at h; exact ⟨i, rfl, h⟩
  have hr := run_make (P := Tryd.prog) w 25 27 i _ Tryd.underlying25 hi hz .i64 .i64 n n (by omega) (by omega) (by rw [hb]; omega) (by omega)
  simp only [Int.toNat_natCast] at hr
  rw [hs] at hr
  exact hr
/-- block B has room for n terms; the first k of ks stand in it -/
def Row (B n k : Nat) (ks : List Tm) (w : World) : Prop :=
  (∀ j, j < n * 2 → (∃ v, w.cell? ⟨B, j, none⟩ = some v) ∧ w.frozen? ⟨B, j, none⟩ = false) ∧
  ∀ j (h : j < ks.length), j < k → ∃ a, w.cell? ⟨B, j * 2, none⟩ = some (.int .i64 ks[j].f) ∧ w.cell? ⟨B, j * 2 + 1, none⟩ = some (.slice a ks[j].ks.length ks[j].ks.length) ∧ NewTm (B + 1) w (.int .i64 ks[j].f) (.slice a ks[j].ks.length ks[j].ks.length) ks[j]
theorem Row.start (w : World) (arr : Array Value) (t : TypeId) (ks : List Tm) {n : Nat} (hs : arr.size = n * 2) : Row w.heap.size n 0 ks (w.alloc (.cells arr t)) := by
  have ho : (w.alloc (.cells arr t)).heap[w.heap.size]? = some (.cells arr t (0, 0)) := by
    show (w.heap.push _)[w.heap.size]? = _
    simp
  refine ⟨fun j hj => ⟨⟨arr[j]'(by omega), ?_⟩, ?_⟩, fun j _ h => by omega⟩
  · unfold World.cell?; rw [ho]; simp [show j < arr.size by omega]
  · unfold World.frozen?; rw [ho]; simp
theorem Row.ext {B n k : Nat} {ks : List Tm} {w w' : World} (h : Row B n k ks w) (hx : Ext w w') : Row B n k ks w' := by
  refine ⟨fun j hj => ?_, fun j hl hj => ?_⟩
  · obtain ⟨⟨v, h1⟩, h2⟩ := h.1 j hj
    exact ⟨⟨v, hx.cell h1⟩, hx.frozen h1 h2⟩
  · obtain ⟨a, h1, h2, h3⟩ := h.2 j hl hj
    exact ⟨a, hx.cell h1, hx.cell h2, h3.ext hx⟩
theorem Row.step {B n k : Nat} {ks : List Tm} {w : World} (h : Row B n k ks w) (hkn : k < n) (hk : k < ks.length) {a : Option Addr} (hn : NewTm (B + 1) w (.int .i64 ks[k].f) (.slice a ks[k].ks.length ks[k].ks.length) ks[k]) :
    Row B n (k + 1) ks ((w.setCell ⟨B, k * 2, none⟩ (.int .i64 ks[k].f)).setCell ⟨B, k * 2 + 1, none⟩ (.slice a ks[k].ks.length ks[k].ks.length)) := by
  have hc : Chg [B] w ((w.setCell ⟨B, k * 2, none⟩ (.int .i64 ks[k].f)).setCell ⟨B, k * 2 + 1, none⟩ (.slice a ks[k].ks.length ks[k].ks.length)) :=
    ((Chg.refl [B] w).setCell _ (.inl (by simp))).setCell _ (.inl (by simp))
  obtain ⟨⟨v1, e1⟩, -⟩ := h.1 (k * 2) (by omega)
  obtain ⟨⟨v2, e2⟩, -⟩ := h.1 (k * 2 + 1) (by omega)
  have oth : ∀ j, j ≠ k * 2 → j ≠ k * 2 + 1 → ((w.setCell ⟨B, k * 2, none⟩ (.int .i64 ks[k].f)).setCell ⟨B, k * 2 + 1, none⟩ (.slice a ks[k].ks.length ks[k].ks.length)).cell? ⟨B, j, none⟩ = w.cell? ⟨B, j, none⟩ := by
    intro j h1 h2
    rw [World.cell?_setCell_other _ _ _ _ (by intro e; injection e with _ e2; omega), World.cell?_setCell_other _ _ _ _ (by intro e; injection e with _ e2; omega)]
  have c1 : ((w.setCell ⟨B, k * 2, none⟩ (.int .i64 ks[k].f)).setCell ⟨B, k * 2 + 1, none⟩ (.slice a ks[k].ks.length ks[k].ks.length)).cell? ⟨B, k * 2, none⟩ = some (.int .i64 ks[k].f) := by
    rw [World.cell?_setCell_other _ _ _ _ (by intro e; injection e with _ e2; omega)]
    exact World.cell?_setCell_same _ _ _ e1
  have c2 : ((w.setCell ⟨B, k * 2, none⟩ (.int .i64 ks[k].f)).setCell ⟨B, k * 2 + 1, none⟩ (.slice a ks[k].ks.length ks[k].ks.length)).cell? ⟨B, k * 2 + 1, none⟩ = some (.slice a ks[k].ks.length ks[k].ks.length) := by
    apply World.cell?_setCell_same (u := v2)
    rw [World.cell?_setCell_other _ _ _ _ (by intro e; injection e with _ e2; omega)]; exact e2
  refine ⟨fun j hj => ?_, fun j hl hj => ?_⟩
  · obtain ⟨⟨v, h1⟩, h2⟩ := h.1 j hj
    refine ⟨?_, by rw [World.frozen?_setCell, World.frozen?_setCell]; exact h2⟩
    by_cases j1 : j = k * 2
    · subst j1; exact ⟨_, c1⟩
    · by_cases j2 : j = k * 2 + 1
      · subst j2; exact ⟨_, c2⟩
      · exact ⟨v, by rw [oth j j1 j2]; exact h1⟩
  · by_cases hjk : j = k
    · subst hjk
      exact ⟨a, c1, c2, hn.chg hc (by simp)⟩
    · obtain ⟨a', h1, h2, h3⟩ := h.2 j hl (by omega)
      exact ⟨a', by rw [oth _ (by omega) (by omega)]; exact h1, by rw [oth _ (by omega) (by omega)]; exact h2, h3.chg hc (by simp)⟩
theorem Row.done {B n : Nat} {ks : List Tm} {w : World} (h : Row B n ks.length ks w) : NewTms B w (some ⟨B, 0, none⟩) ks :=
  NewTms.of_at (Nat.le_refl _) fun i hi => by
    obtain ⟨a, h1, h2, h3⟩ := h.2 i hi hi
    exact ⟨_, _, by rw [Nat.zero_add]; exact h1, by rw [Nat.zero_add]; exact h2, h3⟩
theorem madeCells_at {z : Array Value} {n i : Nat} (h : i < n) (_hz : 0 < z.size) : ∃ v, (madeCells z n)[i]? = some v := by
  rw [Array.getElem?_eq_getElem (by rw [size_madeCells]; exact h)]; exact ⟨_, rfl⟩

set_option maxHeartbeats 1000000 in
set_option maxRecDepth 100000 in
theorem copy_any (t : Tm) : ∀ (w : World) (x s : Value), IsTm w x s t → t.size ≤ 2097152 →
    Calls Tryd.prog 63 #[.agg #[x, s]] w fun e w' => (∃ a, e = .returned (.agg #[.int .i64 t.f, .slice a t.ks.length t.ks.length]) ∧ NewTm w.heap.size w' (.int .i64 t.f) (.slice a t.ks.length t.ks.length) t) ∧ Ext w w' := by
  induction t using Tm.ind with
  | h f ks ih =>
    intro w x s ht hs
    simp only [IsTm] at ht
    obtain ⟨rfl, hf1, hf2, a, c, rfl, hc, hk⟩ := ht
    simp only [Tm.size] at hs
    show Calls Tryd.prog 63 _ w fun e w' => (∃ a, e = .returned (.agg #[.int .i64 f, .slice a ks.length ks.length]) ∧ NewTm w.heap.size w' (.int .i64 f) (.slice a ks.length ks.length) (.mk f ks)) ∧ Ext w w'
    have hkl := length_le_sizes ks
    have Hih := Lib.hid ih; clear ih
    by_cases h0 : 0 < ks.length
    · have h0i : (0 : Int) < ks.length := by omega
      go_enter Tryd.func63, Tryd.ntmps63
      have hmk := mk_terms ks.length (by omega)
      go_wp2_with fail
      obtain ⟨W0, hW0⟩ : ∃ W0, W0 = (((w.alloc (.cells #[.int .i64 f, .slice a ks.length c] 27)).alloc (.cells #[.int .i64 0, .slice none 0 0] 27)).alloc (.cells #[.int .i64 f, .slice (some ⟨w.heap.size + 1 + 1 + 1, 0, none⟩) ks.length ks.length] 27)) := ⟨_, rfl⟩
      have hs0 : W0.heap.size = w.heap.size + 1 + 1 + 1 := by subst hW0; simp
      have k1 : W0.cell? ⟨w.heap.size + 1 + 1, 0, none⟩ = some (.int .i64 f) := by subst hW0; go_simp
      have k2 : W0.cell? ⟨w.heap.size + 1 + 1, 1, none⟩ = some (.slice (some ⟨w.heap.size + 1 + 1 + 1, 0, none⟩) ks.length ks.length) := by subst hW0; go_simp
      have k3 : W0.cell? ⟨w.heap.size + 1, 0, none⟩ = some (.int .i64 0) := by subst hW0; go_simp
      have k4 : W0.cell? ⟨w.heap.size + 1, 1, none⟩ = some (.slice none 0 0) := by subst hW0; go_simp
      have f3 : W0.frozen? ⟨w.heap.size + 1, 0, none⟩ = false := by subst hW0; go_simp
      have f4 : W0.frozen? ⟨w.heap.size + 1, 1, none⟩ = false := by subst hW0; go_simp
      have hx0 : Ext w W0 := by subst hW0; go_grown
      rw [← hW0]
      clear hW0
      have hrow := Row.start W0 (madeCells #[.int .i64 0, .slice none 0 0] (ks.length * 2)) 27 ks (n := ks.length) (size_madeCells _ _)
      rw [hs0] at hrow
      have hxA := ext_alloc W0 (.cells (madeCells #[.int .i64 0, .slice none 0 0] (ks.length * 2)) 27)
      obtain ⟨W, hW⟩ : ∃ W, W = W0.alloc (.cells (madeCells #[.int .i64 0, .slice none 0 0] (ks.length * 2)) 27) := ⟨_, rfl⟩
      rw [← hW] at hrow hxA ⊢
      have hsW : W.heap.size = w.heap.size + 4 := by subst hW; simp; omega
      clear hW
      replace f3 := hxA.frozen k3 f3
      replace f4 := hxA.frozen k4 f4
      replace k1 := hxA.cell k1
      replace k2 := hxA.cell k2
      replace k3 := hxA.cell k3
      replace k4 := hxA.cell k4
      have hx : Ext w W := Ext.trans hx0 hxA
      clear hx0 hxA hs0 hmk
      go_loopw [21] (fun i wr => ∃ k : Nat, k ≤ ks.length ∧ i = .int .i64 k ∧ Row (w.heap.size + 1 + 1 + 1) ks.length k ks wr ∧ Chg [w.heap.size + 1 + 1 + 1] W wr) (fun i _ => ks.length - (intOf i).toNat)
      case atStart => exact ⟨0, by omega, rfl, hrow, Chg.refl _ _⟩
      case round =>
        obtain ⟨k, hkk, rfl, hr, hch⟩ := hrel
        have hext : Ext w wr := Chg.ext hx hch (by simp; omega)
        have q1 := hch.cell k1 (by simp)
        have q2 := hch.cell k2 (by simp)
        have q3 := hch.cell k3 (by simp)
        have q4 := hch.cell k4 (by simp)
        have z3 := hch.frozen k3 (by simp) f3
        have z4 := hch.frozen k4 (by simp) f4
        have hwr : w.heap.size + 4 ≤ wr.heap.size := by have := hch.size; omega
        by_cases hlt : k < ks.length
        · have hk1 : (k : Int) < ks.length := by omega
          obtain ⟨b', o', a', c', rfl, h1, h2, h3⟩ := hk.look hlt
          have g1 := hext.cell h1
          have g2 := hext.cell h2
          obtain ⟨⟨v1, e1⟩, y1⟩ := hr.1 (k * 2) (by omega)
          obtain ⟨⟨v2, e2⟩, y2⟩ := hr.1 (k * 2 + 1) (by omega)
          have hi2 := fun w' (hx : Chg [w.heap.size + 1 + 1 + 1] wr w') => Hih.out _ (List.getElem_mem hlt) w' _ _ (h3.ext (Chg.ext hext hx (by simp; omega))) (by have := size_le_sizes hlt; omega)
          have Hi := Lib.hid hi2; clear hi2
          have Hr := Lib.hid hr; clear hr
          have hA := ext_alloc wr (.cells #[.int .i64 ks[k].f, .slice a' ks[k].ks.length c'] 27)
          have n1 := cells2 wr (.int .i64 ks[k].f) (.slice a' ks[k].ks.length c') 27
          go_wp2_with fail
          obtain ⟨W2, hW2⟩ : ∃ W2, W2 = wr.alloc (.cells #[.int .i64 ks[k].f, .slice a' ks[k].ks.length c'] 27) := ⟨_, rfl⟩
          rw [← hW2] at hA n1 ⊢
          have hs2 : W2.heap.size = wr.heap.size + 1 := by subst hW2; simp
          clear hW2
          obtain ⟨n1, n2⟩ := n1
          have r2 := hA.cell q2
          have r3 := hA.cell e1
          have r4 := hA.cell e2
          have r5 := hA.frozen e1 y1
          have r6 := hA.frozen e2 y2
          have hA2 : Chg [w.heap.size + 1 + 1 + 1] wr W2.drew := Chg.of_ext (Ext.drew hA)
          go_region_held3 (fun w' => w'.cell? ⟨w.heap.size + 1 + 1, 1, none⟩ = some (.slice (some ⟨w.heap.size + 1 + 1 + 1, 0, none⟩) ks.length ks.length) ∧ w'.cell? ⟨wr.heap.size, 0, none⟩ = some (.int .i64 ks[k].f) ∧ w'.cell? ⟨wr.heap.size, 1, none⟩ = some (.slice a' ks[k].ks.length c') ∧ w'.frozen? ⟨w.heap.size + 1 + 1 + 1, k * 2, none⟩ = false ∧ w'.frozen? ⟨w.heap.size + 1 + 1 + 1, k * 2 + 1, none⟩ = false ∧ Chg [w.heap.size + 1 + 1 + 1] wr w')
            (((try go_split_ands); refine ⟨?_, ?_, ?_, ?_, ?_, ?_⟩ <;> first | (with_reducible assumption) | exact Ext.cell hw' (by (with_reducible assumption)) | exact Ext.frozen hw' r3 (by (with_reducible assumption)) | exact Ext.frozen hw' r4 (by (with_reducible assumption)) | exact Chg.trans (by (with_reducible assumption)) (Chg.of_ext hw') | exact Chg.setCell (Chg.setCell (by (with_reducible assumption)) _ (.inl (by simp))) _ (.inl (by simp)) | (rw [World.cell?_setCell_other _ _ _ _ (by intro e; injection e with i1 i2 i3; omega), World.cell?_setCell_other _ _ _ _ (by intro e; injection e with i1 i2 i3; omega)]; (with_reducible assumption)) | (rw [World.frozen?_setCell, World.frozen?_setCell]; (with_reducible assumption)) | (go_keep; done)))
            ((go_at_call 63; go_split_ands; refine (Hi.out _ (by (with_reducible assumption))).mono ?_; rintro e w' ⟨⟨a4, rfl, hn4⟩, hw'⟩; have e1' := Ext.cell hw' r3; have e2' := Ext.cell hw' r4))
          go_split_ands
          have hx2 : Ext wr w' := Ext.trans (Ext.drew hA) hw'
          have hn5 : NewTm (w.heap.size + 1 + 1 + 1 + 1) w' (.int .i64 ks[k].f) (.slice a4 ks[k].ks.length ks[k].ks.length) ks[k] := hn4.of_cells (by show _ ≤ W2.heap.size; omega) fun _ _ _ h => h
          have hr' := (Hr.out.ext hx2).step hlt hlt hn5
          go_wp2_with fail
          go_roundw
          case rel => exact ⟨k + 1, by omega, by go_num, hr', Chg.trans hch (by assumption)⟩
          case measure => simp [intOf]; omega
        · have hk1 : ¬ (k : Int) < ks.length := by omega
          have hke : k = ks.length := by omega
          rw [hke] at hr
          have Hr := Lib.hid hr; clear hr
          go_wp2_with fail
          have hc2 : Chg [w.heap.size + 1] wr ((wr.setCell ⟨w.heap.size + 1, 0, none⟩ (.int .i64 f)).setCell ⟨w.heap.size + 1, 1, none⟩ (.slice (some ⟨w.heap.size + 1 + 1 + 1, 0, none⟩) ks.length ks.length)) :=
            ((Chg.refl _ wr).setCell _ (.inl (by simp))).setCell _ (.inl (by simp))
          have c1 : ((wr.setCell ⟨w.heap.size + 1, 0, none⟩ (.int .i64 f)).setCell ⟨w.heap.size + 1, 1, none⟩ (.slice (some ⟨w.heap.size + 1 + 1 + 1, 0, none⟩) ks.length ks.length)).cell? ⟨w.heap.size + 1, 0, none⟩ = some (.int .i64 f) := by
            rw [World.cell?_setCell_other _ _ _ _ (by simp)]; exact World.cell?_setCell_same _ _ _ q3
          have c2 : ((wr.setCell ⟨w.heap.size + 1, 0, none⟩ (.int .i64 f)).setCell ⟨w.heap.size + 1, 1, none⟩ (.slice (some ⟨w.heap.size + 1 + 1 + 1, 0, none⟩) ks.length ks.length)).cell? ⟨w.heap.size + 1, 1, none⟩ = some (.slice (some ⟨w.heap.size + 1 + 1 + 1, 0, none⟩) ks.length ks.length) :=
            World.cell?_setCell_same (u := .slice none 0 0) _ _ _ (by rw [World.cell?_setCell_other _ _ _ _ (by simp)]; exact q4)
          refine bodyPost_ret (v := .agg #[.int .i64 f, .slice (some ⟨w.heap.size + 1 + 1 + 1, 0, none⟩) ks.length ks.length]) (by simp [results, Tryd.results63, go_sem, c1, c2]) rfl ?_
          refine ⟨⟨_, rfl, ?_⟩, Chg.ext hext hc2 (by simp)⟩
          simp only [NewTm]
          refine ⟨trivial, hf1, hf2, _, rfl, fun h => by rw [h] at h0; simp at h0, ?_⟩
          exact Hr.out.done.of_cells (by omega) fun p v hp hv => hc2.cell hv (by simp; omega)
    · have h0i : ¬ (0 : Int) < ks.length := by omega
      have hn : ks = [] := by cases ks with | nil => rfl | cons a b => simp at h0
      subst hn
      obtain ⟨W, hW⟩ : ∃ W, W = (((w.alloc (.cells #[.int .i64 f, .slice a 0 c] 27)).alloc (.cells #[.int .i64 0, .slice none 0 0] 27)).alloc (.cells #[.int .i64 f, .slice none 0 0] 27)) := ⟨_, rfl⟩
      have hx : Ext w W := by subst hW; go_grown
      have k1 : W.cell? ⟨w.heap.size + 1 + 1, 0, none⟩ = some (.int .i64 f) := by subst hW; go_simp
      have k2 : W.cell? ⟨w.heap.size + 1 + 1, 1, none⟩ = some (.slice none 0 0) := by subst hW; go_simp
      have k3 : W.cell? ⟨w.heap.size + 1, 0, none⟩ = some (.int .i64 0) := by subst hW; go_simp
      have k4 : W.cell? ⟨w.heap.size + 1, 1, none⟩ = some (.slice none 0 0) := by subst hW; go_simp
      have f3 : W.frozen? ⟨w.heap.size + 1, 0, none⟩ = false := by subst hW; go_simp
      have f4 : W.frozen? ⟨w.heap.size + 1, 1, none⟩ = false := by subst hW; go_simp
      go_enter Tryd.func63, Tryd.ntmps63
      go_wp2_with fail
      rw [← hW]
      clear hW
      go_loopw [21] (fun i wr => i = .int .i64 0 ∧ wr = W) (fun _ _ => 0)
      case atStart => exact ⟨rfl, rfl⟩
      case round =>
        obtain ⟨rfl, rfl⟩ := hrel
        go_wp2_with fail
        have hc2 : Chg [w.heap.size + 1] wr ((wr.setCell ⟨w.heap.size + 1, 0, none⟩ (.int .i64 f)).setCell ⟨w.heap.size + 1, 1, none⟩ (.slice none 0 0)) :=
          ((Chg.refl _ wr).setCell _ (.inl (by simp))).setCell _ (.inl (by simp))
        have c1 : ((wr.setCell ⟨w.heap.size + 1, 0, none⟩ (.int .i64 f)).setCell ⟨w.heap.size + 1, 1, none⟩ (.slice none 0 0)).cell? ⟨w.heap.size + 1, 0, none⟩ = some (.int .i64 f) := by
          rw [World.cell?_setCell_other _ _ _ _ (by simp)]; exact World.cell?_setCell_same _ _ _ k3
        have c2 : ((wr.setCell ⟨w.heap.size + 1, 0, none⟩ (.int .i64 f)).setCell ⟨w.heap.size + 1, 1, none⟩ (.slice none 0 0)).cell? ⟨w.heap.size + 1, 1, none⟩ = some (.slice none 0 0) :=
          World.cell?_setCell_same (u := .slice none 0 0) _ _ _ (by rw [World.cell?_setCell_other _ _ _ _ (by simp)]; exact k4)
        refine bodyPost_ret (v := .agg #[.int .i64 f, .slice none 0 0]) (by simp [results, Tryd.results63, go_sem, c1, c2]) rfl ?_
        refine ⟨⟨_, rfl, ?_⟩, Chg.ext hx hc2 (by simp)⟩
        simp only [NewTm]
        refine ⟨trivial, hf1, hf2, _, rfl, fun _ => rfl, ?_⟩
        simp only [NewTms]
end Go.Proofs.YtoidhdcbemmfhaaDoor
