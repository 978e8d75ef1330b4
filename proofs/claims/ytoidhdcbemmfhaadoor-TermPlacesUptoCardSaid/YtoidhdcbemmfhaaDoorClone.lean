/- What slices.Clone returns of a row of numbers. -/
import Derived.Test.YtoidhdcbemmfhaaDoorRow2
import Derived.WalkSpells
namespace Go.Proofs.YtoidhdcbemmfhaaDoor
open Go.ChangeShapes Go.WideShapes Go.ChangeAt Go.RowKit

theorem eqn (w : World) (a : Option Addr) (n c : Nat) : (binOp .eql 41 (.slice a n c) (.slice none 0 0)).run Tryd.prog w = .ok (.bool a.isNone) w := by
  simp only [binOp]
  simp [Op.equal, Op.maxDepth, Lib.run_equalIn_slice_nil w 9999 41 _ a n c 0 0 Tryd.underlying41]
theorem GRow.of_ints {e B : Nat} {w : World} {v : Value} {l : List Int} (h : w.ownsRow B e 1 v l.length (l.map (Value.int .i64))) (hr : ∀ i (hi : i < l.length), -9223372036854775808 ≤ l[i] ∧ l[i] ≤ 9223372036854775807) : GRow eltInt e B w v l := by
  refine ⟨l.map fun n => [.int .i64 n], by simp, ?_, fun j h h' => by simp only [List.getElem_map]; exact ⟨rfl, hr j h⟩⟩
  have : (l.map fun n => [Value.int .i64 n]).flatten = l.map (Value.int .i64) := by
    clear h hr
    induction l with
    | nil => rfl
    | cons x l ih => simp only [List.map_cons, List.flatten_cons, ih]; rfl
  rw [this]; exact h
set_option maxHeartbeats 1000000 in
set_option maxRecDepth 100000 in
theorem clone_any (l : List Int) (w : World) (a : Option Addr) (c : Nat) (h : IsInts w a l) (hl : l.length ≤ 4194304) :
    Calls Tryd.prog 67 #[.slice a l.length c] w fun e w' => (∃ a' c', e = .returned (.slice a' l.length c') ∧ l.length ≤ c' ∧ IsInts w' a' l) ∧ Ext w w' := by
  obtain ⟨i0, hi0, hz0, hz1, hz2⟩ := info_parts infoInt
  cases a with
  | none =>
    have hl0 : l = [] := by
      cases l with
      | nil => rfl
      | cons x l => obtain ⟨-, -, b, o, h1, -⟩ := h 0 (by simp); cases h1
    subst hl0
    have hn : ∀ w, (binOp .eql 41 (.slice none 0 c) (.slice none 0 0)).run Tryd.prog w = .ok (.bool true) w := fun w => (eqn w _ _ _)
    go_enter Tryd.func67, Tryd.ntmps67
    go_wp2_with fail
    go_ret
    exact ⟨⟨none, 0, rfl, by simp, fun i hi => by simp at hi⟩, Below.refl _ _⟩
  | some ad =>
    have hn : ∀ n w, (binOp .eql 41 (.slice (some ad) n c) (.slice none 0 0)).run Tryd.prog w = .ok (.bool false) w := fun n w => (eqn w _ _ _)
    rcases Nat.eq_zero_or_pos l.length with h0 | h0
    · have hl0 : l = [] := List.length_eq_zero_iff.1 h0
      subst hl0
      clear h0
      simp only [List.length_nil]
      have hap : ∀ w a, (Builtin.append_ #[41, 41] 41 #[.slice (some a) 0 0, .slice (some ad) 0 c]).run Tryd.prog w = .ok (.slice (some a) 0 0) w := fun w a => by
        simp [Builtin.append_, run_underlying Tryd.underlying41, sizeOf, typeInfo, hi0, Builtin.lenOf, Builtin.firstCells, storeCells]
        rfl
      go_enter Tryd.func67, Tryd.ntmps67
      go_wp2_with fail
      go_ret
      exact ⟨⟨_, 0, rfl, by simp, fun i hi => by simp at hi⟩, ext_alloc _ _⟩
    · have hx := ext_alloc w (.cells #[] 3)
      have hown : (w.alloc (.cells #[] 3)).ownsRow w.heap.size 3 1 (.slice (some ⟨w.heap.size, 0, none⟩) 0 0) 0 [] := by
        refine ⟨by simp, .inr ⟨w.heap.size, 0, #[], rfl, Nat.le_refl _, heap_alloc_new _ _, by simp, by simp, by simp, by simp⟩⟩
      have hcell : ∀ j u, (l.map (Value.int .i64))[j]? = some u → (w.alloc (.cells #[] 3)).cell? (ad.add j) = some u := by
        intro j u hu
        rw [List.getElem?_map] at hu
        rcases Nat.lt_or_ge j l.length with hj | hj
        · rw [List.getElem?_eq_getElem hj] at hu
          injection hu with hu
          obtain ⟨-, -, b, o, h1, h2⟩ := h j hj
          injection h1 with h1
          subst h1
          rw [← hu]
          have : (⟨b, o, none⟩ : Addr).add j = ⟨b, o + j, none⟩ := by unfold Addr.add; split <;> simp_all
          rw [this]
          exact hx.cell h2
        · rw [List.getElem?_eq_none hj] at hu; cases hu
      have Hr := Lib.hid (fun i (hi : i < l.length) => (h i hi : _))
      have Hc := Lib.hid hcell
      have Ho := Lib.hid hown
      clear hcell hown h
      go_enter Tryd.func67, Tryd.ntmps67
      go_wp2_with ((at_builtin; refine wpList_append_lies _ rfl _ _ _ rfl w.heap.size 3 i0 _ 1 8 Tryd.underlying41 hi0 hz0 hz1 hz2 rfl (by decide) _ 0 [] rfl Ho.out ad l.length c (l.map (Value.int .i64)) rfl (by simp) Hc.out (by simp [Value.oneCell']) h0 (by simp only [maxLen]; omega) (by omega) (by simp) _ rfl ?_; intro g cap w2 hown2 hgrow hat hlt))
      go_ret
      have hgrow : (w.alloc (.cells #[] 3)).grownBy w2 (some w.heap.size) := hgrow
      have hx2 : Ext w w2 := ⟨hgrow.os, hgrow.tape, hgrow.output, by have := hgrow.size; simp at this; omega, fun k hk => (hgrow.block k (by simp; omega) (by simp only [ne_eq, Option.some.injEq]; omega)).trans (hx.block k hk)⟩
      simp only [Nat.zero_add, List.nil_append] at hown2 ⊢
      have hrow := GRow.of_ints hown2 (fun i hi => ⟨(Hr.out i hi).1, (Hr.out i hi).2.1⟩)
      obtain ⟨a', c', hv, hc', hat'⟩ := hrow.ints
      exact ⟨⟨a', c', by rw [← hv]; rfl, hc', hat'.isInts⟩, hx2⟩
end Go.Proofs.YtoidhdcbemmfhaaDoor
