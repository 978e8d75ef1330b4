/- Rows of numbers: a whole row appended to a row of the call's own. Condition: at most 8388608 numbers. -/
import Derived.Test.YtapoedcmhdlpfaaQ10
import Derived.Test.YtapoedcmhdlpfaaQ19
import Derived.Laws.OwnMore
import Derived.Deep.AppendLies
namespace Go.Proofs.Ytapoedcmhdlpfaa
open Go.ChangeShapes Go.WideShapes Go.ChangeAt Go.RowKit
def inI (x : Int) : Prop := -9223372036854775808 ≤ x ∧ x ≤ 9223372036854775807
theorem css_ints {P : Nat → Prop} {w : World} : ∀ {l : List Int} {cs : List (List Value)}, cs.length = l.length → (∀ j (h : j < l.length) (h' : j < cs.length), eltInt.is P w cs[j] l[j]) → cs.flatten = l.map (Value.int .i64) ∧ ∀ s ∈ l, inI s
  | [], cs, hl, _ => by
    have : cs = [] := List.eq_nil_of_length_eq_zero hl
    subst this; simp
  | s :: l, cs, hl, h => by
    cases cs with
    | nil => simp at hl
    | cons c cs =>
      obtain ⟨h1, h2⟩ := css_ints (l := l) (cs := cs) (by simpa using hl) (fun j hj hj' => by have := h (j + 1) (by simpa using hj) (by simpa using hj'); simpa using this)
      obtain ⟨h3, h4, h5⟩ := h 0 (by simp) (by simp)
      simp only [List.getElem_cons_zero] at h3 h4 h5
      subst h3
      refine ⟨by rw [List.flatten_cons, h1]; rfl, fun x hx => ?_⟩
      rcases List.mem_cons.1 hx with rfl | hx
      · exact ⟨h4, h5⟩
      · exact h2 x hx
theorem GRow.ownI {B : Nat} {w : World} {v : Value} {l : List Int} (h : GRow eltInt 3 B w v l) : w.ownsRow B 3 1 v l.length (l.map (Value.int .i64)) ∧ ∀ s ∈ l, inI s := by
  obtain ⟨cs, h1, h2, h3⟩ := h
  obtain ⟨h4, h5⟩ := css_ints (l := l) (cs := cs) h1 h3
  rw [h4] at h2
  exact ⟨h2, h5⟩
theorem flat_ints : ∀ l : List Int, (l.map fun s => [Value.int .i64 s]).flatten = l.map (Value.int .i64)
  | [] => rfl
  | s :: l => by rw [List.map_cons, List.flatten_cons, flat_ints l]; rfl
theorem GRow.ofI {B : Nat} {w : World} {v : Value} {l : List Int} (h : w.ownsRow B 3 1 v l.length (l.map (Value.int .i64))) (hs : ∀ s ∈ l, inI s) : GRow eltInt 3 B w v l := by
  refine ⟨l.map fun s => [.int .i64 s], by simp, ?_, fun j hj hj' => ?_⟩
  · rw [flat_ints]; exact h
  · simp only [List.getElem_map]
    exact ⟨rfl, hs _ (List.getElem_mem hj)⟩
theorem ints_cells {w : World} {l : List Int} {b o : Nat} (h : IsInts w (some ⟨b, o, none⟩) l) : (∀ j u, (l.map (Value.int .i64))[j]? = some u → w.cell? ⟨b, o + j, none⟩ = some u) ∧ ∀ s ∈ l, inI s := by
  refine ⟨fun j u hj => ?_, fun s hs => ?_⟩
  · obtain ⟨hj1, hj2⟩ := List.getElem?_eq_some_iff.1 hj
    rw [List.length_map] at hj1
    obtain ⟨-, -, b', o', he, hc⟩ := h j hj1
    injection he with he; injection he with e1 e2 _
    subst e1; subst e2; subst hj2
    rw [List.getElem_map]; exact hc
  · obtain ⟨i, hi, rfl⟩ := List.getElem_of_mem hs
    exact ⟨(h i hi).1, (h i hi).2.1⟩
theorem run_append_ints {B : Nat} {w : World} {v : Value} {l xs : List Int} (hrow : GRow eltInt 3 B w v l) {b : Option Addr} {c : Nat} (h : IsInts w b xs) (hlen : l.length + xs.length ≤ 8388608) (hbase : B ≤ w.heap.size) (ty : TypeId) :
    ∃ v' w', (Builtin.append_ #[31, 31] ty #[v, .slice b xs.length c]).run Try.prog w = .ok v' w' ∧ GRow eltInt 3 B w' v' (l ++ xs) ∧ Chg v.ownBlock.toList w w' ∧ (v'.ownBlock = v.ownBlock ∨ ∀ g, v'.ownBlock = some g → w.heap.size ≤ g) := by
  obtain ⟨i0, hi0, hz0, hz1, hz2⟩ := info_parts infoInt
  obtain ⟨ho, hs⟩ := hrow.ownI
  cases b with
  | none =>
    have hx : xs = [] := by
      cases xs with
      | nil => rfl
      | cons s xs => obtain ⟨_, _, _, _, he, -⟩ := h 0 (by simp); cases he
    subst hx
    refine ⟨v, w, ?_, by rw [List.append_nil]; exact hrow, Chg.refl _ _, .inl rfl⟩
    rcases ho.2 with ⟨rfl, h0⟩ | ⟨g, cap, cur, rfl, _, _, hnc, _⟩
    · simp [Builtin.append_, run_underlying Try.underlying31, sizeOf, typeInfo, hi0, Builtin.lenOf, Builtin.firstCells]
    · simp [Builtin.append_, run_underlying Try.underlying31, sizeOf, typeInfo, hi0, Builtin.lenOf, Builtin.firstCells, hnc, storeCells]
  | some a =>
    have hnews : (∀ j u, (xs.map (Value.int .i64))[j]? = some u → w.cell? (a.add j) = some u) ∧ ∀ s ∈ xs, inI s := by
      cases xs with
      | nil => exact ⟨fun j u hj => by simp at hj, fun s hs => by cases hs⟩
      | cons s xs =>
        obtain ⟨-, -, b', o', he, -⟩ := h 0 (by simp)
        injection he with he
        subst he
        obtain ⟨h1, h2⟩ := ints_cells h
        exact ⟨fun j u hj => by rw [add_plain]; exact h1 j u hj, h2⟩
    obtain ⟨v', w', hr, h1, h2, -, h4⟩ := run_append_own_at w B 31 ty 3 i0 _ 1 8 Try.underlying31 hi0 hz0 hz1 hz2 rfl (by decide) v l.length (l.map (Value.int .i64)) ho a xs.length c (xs.map (Value.int .i64)) (by simp) hnews.1
      (by intro u hu; obtain ⟨s, -, rfl⟩ := List.mem_map.1 hu; rfl) (by simp only [maxLen]; omega) (by omega) hbase
    refine ⟨v', w', hr, GRow.ofI (by rw [List.map_append, List.length_append]; exact h1) (fun s hm => by rcases List.mem_append.1 hm with hm | hm; exact hs s hm; exact hnews.2 s hm), Chg.of_grown h2 (fun g hg => .inl (by simp [hg])), ?_⟩
    rcases h4 with h4 | h4
    · exact .inl h4
    · refine .inr fun g hg => ?_
      rw [h4] at hg
      injection hg with hg
      omega
theorem wp_append_ints {o : Oper} {a : Act} {w : World} {K : Act → World → Prop} {Q : Exit → Act → World → Prop} (s x : Operand)
    (ho : o.op = .call { callee := .builtin .append, args := #[s, x], argTypes := #[31, 31] }) {B : Nat} {v : Value} {l xs : List Int} (hs : a.eval s = v) (hrow : GRow eltInt 3 B w v l) {b : Option Addr} {c : Nat} (hx : a.eval x = .slice b xs.length c) (h : IsInts w b xs)
    (hlen : l.length + xs.length ≤ 8388608) (hbase : B ≤ w.heap.size) (hK : ∀ v' w', GRow eltInt 3 B w' v' (l ++ xs) → Chg v.ownBlock.toList w w' → (v'.ownBlock = v.ownBlock ∨ ∀ g, v'.ownBlock = some g → w.heap.size ≤ g) → K (a.put o.dst v') w') : o.wp Try.prog a w K Q := by
  obtain ⟨v', w', hr, h2, h3, h4⟩ := run_append_ints hrow h hlen hbase o.type (c := c)
  unfold Oper.wp execOp
  simp only [ho, resolve, invoke, builtin, Sem.run_bind, Sem.run_pure, Result.andThen_ok, List.map_toArray, List.map_cons, List.map_nil, hs, hx, hr]
  exact hK v' w' h2 h3 h4
theorem step_append_ints {ops : Array Oper} {o : Oper} {a : Act} {w : World} {K : Act → World → Prop} {Q : Exit → Act → World → Prop} {F : Prop} (hgd : o.guard = none) (s x : Operand)
    (ho : o.op = .call { callee := .builtin .append, args := #[s, x], argTypes := #[31, 31] }) {B : Nat} {v : Value} {l xs : List Int} (hs : a.eval s = v) (hrow : GRow eltInt 3 B w v l) {b : Option Addr} {c : Nat} (hx : a.eval x = .slice b xs.length c) (h : IsInts w b xs)
    (hlen : l.length + xs.length ≤ 8388608) (hbase : B ≤ w.heap.size) (hK : ∀ v' w', GRow eltInt 3 B w' v' (l ++ xs) → Chg v.ownBlock.toList w w' → (v'.ownBlock = v.ownBlock ∨ ∀ g, v'.ownBlock = some g → w.heap.size ≤ g) → K (a.put o.dst v') w') : if Region.wanted o (yielded ops a.tmps) = true then Oper.wp Try.prog o a w K Q else F := by
  have hw : Region.wanted o (yielded ops a.tmps) = true := by simp [Region.wanted, hgd]
  rw [if_pos hw]
  exact wp_append_ints s x ho hs hrow hx h hlen hbase hK
end Go.Proofs.Ytapoedcmhdlpfaa
