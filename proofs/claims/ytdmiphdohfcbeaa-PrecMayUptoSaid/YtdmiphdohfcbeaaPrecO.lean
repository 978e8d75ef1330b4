/- Orders: what is made of a way; how they lie in memory. No condition. -/
import Derived.Test.YtdmiphdohfcbeaaPrecR4
import Derived.Test.YtdmiphdohfcbeaaRow2
namespace Go.Proofs.Ytdmiphdohfcbeaa
open Go.ChangeShapes Go.WideShapes Go.ChangeAt Go.RowKit

structure Ord where
  lpo : Bool
  prec : List Int
  wts : List Int
  var : Int
structure Way where
  lpo : Bool
  prec : Int
  weight : Int
  top : Bool
def Way.val (y : Way) : Value := .agg #[.bool y.lpo, .int .i64 y.prec, .int .i64 y.weight, .bool y.top]
def Way.fits (y : Way) : Prop := -9223372036854775808 ≤ y.prec ∧ y.prec ≤ 9223372036854775807 ∧ -9223372036854775808 ≤ y.weight ∧ y.weight ≤ 9223372036854775807
def Ord.zero : Ord := ⟨false, [], [], 0⟩
def countsOf (l : List Sy) (cs : List (List Lt)) : List Int := counts l.length (allSyms cs)
def makeErr (l : List Sy) (cs : List (List Lt)) (y : Way) : Int := if countsErr l cs = 0 ∧ 0 ≤ y.prec ∧ y.prec ≤ 4 ∧ 0 ≤ y.weight ∧ y.weight ≤ 3 then 0 else 2
def precOf (l : List Sy) (prec : Int) (ns : List Int) : List Int := rankList l.length (rankVal l prec ns)
def arOf (l : List Sy) (i : Nat) : Int := ((l[i]?).map Sy.arity).getD 0
def rawWeight (l : List Sy) (weight : Int) (pr ns : List Int) (i : Nat) : Int :=
  if weight = 1 then arOf l i + 1 else if weight = 2 then (pr[i]?).getD 0 + 1 else if weight = 3 then (ns[i]?).getD 0 + 1 else 1
def weightOf (l : List Sy) (weight : Int) (top : Bool) (pr ns : List Int) (i : Nat) : Int :=
  if top = true ∧ arOf l i = 1 ∧ highB pr i = true then 0 else if i = 0 then 1 else min (rawWeight l weight pr ns i) 1000
def weightsOf (l : List Sy) (weight : Int) (top : Bool) (pr ns : List Int) (k : Nat) : List Int := (List.range k).map (weightOf l weight top pr ns)
def madeOrd (l : List Sy) (cs : List (List Lt)) (y : Way) : Ord :=
  if makeErr l cs y = 0 then
    ⟨y.lpo, precOf l y.prec (countsOf l cs), if y.lpo then [] else weightsOf l y.weight y.top (precOf l y.prec (countsOf l cs)) (countsOf l cs) l.length, if y.lpo then 0 else 1⟩
  else .zero
/-- a value reads as an order -/
def IsOrd (w : World) (v : Value) (o : Ord) : Prop :=
  ∃ pa pc wa wc, v = .agg #[.bool o.lpo, .slice pa o.prec.length pc, .slice wa o.wts.length wc, .int .i64 o.var] ∧ IsInts w pa o.prec ∧ IsInts w wa o.wts ∧ o.prec.length ≤ pc ∧ o.wts.length ≤ wc ∧ -9223372036854775808 ≤ o.var ∧ o.var ≤ 9223372036854775807
theorem IsOrd.ext {w w' : World} {v : Value} {o : Ord} (h : IsOrd w v o) (hx : Ext w w') : IsOrd w' v o := by
  obtain ⟨pa, pc, wa, wc, h1, h2, h3, h4⟩ := h
  exact ⟨pa, pc, wa, wc, h1, h2.ext hx, h3.ext hx, h4⟩
/-- what Make hands back -/
def OrderGiven (w : World) (v : Value) (l : List Sy) (cs : List (List Lt)) (y : Way) : Prop :=
  ∃ u, v = .tuple #[u, .int .i64 (makeErr l cs y)] ∧ IsOrd w u (madeOrd l cs y)
theorem IsOrd.zero (w : World) : IsOrd w (.agg #[.bool false, .slice none 0 0, .slice none 0 0, .int .i64 0]) .zero :=
  ⟨none, 0, none, 0, rfl, fun i h => by simp [Ord.zero] at h, fun i h => by simp [Ord.zero] at h, by simp [Ord.zero], by simp [Ord.zero], by simp [Ord.zero], by simp [Ord.zero]⟩
theorem precOf_length (l : List Sy) (prec : Int) (ns : List Int) : (precOf l prec ns).length = l.length := by simp [precOf, rankList]
theorem rankOf_range (n : Nat) (v : Nat → Int) (i : Nat) : 0 ≤ rankOf n v i ∧ rankOf n v i ≤ (n : Int) + 1 := by
  unfold rankOf
  have := List.countP_le_length (p := fun k => aboveB v i k) (l := (List.range n).drop 1)
  simp only [List.length_drop, List.length_range] at this
  split <;> omega
theorem precOf_range {l : List Sy} {prec : Int} {ns : List Int} : ∀ x ∈ precOf l prec ns, 0 ≤ x ∧ x ≤ (l.length : Int) + 1 := by
  intro x hx
  unfold precOf rankList at hx
  obtain ⟨i, -, rfl⟩ := List.mem_map.1 hx
  exact rankOf_range _ _ _
theorem cells4 (w : World) (x y z u : Value) (t : TypeId) : (w.alloc (.cells #[x, y, z, u] t)).cell? ⟨w.heap.size, 0, none⟩ = some x ∧ (w.alloc (.cells #[x, y, z, u] t)).cell? ⟨w.heap.size, 1, none⟩ = some y ∧ (w.alloc (.cells #[x, y, z, u] t)).cell? ⟨w.heap.size, 2, none⟩ = some z ∧ (w.alloc (.cells #[x, y, z, u] t)).cell? ⟨w.heap.size, 3, none⟩ = some u := by
  have h := heap_alloc_new w (.cells #[x, y, z, u] t)
  refine ⟨?_, ?_, ?_, ?_⟩ <;> (rw [cell_of_row _ w.heap.size _ _ _ _ h]; rfl)
theorem Chg.app {α : Type} {E : Elt α} {e B : Nat} {S : List Nat} {w0 w w1 w2 : World} {v : Value} {l : List α} (h : Chg S w0 w) (hr : GRow E e B w v l) (hB : w0.heap.size ≤ B) (hx : Ext w w1) (hg : w1.grownBy w2 v.ownBlock) : Chg S w0 w2 := by
  have h1 := h.trans (Chg.of_ext hx)
  exact ⟨hg.os.trans h1.os, hg.tape.trans h1.tape, hg.output.trans h1.output, Nat.le_trans h1.size hg.size, fun k hk hs => (hg.block k (Nat.lt_of_lt_of_le hk h1.size) (fun e => by have := (hr.own_ge e.symm).1; omega)).trans (h1.block k hk hs)⟩
/-- four cells put anew -/
theorem set4 (w : World) (b : Nat) (x y z u x' y' z' u' : Value) (h0 : w.cell? ⟨b, 0, none⟩ = some x') (h1 : w.cell? ⟨b, 1, none⟩ = some y') (h2 : w.cell? ⟨b, 2, none⟩ = some z') (h3 : w.cell? ⟨b, 3, none⟩ = some u') :
    ((((w.setCell ⟨b, 0, none⟩ x).setCell ⟨b, 1, none⟩ y).setCell ⟨b, 2, none⟩ z).setCell ⟨b, 3, none⟩ u).cell? ⟨b, 0, none⟩ = some x ∧ ((((w.setCell ⟨b, 0, none⟩ x).setCell ⟨b, 1, none⟩ y).setCell ⟨b, 2, none⟩ z).setCell ⟨b, 3, none⟩ u).cell? ⟨b, 1, none⟩ = some y ∧
    ((((w.setCell ⟨b, 0, none⟩ x).setCell ⟨b, 1, none⟩ y).setCell ⟨b, 2, none⟩ z).setCell ⟨b, 3, none⟩ u).cell? ⟨b, 2, none⟩ = some z ∧ ((((w.setCell ⟨b, 0, none⟩ x).setCell ⟨b, 1, none⟩ y).setCell ⟨b, 2, none⟩ z).setCell ⟨b, 3, none⟩ u).cell? ⟨b, 3, none⟩ = some u ∧
    Chg [b] w ((((w.setCell ⟨b, 0, none⟩ x).setCell ⟨b, 1, none⟩ y).setCell ⟨b, 2, none⟩ z).setCell ⟨b, 3, none⟩ u) := by
  refine ⟨?_, ?_, ?_, ?_, ((((Chg.refl [b] w).setCell _ (.inl (by simp))).setCell _ (.inl (by simp))).setCell _ (.inl (by simp))).setCell _ (.inl (by simp))⟩
  · rw [World.cell?_setCell_other _ _ _ _ (by simp), World.cell?_setCell_other _ _ _ _ (by simp), World.cell?_setCell_other _ _ _ _ (by simp)]; exact World.cell?_setCell_same _ _ _ h0
  · rw [World.cell?_setCell_other _ _ _ _ (by simp), World.cell?_setCell_other _ _ _ _ (by simp)]; exact World.cell?_setCell_same (u := y') _ _ _ (by rw [World.cell?_setCell_other _ _ _ _ (by simp)]; exact h1)
  · rw [World.cell?_setCell_other _ _ _ _ (by simp)]; exact World.cell?_setCell_same (u := z') _ _ _ (by rw [World.cell?_setCell_other _ _ _ _ (by simp), World.cell?_setCell_other _ _ _ _ (by simp)]; exact h2)
  · exact World.cell?_setCell_same (u := u') _ _ _ (by rw [World.cell?_setCell_other _ _ _ _ (by simp), World.cell?_setCell_other _ _ _ _ (by simp), World.cell?_setCell_other _ _ _ _ (by simp)]; exact h3)
/-- rank by rank, by counting -/
def rankUpto (n : Nat) (v : Nat → Int) (i k : Nat) : Int := ((((List.range k).drop 1).countP fun j => aboveB v i j) : Nat) + 1
theorem rankUpto_step {n : Nat} {v : Nat → Int} {i k : Nat} (hk : 1 ≤ k) : rankUpto n v i (k + 1) = rankUpto n v i k + if aboveB v i k = true then 1 else 0 := by
  unfold rankUpto
  rw [List.range_succ, List.drop_append_of_le_length (by simp; omega), List.countP_append]
  simp only [List.countP_cons, List.countP_nil]
  split <;> simp_all <;> omega
theorem rankUpto_one {n : Nat} {v : Nat → Int} {i : Nat} : rankUpto n v i 1 = 1 := by simp [rankUpto]
theorem rankUpto_done {n : Nat} {v : Nat → Int} {i : Nat} (h : i ≠ 0) : rankUpto n v i n = rankOf n v i := by unfold rankUpto rankOf; rw [if_neg h]
theorem weightsOf_succ {l : List Sy} {weight : Int} {top : Bool} {pr ns : List Int} {k : Nat} : weightsOf l weight top pr ns (k + 1) = weightsOf l weight top pr ns k ++ [weightOf l weight top pr ns k] := by
  unfold weightsOf; rw [List.range_succ, List.map_append]; rfl
theorem ckRef_ones {l : List Sy} : ∀ {r : List Sy} {i : Nat}, ckRef l r i = 0 → ∀ x ∈ r, x.one = 0
  | [], _, _, x, hx => by cases hx
  | y :: r, i, h, x, hx => by
    simp only [ckRef] at h
    split at h
    · rename_i h1; exact absurd h h1
    · rename_i h1
      split at h
      · cases h
      · rcases List.mem_cons.1 hx with rfl | hx
        · simpa using h1
        · exact ckRef_ones h x hx
theorem eqB_is {x y : Sy} (h : x.eqB y = true) : x = y := by
  obtain ⟨a, b, c⟩ := x
  obtain ⟨d, e, f⟩ := y
  simp only [Sy.eqB, decide_eq_true_eq] at h
  obtain ⟨rfl, rfl, rfl⟩ := h
  rfl
theorem weightsOf_at {l : List Sy} {weight : Int} {top : Bool} {pr ns : List Int} {k : Nat} (h1 : k < l.length) (h2 : k < pr.length) (h3 : k < ns.length) : weightsOf l weight top pr ns (k + 1) = weightsOf l weight top pr ns k ++ [if top = true ∧ l[k].arity = 1 ∧ highB pr k = true then 0 else if k = 0 then 1 else min (if weight = 1 then l[k].arity + 1 else if weight = 2 then pr[k] + 1 else if weight = 3 then ns[k] + 1 else 1) 1000] := by
  rw [weightsOf_succ]
  have ha : arOf l k = l[k].arity := by unfold arOf; rw [List.getElem?_eq_getElem h1]; simp
  have hp : (pr[k]?).getD 0 = pr[k] := by rw [List.getElem?_eq_getElem h2]; simp
  have hn : (ns[k]?).getD 0 = ns[k] := by rw [List.getElem?_eq_getElem h3]; simp
  simp only [weightOf, rawWeight, ha, hp, hn]
/-- a signature that may be -/
theorem sig_ok {l : List Sy} (h : sigCheck l = 0) : 1 ≤ l.length ∧ l.length ≤ 96 ∧ arOf l 0 = 0 ∧ ∀ i (hi : i < l.length), 0 ≤ l[i].arity ∧ l[i].arity ≤ 6 := by
  unfold sigCheck at h
  split at h
  · cases h
  · rename_i hl
    cases l with
    | nil => simp at h
    | cons t r =>
      simp only at h
      split at h
      · rename_i ht
        have := eqB_is ht
        subst this
        refine ⟨by simp, by omega, rfl, fun i hi => ?_⟩
        cases i with
        | zero => simp [Sy.truth]
        | succ i =>
          have h1 := ckRef_ones h _ (List.getElem_mem (show i < r.length by simpa using hi))
          simp only [List.getElem_cons_succ]
          unfold Sy.one at h1
          split at h1
          · cases h1
          · split at h1
            · cases h1
            · omega
      · cases h
theorem counts_err {l : List Sy} {cs : List (List Lt)} (h : countsErr l cs = 0) : sigCheck l = 0 ∧ clsOk l cs = true := by
  unfold countsErr at h
  split at h
  · assumption
  · cases h
theorem arOf_eq {l : List Sy} {i : Nat} (h : i < l.length) : arOf l i = l[i].arity := by unfold arOf; rw [List.getElem?_eq_getElem h]; rfl
/-- the ranks of the symbols ahead of k stand there -/
def rankRow (n : Nat) (v : Nat → Int) (k : Nat) : List Int := (List.range n).map fun i => if i < k then rankOf n v i else 0
theorem rankRow_length (n : Nat) (v : Nat → Int) (k : Nat) : (rankRow n v k).length = n := by simp [rankRow]
theorem rankRow_one (n : Nat) (v : Nat → Int) : rankRow n v 1 = List.replicate n 0 := by
  apply List.ext_getElem
  · simp [rankRow]
  · intro i h1 h2
    simp only [rankRow, List.getElem_map, List.getElem_range, List.getElem_replicate]
    split
    · have : i = 0 := by omega
      subst this; simp [rankOf]
    · rfl
theorem rankRow_done (n : Nat) (v : Nat → Int) : rankRow n v n = rankList n v := by
  apply List.ext_getElem
  · simp [rankRow, rankList]
  · intro i h1 h2
    have : i < n := by simpa [rankRow] using h1
    simp [rankRow, rankList, this]
theorem rankRow_step (n : Nat) (v : Nat → Int) (k : Nat) (hk : k ≠ 0) : (rankRow n v k).set k (rankUpto n v k n) = rankRow n v (k + 1) := by
  rw [rankUpto_done hk]
  apply List.ext_getElem
  · simp [rankRow]
  · intro i h1 h2
    simp only [rankRow, List.getElem_set, List.getElem_map, List.getElem_range]
    by_cases hki : k = i
    · subst hki; simp
    · rw [if_neg hki]
      by_cases h : i < k
      · rw [if_pos h, if_pos (by omega)]
      · rw [if_neg h, if_neg (by omega)]
theorem rankUpto_range (n : Nat) (v : Nat → Int) (i m : Nat) : 1 ≤ rankUpto n v i m ∧ rankUpto n v i m ≤ (m : Int) + 1 := by
  unfold rankUpto
  have := List.countP_le_length (p := fun k => aboveB v i k) (l := (List.range m).drop 1)
  simp only [List.length_drop, List.length_range] at this
  omega
end Go.Proofs.Ytdmiphdohfcbeaa
