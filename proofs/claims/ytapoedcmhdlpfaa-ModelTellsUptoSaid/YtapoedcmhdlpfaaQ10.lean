/- Rows of the call's own whose elements are things read out of a world: they are kept, looked into, appended to. No condition.
An append onto a row of the call's own, as a step of a walk. Conditions: the row's bytes stay below 2^47.
What the reference's insert, Join, Vars of layer 2 return.
What the reference's Join, Vars of layer 2 return. -/
import Derived.Test.YtapoedcmhdlpfaaQ0
import Derived.Test.YtapoedcmhdlpfaaQ6
import Derived.Maps.AppendAt
import Derived.Laws.OwnMore
import Derived.Deep.AppendLies
import Derived.RegionTactic
import Derived.OwnWalk
namespace Go.Proofs.Ytapoedcmhdlpfaa
open Go.ChangeShapes Go.WideShapes Go.ChangeAt Go.RowKit
/-- what the elements of a row are: how many cells, and what the cells read as, all further cells in blocks of P -/
structure Elt (α : Type) where
  size : Nat
  is : (Nat → Prop) → World → List Value → α → Prop
  len : ∀ {P w cs a}, is P w cs a → cs.length = size
  one : ∀ {P w cs a}, is P w cs a → ∀ u ∈ cs, u.oneCell' = true
  keep : ∀ {P Q : Nat → Prop} {w w' : World} {cs a}, (∀ b, P b → b < w.heap.size → Q b) → (∀ p v, P p.block → w.cell? p = some v → w'.cell? p = some v) → is P w cs a → is Q w' cs a

theorem flatten_at {n : Nat} : ∀ (cs : List (List Value)), (∀ c ∈ cs, c.length = n) → ∀ (j : Nat) (hj : j < cs.length) (i : Nat), i < n → cs.flatten[j * n + i]? = cs[j][i]?
  | [], _, j, hj, _, _ => by simp at hj
  | c :: cs, h, 0, _, i, hi => by
    have hc := h c (by simp)
    simp only [List.flatten_cons, Nat.zero_mul, Nat.zero_add, List.getElem_cons_zero]
    rw [List.getElem?_append_left (by omega)]
  | c :: cs, h, j + 1, hj, i, hi => by
    have hc := h c (by simp)
    simp only [List.flatten_cons, List.getElem_cons_succ]
    rw [List.getElem?_append_right (by rw [hc, Nat.add_mul]; omega), show (j + 1) * n + i - c.length = j * n + i by rw [hc, Nat.add_mul]; omega]
    exact flatten_at cs (fun c hc => h c (by simp [hc])) j (by simpa using hj) i hi

theorem own_keep {w w' : World} {B e size n : Nat} {v : Value} {xs : List Value} (h : w.ownsRow B e size v n xs) (hb : ∀ g, v.ownBlock = some g → g < w.heap.size → w'.heap[g]? = w.heap[g]?) : w'.ownsRow B e size v n xs := by
  refine ⟨h.1, ?_⟩
  rcases h.2 with h1 | ⟨g, cap, cur, hv, hg, hh, hr⟩
  · exact .inl h1
  · refine .inr ⟨g, cap, cur, hv, hg, ?_, hr⟩
    rw [hb g (by rw [hv]; rfl) ?_]
    · exact hh
    · rcases Nat.lt_or_ge g w.heap.size with h1 | h1
      · exact h1
      · rw [Array.getElem?_eq_none h1] at hh; cases hh
theorem own_lt {w : World} {B e size n : Nat} {v : Value} {xs : List Value} (h : w.ownsRow B e size v n xs) {g : Nat} (hg : v.ownBlock = some g) : B ≤ g ∧ g < w.heap.size := by
  rcases h.2 with ⟨h1, -⟩ | ⟨g', cap, cur, hv, hb, hh, hr⟩
  · subst h1; cases hg
  · subst hv
    injection hg with hg
    subst hg
    refine ⟨hb, ?_⟩
    rcases Nat.lt_or_ge g' w.heap.size with h1 | h1
    · exact h1
    · rw [Array.getElem?_eq_none h1] at hh; cases hh
theorem own_ext {w w' : World} {B e size n : Nat} {v : Value} {xs : List Value} (h : w.ownsRow B e size v n xs) (hx : Ext w w') : w'.ownsRow B e size v n xs :=
  own_keep h fun g _ hl => hx.block g hl
theorem own_chg {w w' : World} {S : List Nat} {B e size n : Nat} {v : Value} {xs : List Value} (h : w.ownsRow B e size v n xs) (hx : Chg S w w') (hS : ∀ i ∈ S, i < B) : w'.ownsRow B e size v n xs :=
  own_keep h fun g hg hl => hx.block g hl (fun hm => by have := hS g hm; have := (own_lt h hg).1; omega)
theorem Chg.of_grown {w w' : World} {S : List Nat} {r : Option Nat} (h : w.grownBy w' r) (hS : ∀ g, r = some g → g ∈ S ∨ w.heap.size ≤ g) : Chg S w w' :=
  ⟨h.os, h.tape, h.output, h.size, fun k hk hs => h.block k hk (fun e => by rcases hS k e.symm with h1 | h1; exact hs h1; omega)⟩

/-- v is a row of the call's own, in blocks from B on; its elements are l, and what belongs to them lies in blocks from B on, none in the row's own -/
def GRow {α : Type} (E : Elt α) (e : TypeId) (B : Nat) (w : World) (v : Value) (l : List α) : Prop :=
  ∃ cs : List (List Value), cs.length = l.length ∧ w.ownsRow B e E.size v l.length cs.flatten ∧ ∀ j (h : j < l.length) (h' : j < cs.length), E.is (fun b => B ≤ b ∧ v.ownBlock ≠ some b) w cs[j] l[j]

section
variable {α : Type} {E : Elt α} {e B : Nat} {w w' : World} {v : Value} {l : List α}
theorem GRow.nil : GRow E e B w (.slice none 0 0) [] := ⟨[], rfl, World.ownsRow_nil _ _ _ _, fun j h => by simp at h⟩
theorem GRow.chg {S : List Nat} (h : GRow E e B w v l) (hx : Chg S w w') (hS : ∀ i ∈ S, i < B) : GRow E e B w' v l := by
  obtain ⟨cs, h1, h2, h3⟩ := h
  exact ⟨cs, h1, own_chg h2 hx hS, fun j h h' => E.keep (fun _ h _ => h) (fun p v hp hv => hx.cell hv (fun hm => by have := hS _ hm; omega)) (h3 j h h')⟩
theorem GRow.ext (h : GRow E e B w v l) (hx : Ext w w') : GRow E e B w' v l := h.chg (Chg.of_ext (S := []) hx) (by simp)
theorem GRow.form (h : GRow E e B w v l) : ∃ a c, v = .slice a l.length c ∧ l.length ≤ c := by
  obtain ⟨cs, -, ⟨-, h2⟩, -⟩ := h
  rcases h2 with ⟨h2, h3⟩ | ⟨g, cap, cur, h2, -, -, h4, -⟩
  · exact ⟨none, 0, by rw [h3]; exact h2, by omega⟩
  · exact ⟨_, _, h2, h4⟩
/-- an element's cells -/
theorem GRow.at (h : GRow E e B w v l) {j : Nat} (hj : j < l.length) : ∃ g cap cs, v = .slice (some ⟨g, 0, none⟩) l.length cap ∧ B ≤ g ∧ g < w.heap.size ∧ l.length ≤ cap ∧ E.is (fun b => B ≤ b ∧ v.ownBlock ≠ some b) w cs l[j] ∧ cs.length = E.size ∧ ∀ i u, cs[i]? = some u → w.cell? ⟨g, j * E.size + i, none⟩ = some u := by
  obtain ⟨a0, c0, hv0, hc0⟩ := h.form
  obtain ⟨cs, h1, h2, h3⟩ := h
  obtain ⟨g, cap, rfl, hb, hlt⟩ := h2.form (by omega)
  injection hv0 with _ _ hcc
  subst hcc
  refine ⟨g, cap, cs[j], rfl, hb, hlt, hc0, h3 j hj (by omega), E.len (h3 j hj (by omega)), fun i u hu => ?_⟩
  have hlen : ∀ c ∈ cs, c.length = E.size := by
    intro c hc
    obtain ⟨k, hk, rfl⟩ := List.getElem_of_mem hc
    exact E.len (h3 k (by omega) hk)
  have hi : i < E.size := by
    have := hlen cs[j] (List.getElem_mem _)
    rcases Nat.lt_or_ge i cs[j].length with h1 | h1
    · omega
    · rw [List.getElem?_eq_none h1] at hu; cases hu
  have := h2.cells (g := g) rfl (j * E.size + i) u (by rw [flatten_at cs hlen j (by omega) i hi]; exact hu)
  have hadd : (⟨g, 0, none⟩ : Addr).add (j * E.size + i) = ⟨g, j * E.size + i, none⟩ := by unfold Addr.add; split <;> simp_all
  rw [hadd] at this
  exact this
/-- behind an append -/
theorem GRow.grow {cs : List (List Value)} {w1 w2 : World} {c : List Value} {t : α} {g cap : Nat} (hcl : cs.length = l.length) (hel : ∀ j (h : j < l.length) (h' : j < cs.length), E.is (fun b => B ≤ b ∧ v.ownBlock ≠ some b) w cs[j] l[j])
    (hx : Ext w w1) (hg : w1.grownBy w2 v.ownBlock) (ho : w2.ownsRow B e E.size (.slice (some ⟨g, 0, none⟩) (l.length + 1) cap) (l.length + 1) (cs.flatten ++ c)) (hat : v.ownBlock = some g ∨ g = w1.heap.size)
    (hc : E.is (fun b => B ≤ b ∧ v.ownBlock ≠ some b) w1 c t) : GRow E e B w2 (.slice (some ⟨g, 0, none⟩) (l.length + 1) cap) (l ++ [t]) := by
  have hQ : ∀ b, (B ≤ b ∧ v.ownBlock ≠ some b) → b < w1.heap.size → B ≤ b ∧ (Value.slice (some ⟨g, 0, none⟩) (l.length + 1) cap).ownBlock ≠ some b := by
    intro b hb hlt
    refine ⟨hb.1, fun h => ?_⟩
    injection h with h
    dsimp only at h
    subst h
    rcases hat with h1 | h1
    · exact hb.2 h1
    · omega
  have hK : ∀ p u, (B ≤ p.block ∧ v.ownBlock ≠ some p.block) → w1.cell? p = some u → w2.cell? p = some u := by
    intro p u hp hu
    rw [hg.cell_far p (cell_lt hu) (Ne.symm hp.2)]; exact hu
  refine ⟨cs ++ [c], by simp [hcl], ?_, fun j h h' => ?_⟩
  · have : (cs ++ [c]).flatten = cs.flatten ++ c := by simp
    rw [this, List.length_append, List.length_singleton]
    exact ho
  · by_cases hj : j < l.length
    · rw [List.getElem_append_left hj, List.getElem_append_left (by omega)]
      exact E.keep hQ hK (E.keep (fun _ h _ => h) (fun p u _ hu => hx.cell hu) (hel j hj (by omega)))
    · have hje : j = l.length := by simp at h; omega
      subst hje
      rw [List.getElem_append_right (by omega), List.getElem_append_right (by omega)]
      simp only [hcl, Nat.sub_self, List.getElem_cons_zero]
      exact E.keep hQ hK hc
/-- a block that is made with one element -/
theorem GRow.one {c : List Value} {t : α} (hB : B ≤ w.heap.size) (hc : E.is (fun b => B ≤ b ∧ b < w.heap.size) w c t) (arr : Array Value) (ha : arr.toList = c) : GRow E e B (w.alloc (.cells arr e)) (.slice (some ⟨w.heap.size, 0, none⟩) 1 1) [t] := by
  have hl := E.len hc
  refine ⟨[c], rfl, ⟨by simp [hl], .inr ⟨w.heap.size, 1, arr, rfl, hB, heap_alloc_new _ _, Nat.le_refl _, by decide, by rw [← Array.length_toList, ha]; simpa using hl, ?_⟩⟩, fun j h h' => ?_⟩
  · simp only [List.flatten_cons, List.flatten_nil, List.append_nil, List.length_singleton, Nat.one_mul]
    rw [ha, ← hl, List.take_length]
  · have : j = 0 := by simp at h; omega
    subst this
    simp only [List.getElem_cons_zero]
    refine E.keep (fun b hb _ => ⟨hb.1, fun h => ?_⟩) (fun p u _ hu => (ext_alloc w _).cell hu) hc
    injection h with h; dsimp only at h; omega
end
/-! ### rows of numbers, of terms, of numbers' rows and terms -/
def eltInt : Elt Int where
  size := 1
  is _ _ cs n := cs = [.int .i64 n] ∧ -9223372036854775808 ≤ n ∧ n ≤ 9223372036854775807
  len h := by rw [h.1]; rfl
  one h := by rw [h.1]; simp [Value.oneCell']
  keep _ _ h := h
/-- from an address on stand numbers, in a block of P -/
def AtInts (P : Nat → Prop) (w : World) (a : Option Addr) (l : List Int) : Prop :=
  ∀ i (h : i < l.length), -9223372036854775808 ≤ l[i] ∧ l[i] ≤ 9223372036854775807 ∧ ∃ b o, a = some ⟨b, o, none⟩ ∧ P b ∧ w.cell? ⟨b, o + i, none⟩ = some (.int .i64 l[i])
theorem AtInts.keep {P Q : Nat → Prop} {w w' : World} {a : Option Addr} {l : List Int} (h : AtInts P w a l) (hQ : ∀ b, P b → b < w.heap.size → Q b) (hK : ∀ p v, P p.block → w.cell? p = some v → w'.cell? p = some v) : AtInts Q w' a l := fun i hi => by
  obtain ⟨h1, h2, b, o, h3, h4, h5⟩ := h i hi
  exact ⟨h1, h2, b, o, h3, hQ b h4 (cell_lt h5), hK _ _ h4 h5⟩
theorem AtInts.isInts {P : Nat → Prop} {w : World} {a : Option Addr} {l : List Int} (h : AtInts P w a l) : IsInts w a l := fun i hi => by
  obtain ⟨h1, h2, b, o, h3, _, h5⟩ := h i hi
  exact ⟨h1, h2, b, o, h3, h5⟩
/-- a row of numbers of the call's own, read -/
theorem GRow.ints {e B : Nat} {w : World} {v : Value} {l : List Int} (h : GRow eltInt e B w v l) : ∃ a c, v = .slice a l.length c ∧ l.length ≤ c ∧ AtInts (fun b => B ≤ b ∧ v.ownBlock = some b) w a l := by
  obtain ⟨a, c, hv, hc⟩ := h.form
  refine ⟨a, c, hv, hc, fun i hi => ?_⟩
  obtain ⟨g, cap, cs, hv2, hb, -, -, ⟨hcs, r1, r2⟩, -, hcell⟩ := h.at hi
  rw [hv] at hv2
  injection hv2 with e1
  subst e1
  refine ⟨r1, r2, g, 0, rfl, ⟨hb, by rw [hv]; rfl⟩, ?_⟩
  have := hcell 0 (.int .i64 l[i]) (by rw [hcs]; rfl)
  rw [show 0 + i = i * eltInt.size + 0 by show 0 + i = i * 1 + 0; omega]
  exact this
/-! ### one element of a row put anew -/
theorem AtTms.of_at {P : Nat → Prop} {b : Nat} {w : World} : ∀ {ts : List Tm} {o : Nat}, P b → (∀ i (h : i < ts.length), ∃ x s, w.cell? ⟨b, o + i * 2, none⟩ = some x ∧ w.cell? ⟨b, o + i * 2 + 1, none⟩ = some s ∧ AtTm P w x s ts[i]) → AtTms P w (some ⟨b, o, none⟩) ts
  | [], _, _, _ => by simp only [AtTms]
  | t :: ts, o, hB, h => by
    simp only [AtTms]
    obtain ⟨x, s, h1, h2, h3⟩ := h 0 (by simp)
    refine ⟨b, o, x, s, rfl, hB, by simpa using h1, by simpa using h2, h3, AtTms.of_at hB fun i hi => ?_⟩
    obtain ⟨x, s, g1, g2, g3⟩ := h (i + 1) (by simpa using hi)
    exact ⟨x, s, by rw [show o + 2 + i * 2 = o + (i + 1) * 2 by omega]; exact g1, by rw [show o + 2 + i * 2 + 1 = o + (i + 1) * 2 + 1 by omega]; exact g2, by simpa using g3⟩
/-- block b holds the terms ks, nothing that belongs to them lies in it -/
def TmRow (P : Nat → Prop) (b : Nat) (w : World) (ks : List Tm) : Prop :=
  ∀ i (h : i < ks.length), ∃ x s, w.cell? ⟨b, i * 2, none⟩ = some x ∧ w.cell? ⟨b, i * 2 + 1, none⟩ = some s ∧ AtTm (fun c => P c ∧ c ≠ b) w x s ks[i]
theorem TmRow.put {P : Nat → Prop} {b : Nat} {w : World} {ks : List Tm} (h : TmRow P b w ks) (hb : P b) {n : Nat} (hn : n < ks.length) {x s : Value} {u : Tm} (hu : AtTm (fun c => P c ∧ c ≠ b) w x s u) :
    AtTms P ((w.setCell ⟨b, n * 2, none⟩ x).setCell ⟨b, n * 2 + 1, none⟩ s) (some ⟨b, 0, none⟩) (ks.set n u) := by
  have hc : Chg [b] w ((w.setCell ⟨b, n * 2, none⟩ x).setCell ⟨b, n * 2 + 1, none⟩ s) := ((Chg.refl [b] w).setCell _ (.inl (by simp))).setCell _ (.inl (by simp))
  have oth : ∀ j, j ≠ n * 2 → j ≠ n * 2 + 1 → ((w.setCell ⟨b, n * 2, none⟩ x).setCell ⟨b, n * 2 + 1, none⟩ s).cell? ⟨b, j, none⟩ = w.cell? ⟨b, j, none⟩ := by
    intro j h1 h2
    rw [World.cell?_setCell_other _ _ _ _ (by intro e; injection e with _ e2; omega), World.cell?_setCell_other _ _ _ _ (by intro e; injection e with _ e2; omega)]
  have up : ∀ {y r : Value} {t : Tm}, AtTm (fun c => P c ∧ c ≠ b) w y r t → AtTm P ((w.setCell ⟨b, n * 2, none⟩ x).setCell ⟨b, n * 2 + 1, none⟩ s) y r t := fun ht =>
    ht.of_cells (fun c hc _ => hc.1) (fun p v hp hv => hc.cell hv (by simpa using hp.2))
  obtain ⟨x0, s0, e1, e2, -⟩ := h n hn
  refine AtTms.of_at hb fun i hi => ?_
  rw [List.length_set] at hi
  simp only [Nat.zero_add]
  by_cases hin : i = n
  · subst hin
    refine ⟨x, s, ?_, ?_, by rw [List.getElem_set_self]; exact up hu⟩
    · rw [World.cell?_setCell_other _ _ _ _ (by intro e; injection e with _ e2; omega)]; exact World.cell?_setCell_same _ _ _ e1
    · exact World.cell?_setCell_same (u := s0) _ _ _ (by rw [World.cell?_setCell_other _ _ _ _ (by intro e; injection e with _ e2; omega)]; exact e2)
  · obtain ⟨y, r, k1, k2, k3⟩ := h i hi
    exact ⟨y, r, by rw [oth _ (by omega) (by omega)]; exact k1, by rw [oth _ (by omega) (by omega)]; exact k2, by rw [List.getElem_set_ne (by omega)]; exact up k3⟩
mutual
theorem NewTm.at {w : World} : ∀ {t : Tm} {x s : Value} {B : Nat}, NewTm B w x s t → AtTm (fun b => B ≤ b) w x s t
  | .mk n ks, x, s, B, ht => by
    simp only [NewTm] at ht; simp only [AtTm]
    obtain ⟨h1, h2, h3, a, h4, -, h5⟩ := ht
    exact ⟨h1, h2, h3, a, _, h4, Nat.le_refl _, NewTms.at h5⟩
theorem NewTms.at {w : World} : ∀ {ts : List Tm} {a : Option Addr} {B : Nat}, NewTms B w a ts → AtTms (fun b => B ≤ b) w a ts
  | [], a, B, _ => by simp only [AtTms]
  | t :: ts, a, B, ht => by
    simp only [NewTms] at ht; simp only [AtTms]
    obtain ⟨b, o, x, s, h1, h0, h2, h3, h4, h5⟩ := ht
    exact ⟨b, o, x, s, h1, h0, h2, h3, (NewTm.at h4).mono (fun c hc _ => by omega), NewTms.at h5⟩
end
end Go.Proofs.Ytapoedcmhdlpfaa
namespace Go.Proofs.Ytapoedcmhdlpfaa
open Go.ChangeShapes Go.WideShapes Go.ChangeAt Go.RowKit
section
variable {α : Type} {E : Elt α} {P : Program} {w : World}
theorem wpList_append_row {ops : Array Oper} {rest : List Oper} {o : Oper} {a : Act} {Q : Exit → Act → World → Prop} (hgd : o.guard = none) (s x : Operand) (t : TypeId)
    (ho : o.op = .call { callee := .builtin .append, args := #[s, x], argTypes := #[t, t] })
    (e : TypeId) (i : TypeInfo) (z : Value) (bytes : Nat) (ht : P.underlying t = some (.slice e)) (hi : P.info? e = some i) (hz : i.zero = some z)
    (hsize : i.size = E.size) (hby : i.bytes = bytes) (hzs : z.cells.size = E.size) (hsz : 0 < E.size)
    (B : Nat) (v : Value) (l : List α) (hs : a.eval s = v) (w0 : World) (hrow : GRow E e B w0 v l) (hx0 : Ext w0 w)
    (blk : Nat) (hx : a.eval x = .slice (some ⟨blk, 0, none⟩) 1 1) (arr : Array Value) (ty : TypeId) (hblk : w.heap[blk]? = some (.cells arr ty (0, 0)))
    (el : α) (hc : E.is (fun b => B ≤ b ∧ v.ownBlock ≠ some b) w arr.toList el) (h63 : l.length + 1 ≤ maxLen) (hbytes : (l.length + 1) * bytes ≤ 140737488355328) (hbase : B ≤ w.heap.size)
    (h : ∀ g cap w', GRow E e B w' (.slice (some ⟨g, 0, none⟩) (l.length + 1) cap) (l ++ [el]) → w.grownBy w' v.ownBlock → (v.ownBlock = some g ∨ g = w.heap.size) → g < w'.heap.size → wpList P ops Q rest (a.put o.dst (.slice (some ⟨g, 0, none⟩) (l.length + 1) cap)) w') : wpList P ops Q (o :: rest) a w := by
  obtain ⟨cs, hcl, hown, hel⟩ := hrow
  refine wpList_append_lies w hgd s x t ho B e i z E.size bytes ht hi hz hsize hby hzs hsz v l.length cs.flatten hs (own_ext hown hx0) ⟨blk, 0, none⟩ 1 1 arr.toList hx (by rw [E.len hc]; omega) (World.news_of_block hblk) (E.one hc) (by omega) h63 hbytes hbase _ rfl ?_
  intro g cap w' hown' hgrow hat hlt
  exact h g cap w' (GRow.grow hcl hel hx0 hgrow hown' hat hc) hgrow hat hlt
theorem step_append_row {ops : Array Oper} {o : Oper} {a : Act} {K : Act → World → Prop} {Q : Exit → Act → World → Prop} {F : Prop} (hgd : o.guard = none) (s x : Operand) (t : TypeId)
    (ho : o.op = .call { callee := .builtin .append, args := #[s, x], argTypes := #[t, t] })
    (e : TypeId) (i : TypeInfo) (z : Value) (bytes : Nat) (ht : P.underlying t = some (.slice e)) (hi : P.info? e = some i) (hz : i.zero = some z)
    (hsize : i.size = E.size) (hby : i.bytes = bytes) (hzs : z.cells.size = E.size) (hsz : 0 < E.size)
    (B : Nat) (v : Value) (l : List α) (hs : a.eval s = v) (w0 : World) (hrow : GRow E e B w0 v l) (hx0 : Ext w0 w)
    (blk : Nat) (hx : a.eval x = .slice (some ⟨blk, 0, none⟩) 1 1) (arr : Array Value) (ty : TypeId) (hblk : w.heap[blk]? = some (.cells arr ty (0, 0)))
    (el : α) (hc : E.is (fun b => B ≤ b ∧ v.ownBlock ≠ some b) w arr.toList el) (h63 : l.length + 1 ≤ maxLen) (hbytes : (l.length + 1) * bytes ≤ 140737488355328) (hbase : B ≤ w.heap.size)
    (h : ∀ g cap w', GRow E e B w' (.slice (some ⟨g, 0, none⟩) (l.length + 1) cap) (l ++ [el]) → w.grownBy w' v.ownBlock → (v.ownBlock = some g ∨ g = w.heap.size) → g < w'.heap.size → K (a.put o.dst (.slice (some ⟨g, 0, none⟩) (l.length + 1) cap)) w') :
    if Region.wanted o (yielded ops a.tmps) = true then Oper.wp P o a w K Q else F := by
  obtain ⟨cs, hcl, hown, hel⟩ := hrow
  refine step_append_lies w hgd s x t ho B e i z E.size bytes ht hi hz hsize hby hzs hsz v l.length cs.flatten hs (own_ext hown hx0) ⟨blk, 0, none⟩ 1 1 arr.toList hx (by rw [E.len hc]; omega) (World.news_of_block hblk) (E.one hc) (by omega) h63 hbytes hbase _ rfl ?_
  intro g cap w' hown' hgrow hat hlt
  exact h g cap w' (GRow.grow hcl hel hx0 hgrow hown' hat hc) hgrow hat hlt
end
theorem infoInt : (Try.prog.info? 3).map (fun i => (i.zero, i.size, i.bytes)) = some (some (.int .i64 0), 1, 8) := by kernel_rfl
theorem GRow.own_ge {α : Type} {E : Elt α} {e B : Nat} {w : World} {v : Value} {l : List α} (h : GRow E e B w v l) {g : Nat} (hg : v.ownBlock = some g) : B ≤ g ∧ g < w.heap.size := by
  obtain ⟨cs, -, h2, -⟩ := h
  exact own_lt h2 hg
/-- what an append changes is new, if the row is -/
theorem Ext.append {α : Type} {E : Elt α} {e : Nat} {w0 w w1 w2 : World} {v : Value} {l : List α} (h : Ext w0 w) (hr : GRow E e w0.heap.size w v l) (hx : Ext w w1) (hg : w1.grownBy w2 v.ownBlock) : Ext w0 w2 := by
  have h1 := h.trans hx
  exact ⟨hg.os.trans h1.os, hg.tape.trans h1.tape, hg.output.trans h1.output, Nat.le_trans h1.size hg.size, fun k hk => (hg.block k (Nat.lt_of_lt_of_le hk h1.size) (fun e => by have := (hr.own_ge e.symm).1; omega)).trans (h1.block k hk)⟩
theorem Ext.append' {α : Type} {E : Elt α} {e B : Nat} {w0 w w1 w2 : World} {v : Value} {l : List α} (h : Ext w0 w) (hr : GRow E e B w v l) (hB : w0.heap.size ≤ B) (hx : Ext w w1) (hg : w1.grownBy w2 v.ownBlock) : Ext w0 w2 := by
  have h1 := h.trans hx
  exact ⟨hg.os.trans h1.os, hg.tape.trans h1.tape, hg.output.trans h1.output, Nat.le_trans h1.size hg.size, fun k hk => (hg.block k (Nat.lt_of_lt_of_le hk h1.size) (fun e => by have := (hr.own_ge e.symm).1; omega)).trans (h1.block k hk)⟩
end Go.Proofs.Ytapoedcmhdlpfaa
namespace Go.Proofs.Ytapoedcmhdlpfaa
open Go.ChangeShapes Go.WideShapes Go.ChangeAt Go.RowKit
def insStep (v : Int) (st : Bool × List Int) (x : Int) : Bool × List Int := if v < x ∧ st.1 = false then (true, (st.2 ++ [v]) ++ [x]) else (st.1, st.2 ++ [x])
def ins (l : List Int) (v : Int) : List Int :=
  if v ∈ l then l else if (l.foldl (insStep v) (false, [])).1 then (l.foldl (insStep v) (false, [])).2 else (l.foldl (insStep v) (false, [])).2 ++ [v]

theorem fold_take {β : Type} {f : β → Int → β} {z : β} {l : List Int} {k : Nat} (h : k < l.length) : (l.take (k + 1)).foldl f z = f ((l.take k).foldl f z) l[k] := by
  rw [List.take_succ_eq_append_getElem h, List.foldl_append]; rfl
theorem insFold_length (v : Int) (l : List Int) : ∀ st : Bool × List Int, (l.foldl (insStep v) st).2.length + (if st.1 then 1 else 0) = st.2.length + l.length + (if (l.foldl (insStep v) st).1 then 1 else 0) := by
  induction l with
  | nil => intro st; rfl
  | cons x l ih =>
    intro st
    have h0 := ih (insStep v st x)
    rw [List.foldl_cons]
    by_cases h : v < x ∧ st.1 = false
    · have e : insStep v st x = (true, (st.2 ++ [v]) ++ [x]) := by unfold insStep; rw [if_pos h]
      rw [e] at h0 ⊢
      rw [h.2]
      simp at h0 ⊢
      omega
    · have e : insStep v st x = (st.1, st.2 ++ [x]) := by unfold insStep; rw [if_neg h]
      rw [e] at h0 ⊢
      simp at h0 ⊢
      omega

set_option maxHeartbeats 1000000 in
set_option maxRecDepth 100000 in
theorem insert_any (l : List Int) (v : Int) (hv1 : -9223372036854775808 ≤ v) (hv2 : v ≤ 9223372036854775807) (w : World) (a : Option Addr) (c : Nat) (hl : IsInts w a l) (hlc : l.length ≤ c) (hll : l.length ≤ 4000000) :
    Calls Try.prog 75 #[.slice a l.length c, .int .i64 v] w fun e w' => (∃ a' c', e = .returned (.slice a' (ins l v).length c') ∧ (ins l v).length ≤ c' ∧ IsInts w' a' (ins l v)) ∧ Ext w w' := by
  obtain ⟨i0, hi0, hz0, hz1, hz2⟩ := info_parts infoInt
  go_enter Try.func75, Try.ntmps75
  go_wp2_with fail
  go_loopw [5, 6, 7] (fun o d i wr => ∃ (k : Nat) (dn : Bool) (m : List Int), k ≤ l.length ∧ i = .int .i64 k ∧ d = .bool dn ∧ (l.take k).foldl (insStep v) (false, []) = (dn, m) ∧ v ∉ l.take k ∧ GRow eltInt 3 w.heap.size wr o m ∧ Ext w wr) (fun _ _ i _ => l.length - (intOf i).toNat)
  case atStart => exact ⟨0, false, [], Nat.zero_le _, rfl, rfl, rfl, by simp, GRow.nil, Below.refl _ _⟩
  case round =>
    obtain ⟨k, dn, m, hkk, rfl, rfl, hfold, hnot, hrow, hext⟩ := hrel
    have hlen := insFold_length v (l.take k) (false, [])
    rw [hfold] at hlen
    have hml : m.length ≤ l.length + 1 := by simp only [List.length_take] at hlen; cases dn <;> simp at hlen <;> omega
    have Hlen := Lib.hid hlen; clear hlen
    have Hfold := Lib.hid hfold; clear hfold
    have Hnot := Lib.hid hnot; clear hnot
    by_cases hlt : k < l.length
    · have hk1 : (k : Int) < l.length := by omega
      obtain ⟨r1, r2, b, o', rfl, h1⟩ := hl k hlt
      have g1 := hext.cell h1
      have hstep := fold_take (f := insStep v) (z := (false, [])) hlt
      rw [Hfold.out] at hstep
      by_cases he : l[k] = v
      · have hmem : v ∈ l := by rw [← he]; exact List.getElem_mem hlt
        have hins : ins l v = l := by unfold ins; rw [if_pos hmem]
        have Hins := Lib.hid hins; clear hins hmem hstep
        go_wp2_with fail
        go_ret
        rw [Hins.out]
        exact ⟨⟨_, _, rfl, hlc, hl.ext hext⟩, hext⟩
      · have hnot' : v ∉ l.take (k + 1) := by
          rw [List.take_succ_eq_append_getElem hlt]
          intro hm
          rcases List.mem_append.1 hm with hm | hm
          · exact Hnot.out hm
          · simp at hm; exact he hm.symm
        have Hnot' := Lib.hid hnot'; clear hnot'
        obtain ⟨ao, co, rfl, hmc⟩ := hrow.form
        cases dn with
        | true =>
          have e : insStep v (true, m) l[k] = (true, m ++ [l[k]]) := by unfold insStep; rw [if_neg (by simp)]
          rw [e] at hstep
          have Hstep := Lib.hid hstep; clear hstep e
          by_cases hgt : v < l[k]
          all_goals
            go_wp2_with ((at_builtin; refine wpList_append_row rfl _ _ _ rfl 3 i0 _ 8 Try.underlying31 hi0 hz0 hz1 hz2 rfl (by decide) w.heap.size (.slice ao m.length co) m rfl wr hrow (ext_alloc _ _) wr.heap.size rfl _ _ (heap_alloc_new _ _) l[k] ⟨rfl, r1, r2⟩ (by simp only [maxLen]; omega) (by (try simp only [List.length_append, List.length_cons, List.length_nil]); omega) (by have := hext.size; simp; omega) ?_; intro g2 cap2 w2 hrow2 hgrow2 hat2 hlt2; have hx2 := Ext.append hext hrow (ext_alloc _ _) hgrow2; (try simp only [List.length_append, List.length_cons, List.length_nil, Nat.zero_add] at hrow2); (try simp only [])))
            go_roundw
            case rel => exact ⟨k + 1, true, m ++ [l[k]], by omega, by go_num, rfl, Hstep.out, Hnot'.out, hrow2, hx2⟩
            case measure => simp [intOf]; omega
        | false =>
          by_cases hgt : v < l[k]
          · have e : insStep v (false, m) l[k] = (true, (m ++ [v]) ++ [l[k]]) := by unfold insStep; rw [if_pos ⟨hgt, rfl⟩]
            rw [e] at hstep
            have Hstep := Lib.hid hstep; clear hstep e
            go_wp2_with (first | (((at_builtin; refine wpList_append_row rfl _ _ _ rfl 3 i0 _ 8 Try.underlying31 hi0 hz0 hz1 hz2 rfl (by decide) w.heap.size (.slice ao m.length co) m rfl wr hrow (ext_alloc _ _) wr.heap.size rfl _ _ (heap_alloc_new _ _) v ⟨rfl, hv1, hv2⟩ (by simp only [maxLen]; omega) (by (try simp only [List.length_append, List.length_cons, List.length_nil]); omega) (by have := hext.size; simp; omega) ?_; intro g2 cap2 w2 hrow2 hgrow2 hat2 hlt2; have hx2 := Ext.append hext hrow (ext_alloc _ _) hgrow2; (try simp only [List.length_append, List.length_cons, List.length_nil, Nat.zero_add] at hrow2); (try simp only []))); have gg := hx2.cell h1) | (at_builtin; refine wpList_append_row rfl _ _ _ rfl 3 i0 _ 8 Try.underlying31 hi0 hz0 hz1 hz2 rfl (by decide) w.heap.size (.slice (some ⟨g2, 0, none⟩) (m.length + 1) cap2) (m ++ [v]) rfl w2 hrow2 (ext_alloc _ _) w2.heap.size rfl _ _ (heap_alloc_new _ _) l[k] ⟨rfl, r1, r2⟩ (by simp [maxLen]; omega) (by simp; omega) (by have := hx2.size; simp; omega) ?_; intro g3 cap3 w3 hrow3 hgrow3 hat3 hlt3; have hx3 := Ext.append hx2 hrow2 (ext_alloc _ _) hgrow3; simp only [List.length_append, List.length_cons, List.length_nil, Nat.zero_add] at hrow3 ⊢))
            go_roundw
            case rel => exact ⟨k + 1, true, (m ++ [v]) ++ [l[k]], by omega, by go_num, rfl, Hstep.out, Hnot'.out, hrow3, hx3⟩
            case measure => simp [intOf]; omega
          · have e : insStep v (false, m) l[k] = (false, m ++ [l[k]]) := by unfold insStep; rw [if_neg (by simp [hgt])]
            rw [e] at hstep
            have Hstep := Lib.hid hstep; clear hstep e
            go_wp2_with ((at_builtin; refine wpList_append_row rfl _ _ _ rfl 3 i0 _ 8 Try.underlying31 hi0 hz0 hz1 hz2 rfl (by decide) w.heap.size (.slice ao m.length co) m rfl wr hrow (ext_alloc _ _) wr.heap.size rfl _ _ (heap_alloc_new _ _) l[k] ⟨rfl, r1, r2⟩ (by simp only [maxLen]; omega) (by (try simp only [List.length_append, List.length_cons, List.length_nil]); omega) (by have := hext.size; simp; omega) ?_; intro g2 cap2 w2 hrow2 hgrow2 hat2 hlt2; have hx2 := Ext.append hext hrow (ext_alloc _ _) hgrow2; (try simp only [List.length_append, List.length_cons, List.length_nil, Nat.zero_add] at hrow2); (try simp only [])))
            go_roundw
            case rel => exact ⟨k + 1, false, m ++ [l[k]], by omega, by go_num, rfl, Hstep.out, Hnot'.out, hrow2, hx2⟩
            case measure => simp [intOf]; omega
    · have hke : k = l.length := by omega
      have h1 := Hfold.out
      have h2 := Hnot.out
      rw [hke, List.take_length] at h1 h2
      obtain ⟨ao, co, rfl, hmc⟩ := hrow.form
      cases dn with
      | true =>
        have hins : ins l v = m := by unfold ins; rw [if_neg h2, h1]; rfl
        have Hins := Lib.hid hins
        clear hins h1 h2
        go_wp2_with fail
        go_ret
        rw [Hins.out]
        obtain ⟨a2, c2, hv, hc, hat⟩ := hrow.ints
        rw [hv]
        exact ⟨⟨_, _, rfl, hc, hat.isInts⟩, hext⟩
      | false =>
        have hins : ins l v = m ++ [v] := by unfold ins; rw [if_neg h2, h1]; rfl
        have Hins := Lib.hid hins
        clear hins h1 h2
        go_wp2_with ((at_builtin; refine wpList_append_row rfl _ _ _ rfl 3 i0 _ 8 Try.underlying31 hi0 hz0 hz1 hz2 rfl (by decide) w.heap.size (.slice ao m.length co) m rfl wr hrow (ext_alloc _ _) wr.heap.size rfl _ _ (heap_alloc_new _ _) v ⟨rfl, hv1, hv2⟩ (by simp only [maxLen]; omega) (by (try simp only [List.length_append, List.length_cons, List.length_nil]); omega) (by have := hext.size; simp; omega) ?_; intro g2 cap2 w2 hrow2 hgrow2 hat2 hlt2; have hx2 := Ext.append hext hrow (ext_alloc _ _) hgrow2; (try simp only [List.length_append, List.length_cons, List.length_nil, Nat.zero_add] at hrow2); (try simp only [])))
        go_ret
        rw [Hins.out]
        obtain ⟨a3, c3, hv, hc, hat⟩ := hrow2.ints
        simp only [List.length_append, List.length_cons, List.length_nil, Nat.zero_add] at hv
        rw [hv]
        exact ⟨⟨_, _, by simp, hc, hat.isInts⟩, hx2⟩
end Go.Proofs.Ytapoedcmhdlpfaa
namespace Go.Proofs.Ytapoedcmhdlpfaa
open Go.ChangeShapes Go.WideShapes Go.ChangeAt Go.RowKit
mutual
/-- a rising row of variables, with those of a term -/
def Tm.join : List Int → Tm → List Int
  | l, .mk f ks => Tm.joins (if f < 0 then ins l (-1 - f) else l) ks
def Tm.joins : List Int → List Tm → List Int
  | l, [] => l
  | l, t :: ts => Tm.joins (Tm.join l t) ts
end
theorem joins_step {l : List Int} {ks : List Tm} {k : Nat} (h : k < ks.length) : Tm.joins l (ks.drop k) = Tm.joins (ks[k].join l) (ks.drop (k + 1)) := by
  rw [List.drop_eq_getElem_cons h]; rfl
theorem ins_length (l : List Int) (v : Int) : (ins l v).length ≤ l.length + 1 := by
  unfold ins
  have h := insFold_length v l (false, [])
  split
  · omega
  · cases hd : (List.foldl (insStep v) (false, []) l).1 <;> rw [hd] at h <;> simp at h ⊢ <;> omega
mutual
theorem join_length : ∀ (t : Tm) (l : List Int), (t.join l).length ≤ l.length + t.size
  | .mk f ks, l => by
    simp only [Tm.join, Tm.size]
    have h := joins_length ks (if f < 0 then ins l (-1 - f) else l)
    have h2 := ins_length l (-1 - f)
    split at h <;> split <;> first | omega | contradiction
theorem joins_length : ∀ (ks : List Tm) (l : List Int), (Tm.joins l ks).length ≤ l.length + Tm.sizes ks
  | [], l => by simp only [Tm.joins, Tm.sizes]; omega
  | t :: ts, l => by
    simp only [Tm.joins, Tm.sizes]
    have h := joins_length ts (t.join l)
    have h2 := join_length t l
    omega
end
set_option maxHeartbeats 1000000 in
set_option maxRecDepth 100000 in
theorem join_any (t : Tm) : ∀ (l : List Int) (w : World) (a : Option Addr) (c : Nat) (x s : Value), IsInts w a l → l.length ≤ c → IsTm w x s t → l.length + t.size ≤ 4000000 →
    Calls Try.prog 52 #[.slice a l.length c, .agg #[x, s]] w fun e w' => (∃ a' c', e = .returned (.slice a' (t.join l).length c') ∧ (t.join l).length ≤ c' ∧ IsInts w' a' (t.join l)) ∧ Ext w w' := by
  induction t using Tm.ind with
  | h f ks ih =>
    intro l w a c x s hl hlc ht hsz
    simp only [IsTm] at ht
    obtain ⟨rfl, hf1, hf2, ka, kc, rfl, hkc, hk⟩ := ht
    simp only [Tm.size] at hsz
    have hkl := length_le_sizes ks
    have Hih := Lib.hid ih; clear ih
    obtain ⟨W, hW⟩ : ∃ W, W = w.alloc (.cells #[.int .i64 f, .slice ka ks.length kc] 30) := ⟨_, rfl⟩
    have hx : Ext w W := by subst hW; go_grown
    have k0 : W.cell? ⟨w.heap.size, 0, none⟩ = some (.int .i64 f) := by subst hW; go_simp
    have k1 : W.cell? ⟨w.heap.size, 1, none⟩ = some (.slice ka ks.length kc) := by subst hW; go_simp
    obtain ⟨J, hJ⟩ : ∃ J, J = (Tm.mk f ks).join l := ⟨_, rfl⟩
    rw [← hJ]
    by_cases hf : f < 0
    · have hi := insert_any l (-1 - f) (by omega) (by omega) W a c (hl.ext hx) hlc (by omega)
      have hJ2 : J = Tm.joins (ins l (-1 - f)) ks := by rw [hJ]; simp only [Tm.join]; rw [if_pos hf]
      have hil := ins_length l (-1 - f)
      obtain ⟨L, hL⟩ : ∃ L, L = ins l (-1 - f) := ⟨_, rfl⟩
      rw [← hL] at hi hJ2 hil
      have Hi := Lib.hid hi
      have HJ := Lib.hid hJ2
      clear hi hJ hJ2 hL
      go_enter Try.func52, Try.ntmps52
      go_wp2_with fail
      rw [← hW]
      clear hW
      go_wp2_with ((refine (Hi.out).mono ?_); rintro e w1 ⟨⟨a1, c1, rfl, hlc1, hl1⟩, hx1⟩)
      go_loopw [0, 5] (fun lv i wr => ∃ (k : Nat) (m : List Int) (a : Option Addr) (c : Nat), k ≤ ks.length ∧ i = .int .i64 k ∧ lv = .slice a m.length c ∧ m.length ≤ c ∧ IsInts wr a m ∧ J = Tm.joins m (ks.drop k) ∧ m.length ≤ l.length + 1 + Tm.sizes (ks.take k) ∧ Ext W wr) (fun _ i _ => ks.length - (intOf i).toNat)
      case atStart => exact ⟨0, L, a1, c1, Nat.zero_le _, rfl, rfl, hlc1, hl1, HJ.out, by omega, hx1⟩
      case round =>
        obtain ⟨k, m, a2, c2, hkk, rfl, rfl, hmc, hm, hJm, hml, hext⟩ := hrel
        have HJm := Lib.hid hJm; clear hJm
        have q0 := hext.cell k0
        have q1 := hext.cell k1
        by_cases hlt : k < ks.length
        · have hk1 : (k : Int) < ks.length := by omega
          obtain ⟨b', o', a', c', rfl, h1, h2, h3⟩ := hk.look hlt
          have g1 := hext.cell (hx.cell h1)
          have g2 := hext.cell (hx.cell h2)
          have hst := sizes_take hlt
          have hst2 := sizes_take_le ks (k + 1)
          have hjl := join_length ks[k] m
          have hi2 := Hih.out _ (List.getElem_mem hlt) m wr a2 c2 _ _ hm hmc (h3.ext (Ext.trans hx hext)) (by omega)
          have Hi := Lib.hid hi2; clear hi2
          have Hst := Lib.hid (joins_step (l := m) hlt)
          clear hm
          go_wp2_with ((refine (Hi.out).mono ?_); rintro e w2 ⟨⟨a3, c3, rfl, hmc3, hm3⟩, hx2⟩)
          go_roundw
          case rel => exact ⟨k + 1, ks[k].join m, a3, c3, by omega, by go_num, rfl, hmc3, hm3, by rw [HJm.out, Hst.out], by omega, Ext.trans hext hx2⟩
          case measure => simp [intOf]; omega
        · have hk1 : ¬ (k : Int) < ks.length := by omega
          have hke : k = ks.length := by omega
          go_wp2_with fail
          go_ret
          have h := HJm.out
          rw [hke, List.drop_length] at h
          simp only [Tm.joins] at h
          rw [h]
          exact ⟨⟨_, _, rfl, hmc, hm⟩, Ext.trans hx hext⟩
    · have hJ2 : J = Tm.joins l ks := by rw [hJ]; simp only [Tm.join]; rw [if_neg hf]
      have HJ := Lib.hid hJ2
      clear hJ hJ2
      go_enter Try.func52, Try.ntmps52
      go_wp2_with fail
      rw [← hW]
      clear hW
      go_loopw [0, 5] (fun lv i wr => ∃ (k : Nat) (m : List Int) (a : Option Addr) (c : Nat), k ≤ ks.length ∧ i = .int .i64 k ∧ lv = .slice a m.length c ∧ m.length ≤ c ∧ IsInts wr a m ∧ J = Tm.joins m (ks.drop k) ∧ m.length ≤ l.length + 1 + Tm.sizes (ks.take k) ∧ Ext W wr) (fun _ i _ => ks.length - (intOf i).toNat)
      case atStart => exact ⟨0, l, a, c, Nat.zero_le _, rfl, rfl, hlc, hl.ext hx, HJ.out, by omega, Below.refl _ _⟩
      case round =>
        obtain ⟨k, m, a2, c2, hkk, rfl, rfl, hmc, hm, hJm, hml, hext⟩ := hrel
        have HJm := Lib.hid hJm; clear hJm
        have q0 := hext.cell k0
        have q1 := hext.cell k1
        by_cases hlt : k < ks.length
        · have hk1 : (k : Int) < ks.length := by omega
          obtain ⟨b', o', a', c', rfl, h1, h2, h3⟩ := hk.look hlt
          have g1 := hext.cell (hx.cell h1)
          have g2 := hext.cell (hx.cell h2)
          have hst := sizes_take hlt
          have hst2 := sizes_take_le ks (k + 1)
          have hjl := join_length ks[k] m
          have hi2 := Hih.out _ (List.getElem_mem hlt) m wr a2 c2 _ _ hm hmc (h3.ext (Ext.trans hx hext)) (by omega)
          have Hi := Lib.hid hi2; clear hi2
          have Hst := Lib.hid (joins_step (l := m) hlt)
          clear hm
          go_wp2_with ((refine (Hi.out).mono ?_); rintro e w2 ⟨⟨a3, c3, rfl, hmc3, hm3⟩, hx2⟩)
          go_roundw
          case rel => exact ⟨k + 1, ks[k].join m, a3, c3, by omega, by go_num, rfl, hmc3, hm3, by rw [HJm.out, Hst.out], by omega, Ext.trans hext hx2⟩
          case measure => simp [intOf]; omega
        · have hk1 : ¬ (k : Int) < ks.length := by omega
          have hke : k = ks.length := by omega
          go_wp2_with fail
          go_ret
          have h := HJm.out
          rw [hke, List.drop_length] at h
          simp only [Tm.joins] at h
          rw [h]
          exact ⟨⟨_, _, rfl, hmc, hm⟩, Ext.trans hx hext⟩

theorem refVars_any (t : Tm) (w : World) (x s : Value) (ht : IsTm w x s t) (hs : t.size ≤ 4000000) :
    Calls Try.prog 21 #[.agg #[x, s]] w fun e w' => (∃ a' c', e = .returned (.slice a' (t.join []).length c') ∧ (t.join []).length ≤ c' ∧ IsInts w' a' (t.join [])) ∧ Ext w w' := by
  obtain ⟨a, c, rfl, rfl, -, -, -, -⟩ := ht.form
  obtain ⟨W, hW⟩ : ∃ W, W = w.alloc (.cells #[.int .i64 t.f, .slice a t.ks.length c] 30) := ⟨_, rfl⟩
  have hx : Ext w W := by subst hW; go_grown
  have h := join_any t [] W none 0 _ _ (fun i hi => by simp at hi) (Nat.le_refl _) (ht.ext hx) (by simp; omega)
  have H := Lib.hid h; clear h ht
  go_enter Try.func21, Try.ntmps21
  go_wp2_with fail
  go_wp2_with ((rw [← hW]; refine (H.out).mono ?_); rintro e w1 ⟨⟨a1, c1, rfl, hlc1, hl1⟩, hx1⟩)
  go_ret
  exact ⟨⟨_, _, rfl, hlc1, hl1⟩, Ext.trans hx hx1⟩
end Go.Proofs.Ytapoedcmhdlpfaa
