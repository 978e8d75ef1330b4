/- Rows of the call's own whose elements are things read out of a world: they are kept, looked into, appended to. No condition. -/
import Derived.Test.YtdmiphdohfcbeaaBase
import Derived.Test.YtdmiphdohfcbeaaAt
import Derived.Maps.AppendAt
import Derived.Laws.OwnMore
import Derived.Deep.AppendLies
namespace Go.Proofs.Ytdmiphdohfcbeaa
open Go.ChangeShapes Go.WideShapes Go.ChangeAt Go.RowKit

/-- what the elements of a row are: how many cells, and what the cells read as, all further cells in blocks of P -/
structure Elt (α : Type) where
  size : Nat
  is : (Nat → Prop) → World → List Value → α → Prop
  len : ∀ {P w cs a}, is P w cs a → cs.length = size
  one : ∀ {P w cs a}, is P w cs a → ∀ u ∈ cs, u.oneCell' = true
  keep : ∀ {P Q : Nat → Prop} {w w' : World} {cs a}, (∀ b, P b → b < w.heap.size → Q b) → (∀ p v, P p.block → w.cell? p = some v → w'.cell? p = some v) → is P w cs a → is Q w' cs a

theorem flatten_at {n : Nat} : ∀ (cs : List (List Value)), (∀ c ∈ cs, c.length = n) → ∀ (j : Nat) (hj : j < cs.length) (i : Nat), i < n → cs.flatten[j * n + i]? = cs[j][i]?
  | [], _, j, hj, _, _ => by simp at hj
  | c :: cs, h, 0, _, i, hi => by
    have hc := h c (by simp)
    simp only [List.flatten_cons, Nat.zero_mul, Nat.zero_add, List.getElem_cons_zero]
    rw [List.getElem?_append_left (by omega)]
  | c :: cs, h, j + 1, hj, i, hi => by
    have hc := h c (by simp)
    simp only [List.flatten_cons, List.getElem_cons_succ]
    rw [List.getElem?_append_right (by rw [hc, Nat.add_mul]; omega), show (j + 1) * n + i - c.length = j * n + i by rw [hc, Nat.add_mul]; omega]
    exact flatten_at cs (fun c hc => h c (by simp [hc])) j (by simpa using hj) i hi

theorem own_keep {w w' : World} {B e size n : Nat} {v : Value} {xs : List Value} (h : w.ownsRow B e size v n xs) (hb : ∀ g, v.ownBlock = some g → g < w.heap.size → w'.heap[g]? = w.heap[g]?) : w'.ownsRow B e size v n xs := by
  refine ⟨h.1, ?_⟩
  rcases h.2 with h1 | ⟨g, cap, cur, hv, hg, hh, hr⟩
  · exact .inl h1
  · refine .inr ⟨g, cap, cur, hv, hg, ?_, hr⟩
    rw [hb g (by rw [hv]; rfl) ?_]
    · exact hh
    · rcases Nat.lt_or_ge g w.heap.size with h1 | h1
      · exact h1
      · rw [Array.getElem?_eq_none h1] at hh; cases hh
theorem own_lt {w : World} {B e size n : Nat} {v : Value} {xs : List Value} (h : w.ownsRow B e size v n xs) {g : Nat} (hg : v.ownBlock = some g) : B ≤ g ∧ g < w.heap.size := by
  rcases h.2 with ⟨h1, -⟩ | ⟨g', cap, cur, hv, hb, hh, hr⟩
  · subst h1; cases hg
  · subst hv
    injection hg with hg
    subst hg
    refine ⟨hb, ?_⟩
    rcases Nat.lt_or_ge g' w.heap.size with h1 | h1
    · exact h1
    · rw [Array.getElem?_eq_none h1] at hh; cases hh
theorem own_ext {w w' : World} {B e size n : Nat} {v : Value} {xs : List Value} (h : w.ownsRow B e size v n xs) (hx : Ext w w') : w'.ownsRow B e size v n xs :=
  own_keep h fun g _ hl => hx.block g hl
theorem own_chg {w w' : World} {S : List Nat} {B e size n : Nat} {v : Value} {xs : List Value} (h : w.ownsRow B e size v n xs) (hx : Chg S w w') (hS : ∀ i ∈ S, i < B) : w'.ownsRow B e size v n xs :=
  own_keep h fun g hg hl => hx.block g hl (fun hm => by have := hS g hm; have := (own_lt h hg).1; omega)
theorem Chg.of_grown {w w' : World} {S : List Nat} {r : Option Nat} (h : w.grownBy w' r) (hS : ∀ g, r = some g → g ∈ S ∨ w.heap.size ≤ g) : Chg S w w' :=
  ⟨h.os, h.tape, h.output, h.size, fun k hk hs => h.block k hk (fun e => by rcases hS k e.symm with h1 | h1; exact hs h1; omega)⟩

/-- v is a row of the call's own, in blocks from B on; its elements are l, and what belongs to them lies in blocks from B on, none in the row's own -/
def GRow {α : Type} (E : Elt α) (e : TypeId) (B : Nat) (w : World) (v : Value) (l : List α) : Prop :=
  ∃ cs : List (List Value), cs.length = l.length ∧ w.ownsRow B e E.size v l.length cs.flatten ∧ ∀ j (h : j < l.length) (h' : j < cs.length), E.is (fun b => B ≤ b ∧ v.ownBlock ≠ some b) w cs[j] l[j]

section
variable {α : Type} {E : Elt α} {e B : Nat} {w w' : World} {v : Value} {l : List α}

theorem GRow.nil : GRow E e B w (.slice none 0 0) [] := ⟨[], rfl, World.ownsRow_nil _ _ _ _, fun j h => by simp at h⟩
theorem GRow.chg {S : List Nat} (h : GRow E e B w v l) (hx : Chg S w w') (hS : ∀ i ∈ S, i < B) : GRow E e B w' v l := by
  obtain ⟨cs, h1, h2, h3⟩ := h
  exact ⟨cs, h1, own_chg h2 hx hS, fun j h h' => E.keep (fun _ h _ => h) (fun p v hp hv => hx.cell hv (fun hm => by have := hS _ hm; omega)) (h3 j h h')⟩
theorem GRow.ext (h : GRow E e B w v l) (hx : Ext w w') : GRow E e B w' v l := h.chg (Chg.of_ext (S := []) hx) (by simp)
theorem GRow.down {C : Nat} (h : GRow E e B w v l) (hC : C ≤ B) : GRow E e C w v l := by
  obtain ⟨cs, h1, ⟨h2, h4⟩, h3⟩ := h
  refine ⟨cs, h1, ⟨h2, ?_⟩, fun j h h' => E.keep (fun b h _ => ⟨by omega, h.2⟩) (fun _ _ _ h => h) (h3 j h h')⟩
  rcases h4 with h4 | ⟨g, cap, cur, k1, k2, k3⟩
  · exact .inl h4
  · exact .inr ⟨g, cap, cur, k1, by omega, k3⟩
theorem GRow.form (h : GRow E e B w v l) : ∃ a c, v = .slice a l.length c ∧ l.length ≤ c := by
  obtain ⟨cs, -, ⟨-, h2⟩, -⟩ := h
  rcases h2 with ⟨h2, h3⟩ | ⟨g, cap, cur, h2, -, -, h4, -⟩
  · exact ⟨none, 0, by rw [h3]; exact h2, by omega⟩
  · exact ⟨_, _, h2, h4⟩
/-- an element's cells -/
theorem GRow.at (h : GRow E e B w v l) {j : Nat} (hj : j < l.length) : ∃ g cap cs, v = .slice (some ⟨g, 0, none⟩) l.length cap ∧ B ≤ g ∧ g < w.heap.size ∧ l.length ≤ cap ∧ E.is (fun b => B ≤ b ∧ v.ownBlock ≠ some b) w cs l[j] ∧ cs.length = E.size ∧ ∀ i u, cs[i]? = some u → w.cell? ⟨g, j * E.size + i, none⟩ = some u := by
  obtain ⟨a0, c0, hv0, hc0⟩ := h.form
  obtain ⟨cs, h1, h2, h3⟩ := h
  obtain ⟨g, cap, rfl, hb, hlt⟩ := h2.form (by omega)
  injection hv0 with _ _ hcc
  subst hcc
  refine ⟨g, cap, cs[j], rfl, hb, hlt, hc0, h3 j hj (by omega), E.len (h3 j hj (by omega)), fun i u hu => ?_⟩
  have hlen : ∀ c ∈ cs, c.length = E.size := by
    intro c hc
    obtain ⟨k, hk, rfl⟩ := List.getElem_of_mem hc
    exact E.len (h3 k (by omega) hk)
  have hi : i < E.size := by
    have := hlen cs[j] (List.getElem_mem _)
    rcases Nat.lt_or_ge i cs[j].length with h1 | h1
    · omega
    · rw [List.getElem?_eq_none h1] at hu; cases hu
  have := h2.cells (g := g) rfl (j * E.size + i) u (by rw [flatten_at cs hlen j (by omega) i hi]; exact hu)
  have hadd : (⟨g, 0, none⟩ : Addr).add (j * E.size + i) = ⟨g, j * E.size + i, none⟩ := by unfold Addr.add; split <;> simp_all
  rw [hadd] at this
  exact this
/-- behind an append -/
theorem GRow.grow {cs : List (List Value)} {w1 w2 : World} {c : List Value} {t : α} {g cap : Nat} (hcl : cs.length = l.length) (hel : ∀ j (h : j < l.length) (h' : j < cs.length), E.is (fun b => B ≤ b ∧ v.ownBlock ≠ some b) w cs[j] l[j])
    (hx : Ext w w1) (hg : w1.grownBy w2 v.ownBlock) (ho : w2.ownsRow B e E.size (.slice (some ⟨g, 0, none⟩) (l.length + 1) cap) (l.length + 1) (cs.flatten ++ c)) (hat : v.ownBlock = some g ∨ g = w1.heap.size)
    (hc : E.is (fun b => B ≤ b ∧ v.ownBlock ≠ some b) w1 c t) : GRow E e B w2 (.slice (some ⟨g, 0, none⟩) (l.length + 1) cap) (l ++ [t]) := by
  have hQ : ∀ b, (B ≤ b ∧ v.ownBlock ≠ some b) → b < w1.heap.size → B ≤ b ∧ (Value.slice (some ⟨g, 0, none⟩) (l.length + 1) cap).ownBlock ≠ some b := by
    intro b hb hlt
    refine ⟨hb.1, fun h => ?_⟩
    injection h with h
    dsimp only at h
    subst h
    rcases hat with h1 | h1
    · exact hb.2 h1
    · omega
  have hK : ∀ p u, (B ≤ p.block ∧ v.ownBlock ≠ some p.block) → w1.cell? p = some u → w2.cell? p = some u := by
    intro p u hp hu
    rw [hg.cell_far p (cell_lt hu) (Ne.symm hp.2)]; exact hu
  refine ⟨cs ++ [c], by simp [hcl], ?_, fun j h h' => ?_⟩
  · have : (cs ++ [c]).flatten = cs.flatten ++ c := by simp
    rw [this, List.length_append, List.length_singleton]
    exact ho
  · by_cases hj : j < l.length
    · rw [List.getElem_append_left hj, List.getElem_append_left (by omega)]
      exact E.keep hQ hK (E.keep (fun _ h _ => h) (fun p u _ hu => hx.cell hu) (hel j hj (by omega)))
    · have hje : j = l.length := by simp at h; omega
      subst hje
      rw [List.getElem_append_right (by omega), List.getElem_append_right (by omega)]
      simp only [hcl, Nat.sub_self, List.getElem_cons_zero]
      exact E.keep hQ hK hc
/-- a block that is made with one element -/
theorem GRow.one {c : List Value} {t : α} (hB : B ≤ w.heap.size) (hc : E.is (fun b => B ≤ b ∧ b < w.heap.size) w c t) (arr : Array Value) (ha : arr.toList = c) : GRow E e B (w.alloc (.cells arr e)) (.slice (some ⟨w.heap.size, 0, none⟩) 1 1) [t] := by
  have hl := E.len hc
  refine ⟨[c], rfl, ⟨by simp [hl], .inr ⟨w.heap.size, 1, arr, rfl, hB, heap_alloc_new _ _, Nat.le_refl _, by decide, by rw [← Array.length_toList, ha]; simpa using hl, ?_⟩⟩, fun j h h' => ?_⟩
  · simp only [List.flatten_cons, List.flatten_nil, List.append_nil, List.length_singleton, Nat.one_mul]
    rw [ha, ← hl, List.take_length]
  · have : j = 0 := by simp at h; omega
    subst this
    simp only [List.getElem_cons_zero]
    refine E.keep (fun b hb _ => ⟨hb.1, fun h => ?_⟩) (fun p u _ hu => (ext_alloc w _).cell hu) hc
    injection h with h; dsimp only at h; omega
end

/-! ### rows of numbers, of terms, of numbers' rows and terms -/
def eltInt : Elt Int where
  size := 1
  is _ _ cs n := cs = [.int .i64 n] ∧ -9223372036854775808 ≤ n ∧ n ≤ 9223372036854775807
  len h := by rw [h.1]; rfl
  one h := by rw [h.1]; simp [Value.oneCell']
  keep _ _ h := h
def eltTm : Elt Tm where
  size := 2
  is P w cs t := ∃ x s, cs = [x, s] ∧ AtTm P w x s t
  len h := by obtain ⟨x, s, h, -⟩ := h; rw [h]; rfl
  one h := by
    obtain ⟨x, s, h, h2⟩ := h
    cases ‹Tm› with | mk f ks =>
    simp only [AtTm] at h2
    obtain ⟨rfl, -, -, a, c, rfl, -⟩ := h2
    rw [h]; simp [Value.oneCell']
  keep hQ hK h := by obtain ⟨x, s, h, h2⟩ := h; exact ⟨x, s, h, h2.of_cells hQ hK⟩
/-- from an address on stand numbers, in a block of P -/
def AtInts (P : Nat → Prop) (w : World) (a : Option Addr) (l : List Int) : Prop :=
  ∀ i (h : i < l.length), -9223372036854775808 ≤ l[i] ∧ l[i] ≤ 9223372036854775807 ∧ ∃ b o, a = some ⟨b, o, none⟩ ∧ P b ∧ w.cell? ⟨b, o + i, none⟩ = some (.int .i64 l[i])
theorem AtInts.keep {P Q : Nat → Prop} {w w' : World} {a : Option Addr} {l : List Int} (h : AtInts P w a l) (hQ : ∀ b, P b → b < w.heap.size → Q b) (hK : ∀ p v, P p.block → w.cell? p = some v → w'.cell? p = some v) : AtInts Q w' a l := fun i hi => by
  obtain ⟨h1, h2, b, o, h3, h4, h5⟩ := h i hi
  exact ⟨h1, h2, b, o, h3, hQ b h4 (cell_lt h5), hK _ _ h4 h5⟩
theorem AtInts.isInts {P : Nat → Prop} {w : World} {a : Option Addr} {l : List Int} (h : AtInts P w a l) : IsInts w a l := fun i hi => by
  obtain ⟨h1, h2, b, o, h3, _, h5⟩ := h i hi
  exact ⟨h1, h2, b, o, h3, h5⟩
def eltPlace : Elt (List Int × Tm) where
  size := 3
  is P w cs q := ∃ a c x s, cs = [.slice a q.1.length c, x, s] ∧ q.1.length ≤ c ∧ AtInts P w a q.1 ∧ AtTm P w x s q.2
  len h := by obtain ⟨a, c, x, s, h, -⟩ := h; rw [h]; rfl
  one h := by
    obtain ⟨a, c, x, s, h, -, -, h2⟩ := h
    rename_i q
    obtain ⟨p, t⟩ := q
    cases t with | mk f ks =>
    simp only [AtTm] at h2
    obtain ⟨rfl, -, -, a, c, rfl, -⟩ := h2
    rw [h]; simp [Value.oneCell']
  keep hQ hK h := by
    obtain ⟨a, c, x, s, h, h0, h1, h2⟩ := h
    exact ⟨a, c, x, s, h, h0, h1.keep hQ hK, h2.of_cells hQ hK⟩

/-- a row of numbers of the call's own, read -/
theorem GRow.ints {e B : Nat} {w : World} {v : Value} {l : List Int} (h : GRow eltInt e B w v l) : ∃ a c, v = .slice a l.length c ∧ l.length ≤ c ∧ AtInts (fun b => B ≤ b ∧ v.ownBlock = some b) w a l := by
  obtain ⟨a, c, hv, hc⟩ := h.form
  refine ⟨a, c, hv, hc, fun i hi => ?_⟩
  obtain ⟨g, cap, cs, hv2, hb, -, -, ⟨hcs, r1, r2⟩, -, hcell⟩ := h.at hi
  rw [hv] at hv2
  injection hv2 with e1
  subst e1
  refine ⟨r1, r2, g, 0, rfl, ⟨hb, by rw [hv]; rfl⟩, ?_⟩
  have := hcell 0 (.int .i64 l[i]) (by rw [hcs]; rfl)
  rw [show 0 + i = i * eltInt.size + 0 by show 0 + i = i * 1 + 0; omega]
  exact this
/-- a row of terms of the call's own, read -/
theorem GRow.tms {e B : Nat} {w : World} {v : Value} {l : List Tm} (h : GRow eltTm e B w v l) : ∃ a c, v = .slice a l.length c ∧ l.length ≤ c ∧ AtTms (fun b => B ≤ b) w a l := by
  obtain ⟨a, c, hv, hc⟩ := h.form
  refine ⟨a, c, hv, hc, ?_⟩
  have key : ∀ (m : List Tm) (k : Nat), l = l.take k ++ m → k + m.length = l.length → ∀ g, (a = some ⟨g, 0, none⟩ ∨ m = []) → AtTms (fun b => B ≤ b) w (some ⟨g, k * 2, none⟩) m := by
    intro m
    induction m with
    | nil => intro k _ _ g _; simp only [AtTms]
    | cons t m ih =>
      intro k hl hk g hg
      simp only [List.length_cons] at hk
      obtain ⟨g', cap, cs, hv2, hb, -, -, ⟨x, s, hcs, ht⟩, -, hcell⟩ := h.at (show k < l.length by omega)
      have hg1 : a = some ⟨g, 0, none⟩ := by rcases hg with h1 | h1; exact h1; cases h1
      rw [hv, hg1] at hv2
      injection hv2 with e1
      injection e1 with e1
      injection e1 with e1
      subst e1
      have hlk : l[k]'(by omega) = t := by
        have : l[k]? = some t := by rw [hl, List.getElem?_append_right (by rw [List.length_take]; omega), List.length_take, show k - min k l.length = 0 by omega]; rfl
        rw [List.getElem?_eq_getElem (by omega)] at this
        injection this
      rw [hlk] at ht
      simp only [AtTms]
      refine ⟨g, k * 2, x, s, rfl, hb, ?_, ?_, ht.mono (fun b hb _ => hb.1), ?_⟩
      · have := hcell 0 x (by rw [hcs]; rfl); exact this
      · have := hcell 1 s (by rw [hcs]; rfl); exact this
      · rw [show k * 2 + 2 = (k + 1) * 2 by omega]
        refine ih (k + 1) ?_ (by omega) g (.inl hg1)
        have h1 : l.take (k + 1) = l.take k ++ [t] := by rw [List.take_add_one, List.getElem?_eq_getElem (by omega), hlk]; rfl
        rw [h1, List.append_assoc]; exact hl
  cases l with
  | nil => simp only [AtTms]
  | cons t m =>
    obtain ⟨g, cap, cs, hv2, -⟩ := h.at (show 0 < (t :: m).length by simp)
    rw [hv] at hv2
    injection hv2 with e1
    have := key (t :: m) 0 (by simp) (by simp) g (.inl e1)
    rw [e1]; simpa using this

/-! ### one element of a row put anew -/
theorem AtTms.of_at {P : Nat → Prop} {b : Nat} {w : World} : ∀ {ts : List Tm} {o : Nat}, P b → (∀ i (h : i < ts.length), ∃ x s, w.cell? ⟨b, o + i * 2, none⟩ = some x ∧ w.cell? ⟨b, o + i * 2 + 1, none⟩ = some s ∧ AtTm P w x s ts[i]) → AtTms P w (some ⟨b, o, none⟩) ts
  | [], _, _, _ => by simp only [AtTms]
  | t :: ts, o, hB, h => by
    simp only [AtTms]
    obtain ⟨x, s, h1, h2, h3⟩ := h 0 (by simp)
    refine ⟨b, o, x, s, rfl, hB, by simpa using h1, by simpa using h2, h3, AtTms.of_at hB fun i hi => ?_⟩
    obtain ⟨x, s, g1, g2, g3⟩ := h (i + 1) (by simpa using hi)
    exact ⟨x, s, by rw [show o + 2 + i * 2 = o + (i + 1) * 2 by omega]; exact g1, by rw [show o + 2 + i * 2 + 1 = o + (i + 1) * 2 + 1 by omega]; exact g2, by simpa using g3⟩
/-- block b holds the terms ks, nothing that belongs to them lies in it -/
def TmRow (P : Nat → Prop) (b : Nat) (w : World) (ks : List Tm) : Prop :=
  ∀ i (h : i < ks.length), ∃ x s, w.cell? ⟨b, i * 2, none⟩ = some x ∧ w.cell? ⟨b, i * 2 + 1, none⟩ = some s ∧ AtTm (fun c => P c ∧ c ≠ b) w x s ks[i]
theorem TmRow.put {P : Nat → Prop} {b : Nat} {w : World} {ks : List Tm} (h : TmRow P b w ks) (hb : P b) {n : Nat} (hn : n < ks.length) {x s : Value} {u : Tm} (hu : AtTm (fun c => P c ∧ c ≠ b) w x s u) :
    AtTms P ((w.setCell ⟨b, n * 2, none⟩ x).setCell ⟨b, n * 2 + 1, none⟩ s) (some ⟨b, 0, none⟩) (ks.set n u) := by
  have hc : Chg [b] w ((w.setCell ⟨b, n * 2, none⟩ x).setCell ⟨b, n * 2 + 1, none⟩ s) := ((Chg.refl [b] w).setCell _ (.inl (by simp))).setCell _ (.inl (by simp))
  have oth : ∀ j, j ≠ n * 2 → j ≠ n * 2 + 1 → ((w.setCell ⟨b, n * 2, none⟩ x).setCell ⟨b, n * 2 + 1, none⟩ s).cell? ⟨b, j, none⟩ = w.cell? ⟨b, j, none⟩ := by
    intro j h1 h2
    rw [World.cell?_setCell_other _ _ _ _ (by intro e; injection e with _ e2; omega), World.cell?_setCell_other _ _ _ _ (by intro e; injection e with _ e2; omega)]
  have up : ∀ {y r : Value} {t : Tm}, AtTm (fun c => P c ∧ c ≠ b) w y r t → AtTm P ((w.setCell ⟨b, n * 2, none⟩ x).setCell ⟨b, n * 2 + 1, none⟩ s) y r t := fun ht =>
    ht.of_cells (fun c hc _ => hc.1) (fun p v hp hv => hc.cell hv (by simpa using hp.2))
  obtain ⟨x0, s0, e1, e2, -⟩ := h n hn
  refine AtTms.of_at hb fun i hi => ?_
  rw [List.length_set] at hi
  simp only [Nat.zero_add]
  by_cases hin : i = n
  · subst hin
    refine ⟨x, s, ?_, ?_, by rw [List.getElem_set_self]; exact up hu⟩
    · rw [World.cell?_setCell_other _ _ _ _ (by intro e; injection e with _ e2; omega)]; exact World.cell?_setCell_same _ _ _ e1
    · exact World.cell?_setCell_same (u := s0) _ _ _ (by rw [World.cell?_setCell_other _ _ _ _ (by intro e; injection e with _ e2; omega)]; exact e2)
  · obtain ⟨y, r, k1, k2, k3⟩ := h i hi
    exact ⟨y, r, by rw [oth _ (by omega) (by omega)]; exact k1, by rw [oth _ (by omega) (by omega)]; exact k2, by rw [List.getElem_set_ne (by omega)]; exact up k3⟩
theorem GRow.tmRow {e B g : Nat} {w : World} {n c : Nat} {l : List Tm} (h : GRow eltTm e B w (.slice (some ⟨g, 0, none⟩) n c) l) : TmRow (fun b => B ≤ b) g w l := fun i hi => by
  obtain ⟨g', cap, cs, hv, hb, hlt, -, ⟨x, s, hcs, ht⟩, -, hcell⟩ := h.at hi
  injection hv with hv
  injection hv with hv
  injection hv with hv
  subst hv
  exact ⟨x, s, hcell 0 x (by rw [hcs]; rfl), hcell 1 s (by rw [hcs]; rfl), ht.mono (fun b hb _ => ⟨hb.1, fun e => hb.2 (by rw [e]; rfl)⟩)⟩
mutual
theorem NewTm.at {w : World} : ∀ {t : Tm} {x s : Value} {B : Nat}, NewTm B w x s t → AtTm (fun b => B ≤ b) w x s t
  | .mk n ks, x, s, B, ht => by
    simp only [NewTm] at ht; simp only [AtTm]
    obtain ⟨h1, h2, h3, a, h4, -, h5⟩ := ht
    exact ⟨h1, h2, h3, a, _, h4, Nat.le_refl _, NewTms.at h5⟩
theorem NewTms.at {w : World} : ∀ {ts : List Tm} {a : Option Addr} {B : Nat}, NewTms B w a ts → AtTms (fun b => B ≤ b) w a ts
  | [], a, B, _ => by simp only [AtTms]
  | t :: ts, a, B, ht => by
    simp only [NewTms] at ht; simp only [AtTms]
    obtain ⟨b, o, x, s, h1, h0, h2, h3, h4, h5⟩ := ht
    exact ⟨b, o, x, s, h1, h0, h2, h3, (NewTm.at h4).mono (fun c hc _ => by omega), NewTms.at h5⟩
end
theorem NewTms.tmRow {B b : Nat} {w : World} : ∀ {ts : List Tm} {o : Nat}, NewTms B w (some ⟨b, o, none⟩) ts → ∀ i (h : i < ts.length), ∃ x s, w.cell? ⟨b, o + i * 2, none⟩ = some x ∧ w.cell? ⟨b, o + i * 2 + 1, none⟩ = some s ∧ AtTm (fun c => B ≤ c ∧ c ≠ b) w x s ts[i]
  | [], _, _, i, hi => by simp at hi
  | t :: ts, o, h, i, hi => by
    simp only [NewTms] at h
    obtain ⟨b', o', x, s, h1, h0, h2, h3, h4, h5⟩ := h
    injection h1 with h1
    injection h1 with e1 e2 _
    subst e1; subst e2
    cases i with
    | zero => exact ⟨x, s, by simpa using h2, by simpa using h3, h4.at.mono (fun c hc _ => ⟨by omega, by omega⟩)⟩
    | succ i =>
      obtain ⟨x, s, g1, g2, g3⟩ := NewTms.tmRow h5 i (by simpa using hi)
      refine ⟨x, s, ?_, ?_, by simpa using g3⟩
      · rw [show o + (i + 1) * 2 = o + 2 + i * 2 by omega]; exact g1
      · rw [show o + (i + 1) * 2 + 1 = o + 2 + i * 2 + 1 by omega]; exact g2

/-- what is handed back of a term that may be there -/
def Got (B : Nat) (w : World) (v : Value) : Option Tm → Prop
  | none => v = .tuple #[.agg #[.int .i64 0, .slice none 0 0], .bool false]
  | some t => ∃ a c, v = .tuple #[.agg #[.int .i64 t.f, .slice a t.ks.length c], .bool true] ∧ AtTm (fun b => B ≤ b) w (.int .i64 t.f) (.slice a t.ks.length c) t
end Go.Proofs.Ytdmiphdohfcbeaa
