/- Rows of the call's own: an element put anew, the row cut off. No condition. -/
import Derived.Test.YtnclgkdpafhogaaQi17
import Derived.Lib.SliceRun
namespace Go.Proofs.Ytnclgkdpafhogaa
open Go.ChangeShapes Go.WideShapes Go.ChangeAt Go.RowKit
/-- a stretch of a list set anew -/
def setFrom {α : Type} (xs : List α) (o : Nat) : List α → List α
  | [] => xs
  | u :: us => setFrom (xs.set o u) (o + 1) us
theorem setFrom_eq {α : Type} : ∀ (us xs : List α) (o : Nat), o + us.length ≤ xs.length → setFrom xs o us = xs.take o ++ us ++ xs.drop (o + us.length)
  | [], xs, o, _ => by simp [setFrom]
  | u :: us, xs, o, h => by
    simp only [List.length_cons] at h
    unfold setFrom
    rw [setFrom_eq us (xs.set o u) (o + 1) (by simp; omega), List.drop_set_of_lt (by omega), List.take_set, List.take_succ_eq_append_getElem (by omega : o < xs.length)]
    rw [List.set_append_right _ _ (by simp; omega)]
    have : o - (xs.take o).length = 0 := by rw [List.length_take]; omega
    rw [this]
    simp only [List.set_cons_zero, List.length_cons]
    rw [show o + 1 + us.length = o + (us.length + 1) by omega]
    simp
theorem setFrom_beyond {α : Type} : ∀ (us xs : List α) (o : Nat), xs.length ≤ o → setFrom xs o us = xs
  | [], _, _, _ => rfl
  | u :: us, xs, o, h => by
    unfold setFrom
    rw [List.set_eq_of_length_le h, setFrom_beyond us xs (o + 1) (by omega)]
theorem flatten_take {α : Type} {m : Nat} : ∀ (cs : List (List α)) (i : Nat), (∀ c ∈ cs, c.length = m) → i ≤ cs.length → cs.flatten.take (i * m) = (cs.take i).flatten
  | [], i, _, h => by simp
  | c :: cs, 0, _, _ => by simp
  | c :: cs, i + 1, hl, h => by
    have hc := hl c (by simp)
    rw [List.flatten_cons, List.take_succ_cons, List.flatten_cons, ← flatten_take cs i (fun x hx => hl x (by simp [hx])) (by simpa using h), List.take_append, hc, List.take_of_length_le (by rw [hc, Nat.add_mul]; omega)]
    rw [show (i + 1) * m - m = i * m by rw [Nat.add_mul]; omega]
theorem flatten_drop {α : Type} {m : Nat} : ∀ (cs : List (List α)) (i : Nat), (∀ c ∈ cs, c.length = m) → i ≤ cs.length → cs.flatten.drop (i * m) = (cs.drop i).flatten
  | [], i, _, h => by simp
  | c :: cs, 0, _, _ => by simp
  | c :: cs, i + 1, hl, h => by
    have hc := hl c (by simp)
    rw [List.flatten_cons, List.drop_succ_cons, ← flatten_drop cs i (fun x hx => hl x (by simp [hx])) (by simpa using h), List.drop_append, hc, List.drop_of_length_le (by rw [hc, Nat.add_mul]; omega)]
    rw [show (i + 1) * m - m = i * m by rw [Nat.add_mul]; omega]
    simp
theorem flatten_set {α : Type} {m : Nat} {cs : List (List α)} {i : Nat} {c : List α} (hl : ∀ c ∈ cs, c.length = m) (hi : i < cs.length) (hc : c.length = m) : (cs.set i c).flatten = setFrom cs.flatten (i * m) c := by
  have hlen : cs.flatten.length = cs.length * m := by
    clear hi
    induction cs with
    | nil => simp
    | cons x cs ih => rw [List.flatten_cons, List.length_append, hl x (by simp), ih (fun y hy => hl y (by simp [hy])), List.length_cons, Nat.add_mul]; omega
  have hle : i * m + m ≤ cs.length * m := by
    have := Nat.mul_le_mul_right m (show i + 1 ≤ cs.length from hi)
    rw [Nat.add_mul] at this; omega
  rw [setFrom_eq c cs.flatten (i * m) (by rw [hlen, hc]; exact hle), hc, flatten_take cs i hl (by omega), show i * m + m = (i + 1) * m by rw [Nat.add_mul]; omega, flatten_drop cs (i + 1) hl hi, List.set_eq_take_append_cons_drop]
  rw [if_pos hi]
  simp
theorem own_setCells {base size n g cap : Nat} {e : TypeId} : ∀ (us xs : List Value) (o : Nat) (w : World), w.ownsRow base e size (.slice (some ⟨g, 0, none⟩) n cap) n xs → (w.setCells g o us).ownsRow base e size (.slice (some ⟨g, 0, none⟩) n cap) n (setFrom xs o us) ∧ Chg [g] w (w.setCells g o us)
  | [], xs, o, w, h => ⟨h, Chg.refl _ _⟩
  | u :: us, xs, o, w, h => by
    obtain ⟨h1, -⟩ := h.stored o u
    obtain ⟨h2, h3⟩ := own_setCells us (xs.set o u) (o + 1) (w.setCell ⟨g, o, none⟩ u) h1
    exact ⟨h2, ((Chg.refl [g] w).setCell _ (.inl (by simp))).trans h3⟩
theorem own_take {base size n g cap k : Nat} {e : TypeId} {w : World} {xs : List Value} (h : w.ownsRow base e size (.slice (some ⟨g, 0, none⟩) n cap) n xs) (hk : k ≤ n) : w.ownsRow base e size (.slice (some ⟨g, 0, none⟩) k cap) k (xs.take (k * size)) := by
  have hle := Nat.mul_le_mul_right size hk
  obtain ⟨h1, h2⟩ := h
  rcases h2 with ⟨h2, -⟩ | ⟨g', cap', cur, hv, hb, hh, hn, hm, hs, ht⟩
  · cases h2
  · injection hv with e1 _ e3
    injection e1 with e1; injection e1 with e1 _ _
    subst e1; subst e3
    refine ⟨by rw [List.length_take, h1]; omega, .inr ⟨g, cap, cur, rfl, hb, hh, by omega, hm, hs, ?_⟩⟩
    rw [← ht, List.take_take, Nat.min_eq_left hle]
section
variable {m e B g n cap : Nat} {w : World} {l : List (List Dat)}
theorem GRow.put {x : List Dat} {c : List Value} {i : Nat} (h : GRow (eltDat m) e B w (.slice (some ⟨g, 0, none⟩) n cap) l) (hi : i < l.length) (hc : (eltDat m).is (fun b => B ≤ b ∧ b ≠ g) w c x) :
    GRow (eltDat m) e B (w.setCells g (i * m) c) (.slice (some ⟨g, 0, none⟩) n cap) (l.set i x) ∧ Chg [g] w (w.setCells g (i * m) c) := by
  obtain ⟨a0, c0, hv0, -⟩ := h.form
  obtain ⟨cs, h1, h2, h3⟩ := h
  injection hv0 with _ hn _
  subst hn
  obtain ⟨h4, h5⟩ := own_setCells c cs.flatten (i * m) w h2
  have hl : ∀ c ∈ cs, c.length = m := by
    intro c hc
    obtain ⟨k, hk, rfl⟩ := List.getElem_of_mem hc
    exact (h3 k (by omega) hk).1
  refine ⟨⟨cs.set i c, by simp [h1], ?_, fun j hj hj' => ?_⟩, h5⟩
  · rw [flatten_set hl (by omega) hc.1, List.length_set]
    exact h4
  · by_cases hji : j = i
    · subst hji
      rw [List.getElem_set_self, List.getElem_set_self]
      exact ⟨hc.1, (hc.2.mono fun b hb _ => ⟨hb.1, fun he => hb.2 (by injection he with he; exact he.symm)⟩).chg h5 fun b hb hm => hb.2 (by simp at hm; subst hm; rfl)⟩
    · rw [List.getElem_set_ne (Ne.symm hji), List.getElem_set_ne (Ne.symm hji)]
      have := h3 j (by simpa using hj) (by simpa using hj')
      exact ⟨this.1, this.2.chg h5 fun b hb hm => hb.2 (by simp at hm; subst hm; rfl)⟩
theorem GRow.take {k : Nat} (h : GRow (eltDat m) e B w (.slice (some ⟨g, 0, none⟩) n cap) l) (hk : k ≤ l.length) : GRow (eltDat m) e B w (.slice (some ⟨g, 0, none⟩) k cap) (l.take k) := by
  obtain ⟨a0, c0, hv0, -⟩ := h.form
  obtain ⟨cs, h1, h2, h3⟩ := h
  injection hv0 with _ hn _
  subst hn
  have hl : ∀ c ∈ cs, c.length = m := by
    intro c hc
    obtain ⟨k, hk, rfl⟩ := List.getElem_of_mem hc
    exact (h3 k (by omega) hk).1
  have hlen : (l.take k).length = k := by rw [List.length_take]; omega
  refine ⟨cs.take k, by rw [List.length_take, List.length_take]; omega, ?_, fun j hj hj' => ?_⟩
  · rw [hlen, ← flatten_take cs k hl (by omega)]
    exact own_take h2 hk
  · rw [List.getElem_take, List.getElem_take]
    exact h3 j (by rw [hlen] at hj; omega) (by rw [List.length_take] at hj'; omega)
/-- cells behind the row's end are set -/
theorem GRow.beyond {us : List Value} {o : Nat} (h : GRow (eltDat m) e B w (.slice (some ⟨g, 0, none⟩) n cap) l) (ho : l.length * m ≤ o) : GRow (eltDat m) e B (w.setCells g o us) (.slice (some ⟨g, 0, none⟩) n cap) l ∧ Chg [g] w (w.setCells g o us) := by
  obtain ⟨a0, c0, hv0, -⟩ := h.form
  obtain ⟨cs, h1, h2, h3⟩ := h
  injection hv0 with _ hn _
  subst hn
  obtain ⟨h4, h5⟩ := own_setCells us cs.flatten o w h2
  rw [setFrom_beyond us cs.flatten o (by rw [h2.1]; exact ho)] at h4
  exact ⟨⟨cs, h1, h4, fun j hj hj' => ⟨(h3 j hj hj').1, (h3 j hj hj').2.chg h5 fun b hb hm => hb.2 (by simp at hm; subst hm; rfl)⟩⟩, h5⟩
end
/-- clear on a row of elements of several cells -/
theorem run_clear_cells {w : World} {t e : TypeId} {z : Value} {m : Nat} (ht : Try.prog.underlying t = some (.slice e)) (hv : ∀ w, (zeroValue e).run Try.prog w = .ok z w) (hz : z.cells.size = m) (h1 : ∀ u ∈ z.cells.toList, u.oneCell' = true) (hm : 0 < m) {b o n c : Nat}
    (hc : ∀ j, j < n * m → (w.cell? ⟨b, o + j, none⟩).isSome = true) (hf : ∀ j, j < n * m → w.frozen? ⟨b, o + j, none⟩ = false) :
    ∃ us, ∀ ty, (Builtin.clear_ #[t] ty #[.slice (some ⟨b, o, none⟩) n c]).run Try.prog w = .ok (.tuple #[]) (w.setCells b o us) := by
  cases n with
  | zero => exact ⟨[], fun ty => by simp [Builtin.clear_, run_underlying ht]; rfl⟩
  | succ k =>
    refine ⟨(Builtin.zeroCells z.cells (k + 1)).toList, fun ty => ?_⟩
    have hlen : (Builtin.zeroCells z.cells (k + 1)).toList.length = (k + 1) * m := by simp [Builtin.zeroCells, hz]
    have hst := run_storeCells_cells (P := Try.prog) b o (Builtin.zeroCells z.cells (k + 1)).toList 0 w (by rw [hlen]; simpa using hc) (by rw [hlen]; simpa using hf) (by
      intro v hv'
      simp only [Builtin.zeroCells, Array.toList_map, List.mem_map] at hv'
      obtain ⟨i, -, rfl⟩ := hv'
      have hlt : i % z.cells.size < z.cells.size := Nat.mod_lt _ (by omega)
      rw [getElem!_pos z.cells _ hlt]
      exact h1 _ (by simp))
    simp only [Nat.add_zero] at hst
    simp [Builtin.clear_, run_underlying ht, hv, hst]
end Go.Proofs.Ytnclgkdpafhogaa
