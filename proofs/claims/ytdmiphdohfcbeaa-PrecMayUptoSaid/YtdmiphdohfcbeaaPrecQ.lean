/- Plain: numbers no two of which are the same, by sorting; least and greatest of a row; which orders may be. No condition. -/
import Derived.Test.YtdmiphdohfcbeaaCl1
import Derived.Test.YtdmiphdohfcbeaaVarsP
namespace Go.Proofs.Ytdmiphdohfcbeaa

theorem cover : ∀ (c l : List Int), c.Nodup → (∀ x ∈ c, x ∈ l) → l.length = c.length → l.Nodup ∧ ∀ x ∈ l, x ∈ c
  | [], l, _, _, h => by
    have : l = [] := List.length_eq_zero_iff.1 h
    subst this; simp
  | a :: c, l, hn, hs, h => by
    rw [List.nodup_cons] at hn
    have ha := hs a (by simp)
    have hlen := List.length_erase_of_mem ha
    simp only [List.length_cons] at h
    obtain ⟨h1, h2⟩ := cover c (l.erase a) hn.2 (fun x hx => by
      have hxa : x ≠ a := fun e => hn.1 (e ▸ hx)
      exact (List.mem_erase_of_ne hxa).2 (hs x (by simp [hx]))) (by omega)
    have hp := List.perm_cons_erase ha
    refine ⟨?_, fun x hx => ?_⟩
    · rw [hp.nodup_iff, List.nodup_cons]
      exact ⟨fun h3 => hn.1 (h2 a h3), h1⟩
    · have := hp.mem_iff.1 hx
      rcases List.mem_cons.1 this with rfl | h3
      · simp
      · simp [h2 x h3]
def sortInts (l : List Int) : List Int := l.mergeSort fun x y => decide (x ≤ y)
theorem sortInts_sorted (l : List Int) : (sortInts l).Pairwise (· ≤ ·) := by
  have := List.pairwise_mergeSort (le := fun (x y : Int) => decide (x ≤ y)) (by intro a b c h1 h2; simp at *; omega) (by intro a b; simp; omega) l
  exact this.imp (by simp)
theorem sortInts_perm (l : List Int) : (sortInts l).Perm l := List.mergeSort_perm _ _
theorem sorted_distinct (l : List Int) : (Lib.compact (sortInts l)).length = l.length ↔ l.Nodup := by
  obtain ⟨h1, h2⟩ := compact_spec _ (sortInts_sorted l)
  have hp := sortInts_perm l
  constructor
  · intro h
    exact (cover _ l (h1.imp (by intro a b h; omega)) (fun x hx => hp.mem_iff.1 ((h2 x).1 hx)) h.symm).1
  · intro h
    have hn := hp.nodup_iff.2 h
    have hlt : (sortInts l).Pairwise (· < ·) := by
      have := (sortInts_sorted l).and hn
      exact this.imp (by intro a b h; omega)
    rw [strict_ext _ _ h1 hlt h2, hp.length_eq]

/-- may the numbers of Prec be, of n symbols? -/
def ranksB (prec : List Int) (n : Nat) : Bool := decide (prec.length = n ∧ prec.Nodup ∧ ∀ x ∈ prec.drop 1, ∀ y ∈ prec.head?, y < x)
/-- has no other a greater number? -/
def highB (prec : List Int) (i : Nat) : Bool := decide (∀ x ∈ prec, x ≤ (prec[i]?).getD 0)
def weightB (l : List Sy) (prec wts : List Int) (var : Int) (i : Nat) : Bool :=
  let w := (wts[i]?).getD 0
  let a := ((l[i]?).map Sy.arity).getD 0
  decide (0 ≤ w ∧ w ≤ 1000 ∧ (a = 0 → var ≤ w)) && (!decide (a = 1 ∧ w = 0) || highB prec i)
/-- which orders may be -/
def ordCheck (l : List Sy) (lpo : Bool) (prec wts : List Int) (var : Int) : Int :=
  if sigCheck l ≠ 0 then 2
  else if ranksB prec l.length = false then 2
  else if lpo = true then 0
  else if wts.length ≠ l.length ∨ var < 1 ∨ 1000 < var ∨ (wts[0]?).getD 0 ≠ var then 2
  else if (List.range l.length).all (weightB l prec wts var) = true then 0 else 2
end Go.Proofs.Ytdmiphdohfcbeaa
