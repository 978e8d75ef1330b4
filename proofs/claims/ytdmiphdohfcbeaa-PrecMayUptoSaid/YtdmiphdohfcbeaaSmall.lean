/- What term.Small returns, for every term that lies in memory: whether its size and depth are within the limits and its variables numbered below most. -/
import Derived.Test.YtdmiphdohfcbeaaBase
import Derived.StillTailTactics
namespace Go.Proofs.Ytdmiphdohfcbeaa
open Go.ChangeShapes Go.WideShapes Go.ChangeAt Go.RowKit

mutual
def Tm.smallRun (m : Int) : Tm → Nat → Nat → Bool × Nat
  | .mk f ks, d, n => if 300 < n + 1 ∨ 30 < d ∨ (f < 0 ∧ (f < -m ∨ 0 < ks.length)) then (false, n + 1) else Tm.smallRuns m ks (d + 1) (n + 1)
def Tm.smallRuns (m : Int) : List Tm → Nat → Nat → Bool × Nat
  | [], _, n => (true, n)
  | t :: ts, d, n => if (Tm.smallRun m t d n).1 then Tm.smallRuns m ts d (Tm.smallRun m t d n).2 else (false, (Tm.smallRun m t d n).2)
end

def Tm.small (m : Int) (t : Tm) : Bool := decide (t.size ≤ 300) && decide (t.depth ≤ 30) && t.low m

theorem smallRun_eq (m : Int) (t : Tm) : ∀ d n, 1 ≤ d → n ≤ 300 → ((Tm.smallRun m t d n).1 = true ↔ n + t.size ≤ 300 ∧ d + t.depth ≤ 31 ∧ t.low m = true) ∧ ((Tm.smallRun m t d n).1 = true → (Tm.smallRun m t d n).2 = n + t.size) := by
  refine Tm.rec (motive_1 := fun t => ∀ d n, 1 ≤ d → n ≤ 300 → ((Tm.smallRun m t d n).1 = true ↔ n + t.size ≤ 300 ∧ d + t.depth ≤ 31 ∧ t.low m = true) ∧ ((Tm.smallRun m t d n).1 = true → (Tm.smallRun m t d n).2 = n + t.size))
    (motive_2 := fun l => ∀ d n, 1 ≤ d → n ≤ 300 → ((Tm.smallRuns m l d n).1 = true ↔ n + Tm.sizes l ≤ 300 ∧ (l = [] ∨ d + Tm.depths l ≤ 31) ∧ Tm.lows m l = true) ∧ ((Tm.smallRuns m l d n).1 = true → (Tm.smallRuns m l d n).2 = n + Tm.sizes l)) ?_ ?_ ?_ t
  · intro f ks ih d n hd hn
    simp only [Tm.smallRun, Tm.size, Tm.depth, Tm.low]
    by_cases h : 300 < n + 1 ∨ 30 < d ∨ (f < 0 ∧ (f < -m ∨ 0 < ks.length))
    · rw [if_pos h]
      refine ⟨⟨(fun h => by cases h), fun ⟨g1, g2, g3⟩ => ?_⟩, fun h => by cases h⟩
      exfalso
      rcases h with h | h | ⟨h1, h2⟩
      · omega
      · omega
      · rw [if_pos h1, Bool.and_eq_true, decide_eq_true_eq, decide_eq_true_eq] at g3
        omega
    · rw [if_neg h]
      obtain ⟨i1, i2⟩ := ih (d + 1) (n + 1) (by omega) (by omega)
      refine ⟨?_, fun hh => by rw [i2 hh]; omega⟩
      rw [i1]
      by_cases hf : f < 0
      · have h1 : -m ≤ f := by omega
        have h2 : ks.length = 0 := by omega
        have h3 : ks = [] := List.eq_nil_of_length_eq_zero h2
        subst h3
        simp [Tm.lows, Tm.sizes, Tm.depths, h1, hf]; omega
      · rw [if_neg hf]
        constructor
        · rintro ⟨g1, g2, g3⟩
          refine ⟨by omega, ?_, g3⟩
          rcases g2 with g2 | g2
          · subst g2; simp [Tm.depths]; omega
          · omega
        · rintro ⟨g1, g2, g3⟩
          exact ⟨by omega, .inr (by omega), g3⟩
  · intro d n _ hn; simp [Tm.smallRuns, Tm.sizes, Tm.lows, hn]
  · intro t ts ih1 ih2 d n hd hn
    simp only [Tm.smallRuns, Tm.sizes, Tm.lows, Tm.depths]
    obtain ⟨a1, a2⟩ := ih1 d n hd hn
    cases h : (Tm.smallRun m t d n).1 with
    | true =>
      obtain ⟨h1, h2, h3⟩ := a1.1 h
      have e := a2 h
      obtain ⟨b1, b2⟩ := ih2 d (n + t.size) hd h1
      rw [if_pos rfl, e]
      refine ⟨?_, fun hh => by rw [b2 hh]; omega⟩
      rw [b1, h3, Bool.true_and]
      constructor
      · rintro ⟨g1, g2, g3⟩
        refine ⟨by omega, .inr ?_, g3⟩
        rcases g2 with g2 | g2
        · subst g2; simp [Tm.depths]; omega
        · omega
      · rintro ⟨g1, g2, g3⟩
        refine ⟨by omega, .inr ?_, g3⟩
        rcases g2 with g2 | g2
        · cases g2
        · omega
    | false =>
      rw [if_neg (by simp)]
      refine ⟨⟨(fun h => by cases h), fun ⟨g1, g2, g3⟩ => ?_⟩, fun h => by cases h⟩
      exfalso
      rw [Bool.and_eq_true] at g3
      have g4 : d + t.depth ≤ 31 := by
        rcases g2 with g2 | g2
        · cases g2
        · omega
      rw [a1.2 ⟨by omega, g4, g3.1⟩] at h
      cases h

theorem small_eq (m : Int) (t : Tm) : (Tm.smallRun m t 1 0).1 = t.small m := by
  rw [Bool.eq_iff_iff, (smallRun_eq m t 1 0 (Nat.le_refl _) (by omega)).1]
  unfold Tm.small
  simp only [Bool.and_eq_true, decide_eq_true_eq, and_assoc]
  constructor
  · rintro ⟨h1, h2, h3⟩; exact ⟨by omega, by omega, h3⟩
  · rintro ⟨h1, h2, h3⟩; exact ⟨by omega, by omega, h3⟩
end Go.Proofs.Ytdmiphdohfcbeaa
