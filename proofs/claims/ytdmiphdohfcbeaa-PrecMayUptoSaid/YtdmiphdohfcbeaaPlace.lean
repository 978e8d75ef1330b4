/- Plain: what becomes of a term when something is put at a place; all places of a term in order; going over a row till told to stop. No condition. -/
import Derived.Test.YtdmiphdohfcbeaaAt
namespace Go.Proofs.Ytdmiphdohfcbeaa

def Tm.put : Tm → List Int → Tm → Option Tm
  | _, [], s => some s
  | t, k :: p, s => match t.kid k with
    | none => none
    | some u => match u.put p s with
      | none => none
      | some x => some (.mk t.f (t.ks.set k.toNat x))

mutual
/-- all places, and what stands there -/
def Tm.places : Tm → List (List Int × Tm)
  | .mk f ks => ([], .mk f ks) :: Tm.placesL 0 ks
def Tm.placesL : Nat → List Tm → List (List Int × Tm)
  | _, [] => []
  | i, t :: ts => (t.places.map fun q => ((i : Int) :: q.1, q.2)) ++ Tm.placesL (i + 1) ts
end
mutual
theorem places_length : ∀ t : Tm, t.places.length = t.size
  | .mk f ks => by simp only [Tm.places, Tm.size, List.length_cons]; rw [placesL_length]
theorem placesL_length : ∀ (i : Nat) (ks : List Tm), (Tm.placesL i ks).length = Tm.sizes ks
  | _, [] => rfl
  | i, t :: ts => by simp only [Tm.placesL, Tm.sizes, List.length_append, List.length_map]; rw [places_length t, placesL_length (i + 1) ts]
end
mutual
theorem places_deep : ∀ (t : Tm) (q), q ∈ t.places → q.1.length < t.depth ∧ q.2.size ≤ t.size
  | .mk f ks, q, h => by
    simp only [Tm.places, List.mem_cons] at h
    simp only [Tm.depth, Tm.size]
    rcases h with rfl | h
    · simp only [List.length_nil]; exact ⟨by omega, by simp only [Tm.size]; omega⟩
    · have := placesL_deep 0 ks q h; omega
theorem placesL_deep : ∀ (i : Nat) (ks : List Tm) (q), q ∈ Tm.placesL i ks → q.1.length ≤ Tm.depths ks ∧ q.2.size ≤ Tm.sizes ks
  | _, [], q, h => by simp [Tm.placesL] at h
  | i, t :: ts, q, h => by
    simp only [Tm.placesL, List.mem_append, List.mem_map] at h
    simp only [Tm.depths, Tm.sizes]
    rcases h with ⟨q', h1, rfl⟩ | h
    · have := places_deep t q' h1; simp only [List.length_cons]; omega
    · have := placesL_deep (i + 1) ts q h; omega
end
theorem placesL_step {ks : List Tm} {k : Nat} (h : k < ks.length) : Tm.placesL k (ks.drop k) = (ks[k].places.map fun q => ((k : Int) :: q.1, q.2)) ++ Tm.placesL (k + 1) (ks.drop (k + 1)) := by
  rw [List.drop_eq_getElem_cons h]; simp only [Tm.placesL]

section
variable {σ α : Type} (st : σ → α → Bool × σ)
/-- over a row, till told to stop -/
def goRun : List α → σ → Bool × σ
  | [], s => (true, s)
  | q :: l, s => if (st s q).1 then goRun l (st s q).2 else (false, (st s q).2)
theorem goRun_app (l m : List α) (s : σ) : goRun st (l ++ m) s = if (goRun st l s).1 then goRun st m (goRun st l s).2 else (false, (goRun st l s).2) := by
  induction l generalizing s with
  | nil => simp [goRun]
  | cons q l ih =>
    by_cases h : (st s q).1 = true
    · have h1 : ∀ n : List α, goRun st (q :: n) s = goRun st n (st s q).2 := fun n => by simp only [goRun]; rw [if_pos h]
      rw [List.cons_append, h1, h1, ih]
    · have h1 : ∀ n : List α, goRun st (q :: n) s = (false, (st s q).2) := fun n => by simp only [goRun]; rw [if_neg h]
      rw [List.cons_append, h1, h1]; simp
end
end Go.Proofs.Ytdmiphdohfcbeaa
