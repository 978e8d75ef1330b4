/- Terms whose arguments lie in blocks of a kind; rows of the call's own that hold terms. No condition. -/
import Derived.Test.YtoidhdcbemmfhaaDoorSize
namespace Go.Proofs.YtoidhdcbemmfhaaDoor
open Go.ChangeShapes Go.WideShapes Go.ChangeAt Go.RowKit

mutual
/-- two cells read as a term all of whose arguments lie in blocks of P -/
def AtTm (P : Nat → Prop) (w : World) (x s : Value) : Tm → Prop
  | .mk n ks => x = .int .i64 n ∧ -9223372036854775808 ≤ n ∧ n ≤ 9223372036854775807 ∧ ∃ a c, s = .slice a ks.length c ∧ ks.length ≤ c ∧ AtTms P w a ks
def AtTms (P : Nat → Prop) (w : World) (a : Option Addr) : List Tm → Prop
  | [] => True
  | t :: ts => ∃ b o x s, a = some ⟨b, o, none⟩ ∧ P b ∧ w.cell? ⟨b, o, none⟩ = some x ∧ w.cell? ⟨b, o + 1, none⟩ = some s ∧ AtTm P w x s t ∧ AtTms P w (some ⟨b, o + 2, none⟩) ts
end
section
variable {w w' : World} {P Q : Nat → Prop}
mutual
theorem AtTm.of_cells (hQ : ∀ b, P b → b < w.heap.size → Q b) (h : ∀ p v, P p.block → w.cell? p = some v → w'.cell? p = some v) : ∀ {t : Tm} {x s : Value}, AtTm P w x s t → AtTm Q w' x s t
  | .mk n ks, x, s, ht => by
    simp only [AtTm] at ht ⊢
    obtain ⟨h1, h2, h3, a, c, h4, h6, h5⟩ := ht
    exact ⟨h1, h2, h3, a, c, h4, h6, AtTms.of_cells hQ h h5⟩
theorem AtTms.of_cells (hQ : ∀ b, P b → b < w.heap.size → Q b) (h : ∀ p v, P p.block → w.cell? p = some v → w'.cell? p = some v) : ∀ {ts : List Tm} {a : Option Addr}, AtTms P w a ts → AtTms Q w' a ts
  | [], a, _ => trivial
  | t :: ts, a, ht => by
    simp only [AtTms] at ht ⊢
    obtain ⟨b, o, x, s, h1, h0, h2, h3, h4, h5⟩ := ht
    exact ⟨b, o, x, s, h1, hQ b h0 (cell_lt h2), h _ _ h0 h2, h _ _ h0 h3, AtTm.of_cells hQ h h4, AtTms.of_cells hQ h h5⟩
end
mutual
theorem AtTm.isTm : ∀ {t : Tm} {x s : Value}, AtTm P w x s t → IsTm w x s t
  | .mk n ks, x, s, ht => by
    simp only [AtTm] at ht; simp only [IsTm]
    obtain ⟨h1, h2, h3, a, c, h4, h6, h5⟩ := ht
    exact ⟨h1, h2, h3, a, c, h4, h6, AtTms.isTms h5⟩
theorem AtTms.isTms : ∀ {ts : List Tm} {a : Option Addr}, AtTms P w a ts → IsTms w a ts
  | [], a, _ => by simp only [IsTms]
  | t :: ts, a, ht => by
    simp only [AtTms] at ht; simp only [IsTms]
    obtain ⟨b, o, x, s, h1, h0, h2, h3, h4, h5⟩ := ht
    exact ⟨b, o, x, s, h1, h2, h3, AtTm.isTm h4, AtTms.isTms h5⟩
end
end
theorem AtTm.ext {P : Nat → Prop} {w w' : World} {t : Tm} {x s : Value} (h : AtTm P w x s t) (hx : Ext w w') : AtTm P w' x s t := h.of_cells (fun _ h _ => h) fun _ _ _ hp => hx.cell hp
theorem AtTm.chg {P : Nat → Prop} {S : List Nat} {w w' : World} {t : Tm} {x s : Value} (h : AtTm P w x s t) (hx : Chg S w w') (hS : ∀ i ∈ S, ¬ P i) : AtTm P w' x s t :=
  h.of_cells (fun _ h _ => h) fun p _ hB hp => hx.cell hp (fun hm => hS _ hm hB)
theorem AtTm.mono {P Q : Nat → Prop} {w : World} {t : Tm} {x s : Value} (h : AtTm P w x s t) (hQ : ∀ b, P b → b < w.heap.size → Q b) : AtTm Q w x s t := h.of_cells hQ fun _ _ _ h => h

/-- cells, two for each term -/
def tmCells : List (Value × Value) → List Value
  | [] => []
  | p :: r => p.1 :: p.2 :: tmCells r
theorem tmCells_app (l r : List (Value × Value)) : tmCells (l ++ r) = tmCells l ++ tmCells r := by
  induction l with
  | nil => rfl
  | cons p l ih => simp only [List.cons_append, tmCells, ih]
theorem tmCells_length (l : List (Value × Value)) : (tmCells l).length = l.length * 2 := by
  induction l with
  | nil => rfl
  | cons p l ih => simp only [tmCells, List.length_cons, ih]; omega
end Go.Proofs.YtoidhdcbemmfhaaDoor
