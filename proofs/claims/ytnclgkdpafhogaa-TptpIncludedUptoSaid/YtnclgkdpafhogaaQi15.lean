/- The reference's Reader: Peek, Wrong, Take, Must, upper; Named. Condition: a row of at most 2^30 tokens, not empty. -/
import Derived.Test.YtnclgkdpafhogaaQi5
import Derived.Test.YtnclgkdpafhogaaQi12
import Derived.Deep.CutRange
import Derived.Deep.CutBlock
namespace Go.Proofs.Ytnclgkdpafhogaa
open Go.ChangeShapes Go.WideShapes Go.ChangeAt Go.RowKit
/-- what a reading leaves of the reader -/
def Rd.st {α : Type} : Rd α → Rd Unit
  | .ok _ ks => .ok () ks
  | .bad ks => .bad ks
/-- a reader's block: the tokens that are still to come, or the place that was wrong -/
def RSt (rb : Nat) (l : List Tok) (w : World) (st : Rd Unit) : Prop :=
  ∃ (a : Option Addr) (c p : Nat) (z : Int), Own w rb [.slice a l.length c, .int .i64 p, .int .i64 z] ∧ l.length ≤ c ∧ IsToks rb w a l ∧ p ≤ l.length ∧ match st with
    | .ok _ ks => ks <:+ l ∧ p + ks.length = l.length ∧ z = -1
    | .bad ks => z = badAt l ks
theorem RSt.ext {rb : Nat} {l : List Tok} {w w' : World} {st : Rd Unit} (h : RSt rb l w st) (hx : Ext w w') : RSt rb l w' st := by
  obtain ⟨a, c, p, z, h1, h2, h3, h4, h5⟩ := h
  exact ⟨a, c, p, z, h1.ext hx, h2, Dat.Rows.ext h3 hx, h4, h5⟩
theorem RSt.chg {rb : Nat} {l : List Tok} {S : List Nat} {w w' : World} {st : Rd Unit} (h : RSt rb l w st) (hx : Chg S w w') (hS : ∀ b ∈ S, rb < b) : RSt rb l w' st := by
  obtain ⟨a, c, p, z, h1, h2, h3, h4, h5⟩ := h
  exact ⟨a, c, p, z, h1.chg hx (fun hm => by have := hS rb hm; omega), h2, h3.chgs hx (fun b hb => by have := hS b hb; omega), h4, h5⟩
theorem RSt.lt {rb : Nat} {l : List Tok} {w : World} {st : Rd Unit} (h : RSt rb l w st) : rb < w.heap.size := by
  obtain ⟨a, c, p, z, h1, -⟩ := h; exact h1.lt
theorem RSt.toks {rb : Nat} {l : List Tok} {w : World} {st : Rd Unit} (h : RSt rb l w st) : ∀ t ∈ l, t.ok := fun t ht => by
  obtain ⟨a, c, p, z, h1, h2, h3, -⟩ := h
  obtain ⟨i, hi, rfl⟩ := List.getElem_of_mem ht
  obtain ⟨_, _, _, _, _, _, _, hok⟩ := h3.look hi
  exact hok
def tokAt (l : List Tok) (p : Nat) : Tok := (l[p]?).getD endT
theorem tokAt_lt {l : List Tok} {p : Nat} (h : p < l.length) : tokAt l p = l[p] := by unfold tokAt; rw [List.getElem?_eq_getElem h]; rfl
theorem peek_at {l ks : List Tok} {p : Nat} (h : ks <:+ l) (hp : p + ks.length = l.length) : tokAt l p = peekT ks := by
  have he := List.suffix_iff_eq_drop.1 h
  have : l.length - ks.length = p := by omega
  rw [this] at he
  unfold tokAt peekT
  rw [he, List.head?_drop]
section
variable {rb : Nat} {l : List Tok} {w : World} {st : Rd Unit}
end
end Go.Proofs.Ytnclgkdpafhogaa
