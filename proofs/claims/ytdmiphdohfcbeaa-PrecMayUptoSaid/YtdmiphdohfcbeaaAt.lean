/- What term.At returns. -/
import Derived.Test.YtdmiphdohfcbeaaCopy
import Derived.Laws.ResultCell
namespace Go.Proofs.Ytdmiphdohfcbeaa
open Go.ChangeShapes Go.WideShapes Go.ChangeAt Go.RowKit

/-- from an address on stand numbers -/
def IsInts (w : World) (a : Option Addr) (l : List Int) : Prop :=
  ∀ i (h : i < l.length), -9223372036854775808 ≤ l[i] ∧ l[i] ≤ 9223372036854775807 ∧ ∃ b o, a = some ⟨b, o, none⟩ ∧ w.cell? ⟨b, o + i, none⟩ = some (.int .i64 l[i])
theorem IsInts.ext {w w' : World} {a : Option Addr} {l : List Int} (h : IsInts w a l) (hx : Ext w w') : IsInts w' a l := fun i hi => by
  obtain ⟨h1, h2, b, o, h3, h4⟩ := h i hi
  exact ⟨h1, h2, b, o, h3, hx.cell h4⟩

def Tm.kid (t : Tm) (k : Int) : Option Tm := if 0 ≤ k then t.ks[k.toNat]? else none
def Tm.at : Tm → List Int → Option Tm
  | t, [] => some t
  | t, k :: p => match t.kid k with
    | none => none
    | some u => u.at p
theorem at_none {t : Tm} {p : List Int} {k : Nat} (h : k < p.length) (hk : t.kid p[k] = none) : t.at (p.drop k) = none := by
  rw [List.drop_eq_getElem_cons h]; simp only [Tm.at]; rw [hk]
theorem at_some {t u : Tm} {p : List Int} {k : Nat} (h : k < p.length) (hk : t.kid p[k] = some u) : t.at (p.drop k) = u.at (p.drop (k + 1)) := by
  rw [List.drop_eq_getElem_cons h]; simp only [Tm.at]; rw [hk]

/-- what is handed back of a term that may be there -/
def Given (B : Nat) (w : World) (v : Value) : Option Tm → Prop
  | none => v = .tuple #[.agg #[.int .i64 0, .slice none 0 0], .bool false]
  | some t => ∃ a, v = .tuple #[.agg #[.int .i64 t.f, .slice a t.ks.length t.ks.length], .bool true] ∧ NewTm B w (.int .i64 t.f) (.slice a t.ks.length t.ks.length) t

end Go.Proofs.Ytdmiphdohfcbeaa
