/- Rows of numbers: from a reading of an argument to numbers in memory; what syllogismlaw02.numbers returns. -/
import Derived.Test.YtapoedcmhdlpfaaQ1
import Derived.Test.YtapoedcmhdlpfaaQ6
import Derived.Deep.QuietTactic
namespace Go.Proofs.Ytapoedcmhdlpfaa
open Go.ChangeShapes Go.WideShapes Go.ChangeAt Go.RowKit
theorem IsInts.look {w : World} {a : Option Addr} {l : List Int} (h : IsInts w a l) {i : Nat} (hi : i < l.length) : ∃ b o, a = some ⟨b, o, none⟩ ∧ w.cell? ⟨b, o + i, none⟩ = some (.int .i64 l[i]) := by
  obtain ⟨-, -, b, o, h1, h2⟩ := h i hi
  exact ⟨b, o, h1, h2⟩

section
variable {H : Type} {enc : TypeId × Value → H} {w : World} {base : Nat} {spare : Nat → Bool} {held : Bool}
theorem cells1_of {a : Addr} {cs : List Value} (h : w.cells? base a 1 = some cs) : ∃ x b o, a = ⟨b, o, none⟩ ∧ cs = [x] ∧ w.cell? ⟨b, o, none⟩ = some x := by
  obtain ⟨-, hl, hc⟩ := World.cells?_some h
  match cs, hl with
  | [x], _ =>
    have c0 := hc 0 (by omega)
    obtain ⟨b, o, sp⟩ := a
    have hsp : sp = none := by simpa [Addr.add] using World.cell?_spot (show w.cell? ((⟨b, o, sp⟩ : Addr).add 0) = some x by simpa using c0)
    subst hsp
    exact ⟨x, b, o, rfl, rfl, by simpa [Addr.add] using c0⟩

end
end Go.Proofs.Ytapoedcmhdlpfaa
