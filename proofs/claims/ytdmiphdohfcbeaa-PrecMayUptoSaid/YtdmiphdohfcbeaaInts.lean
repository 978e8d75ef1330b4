/- Rows of numbers: from a reading of an argument to numbers in memory; what syllogismlaw02.numbers returns. -/
import Derived.Test.YtdmiphdohfcbeaaOpen
import Derived.Test.YtdmiphdohfcbeaaAt
import Derived.Deep.QuietTactic
namespace Go.Proofs.Ytdmiphdohfcbeaa
open Go.ChangeShapes Go.WideShapes Go.ChangeAt Go.RowKit

theorem IsInts.look {w : World} {a : Option Addr} {l : List Int} (h : IsInts w a l) {i : Nat} (hi : i < l.length) : ∃ b o, a = some ⟨b, o, none⟩ ∧ w.cell? ⟨b, o + i, none⟩ = some (.int .i64 l[i]) := by
  obtain ⟨-, -, b, o, h1, h2⟩ := h i hi
  exact ⟨b, o, h1, h2⟩

section
variable {H : Type} {enc : TypeId × Value → H} {w : World} {base : Nat} {spare : Nat → Bool} {held : Bool}
theorem cells1_of {a : Addr} {cs : List Value} (h : w.cells? base a 1 = some cs) : ∃ x b o, a = ⟨b, o, none⟩ ∧ cs = [x] ∧ w.cell? ⟨b, o, none⟩ = some x := by
  obtain ⟨-, hl, hc⟩ := World.cells?_some h
  match cs, hl with
  | [x], _ =>
    have c0 := hc 0 (by omega)
    obtain ⟨b, o, sp⟩ := a
    have hsp : sp = none := by simpa [Addr.add] using World.cell?_spot (show w.cell? ((⟨b, o, sp⟩ : Addr).add 0) = some x by simpa using c0)
    subst hsp
    exact ⟨x, b, o, rfl, rfl, by simpa [Addr.add] using c0⟩

end

theorem take_eq_step {l1 l2 : List Int} {k : Nat} (h1 : k < l1.length) (h2 : k < l2.length) (h : l1.take k = l2.take k) (he : l1[k] = l2[k]) : l1.take (k + 1) = l2.take (k + 1) := by
  rw [List.take_succ_eq_append_getElem h1, List.take_succ_eq_append_getElem h2, h, he]

end Go.Proofs.Ytdmiphdohfcbeaa
