/- What the functions that term.Vars and term.Ground hand to term.each do, and what term.Ground returns. -/
import Derived.Test.YtdmiphdohfcbeaaEach2
import Derived.Test.YtdmiphdohfcbeaaRow2
import Derived.Deep.RegionLaw
namespace Go.Proofs.Ytdmiphdohfcbeaa
open Go.ChangeShapes Go.WideShapes Go.ChangeAt Go.RowKit

def varSt (s : List Int) (t : Tm) : Bool × List Int := (true, if t.f < 0 then s ++ [-1 - t.f] else s)
def VarI (bl : Nat) (w : World) (s : List Int) (q : Nat) : Prop :=
  ∃ v, w.cell? ⟨bl, 0, none⟩ = some v ∧ w.frozen? ⟨bl, 0, none⟩ = false ∧ GRow eltInt 3 (bl + 1) w v s ∧ s.length ≤ q

def Tm.groundSt (_ : Unit) (t : Tm) : Bool × Unit := (decide (0 ≤ t.f), ())
end Go.Proofs.Ytdmiphdohfcbeaa
