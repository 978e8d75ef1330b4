/-
  DERIVED. GIVEN WITH THE SEED: THE CARDS: each row of YtoidhdcbemmfhaaDoorRows.lean that lists a variable, with what it lists TIED to the program's text (the seventh form; the later family's looks); each row that meets fmt, with fmt's text TOLD by the authors' own Lean function (tested against real Go, not proved from fmt's source: count such statements apart). THE CARD IS WHAT COUNTS. Prove the row's statement (the work); the ties are given (YtoidhdcbemmfhaaDoorTie.lean); close each card by the builder's one call (the guide's Derived/Test/ToyasCard.lean, 'card_holds'). Laid BY PROGRAM, IN A SANDBOX (cutbox-door.mjs). By AI agents, Wed Nov 11 2026. No macro, syntax, notation, axiom, sorry.
-/
import Derived.Test.YtoidhdcbemmfhaaDoorRows
import GoSem.ClaimSeven
namespace Go.Proofs.YtoidhdcbemmfhaaDoor
namespace Rows

/-- THE TIED CARD OF 'syllogismlaw02.TermChecks'. -/
def termChecksCard : Claim7 := { stood := { row := termChecksRow, standIns := [], harness := (true, "4e09e08dfd6e4c98362808830e388388f854ceb4d2f80cbe2c15c2552fd3a7bf"), looks := false }, kinds := [], alts := [], laidByText := true, laidKinds := [.data, .data, .data], laidTests := true, laidLooks := .later }
def TermChecksCardSaid : Prop := Claim7.holds Tryd.pinned (.plain (OpenSpec.ofChange termChecksSpec)) termChecksCard

/-- THE TIED CARD OF 'syllogismlaw02.TermOrder'. -/
def termOrderCard : Claim7 := { stood := { row := termOrderRow, standIns := [], harness := (true, "4e09e08dfd6e4c98362808830e388388f854ceb4d2f80cbe2c15c2552fd3a7bf"), looks := false }, kinds := [], alts := [], laidByText := true, laidKinds := [.data, .data, .data], laidTests := true, laidLooks := .later }
def TermOrderCardSaid : Prop := Claim7.holds Tryd.pinned (.plain (OpenSpec.ofChange termOrderSpec)) termOrderCard

/-- THE TIED CARD OF 'syllogismlaw02.TermTells'. -/
def termTellsCard : Claim7 := { stood := { row := termTellsRow, standIns := [], harness := (true, "4e09e08dfd6e4c98362808830e388388f854ceb4d2f80cbe2c15c2552fd3a7bf"), looks := false }, kinds := [], alts := [], laidByText := true, laidKinds := [.data, .data, .data], laidTests := true, laidLooks := .later }
def TermTellsCardSaid : Prop := Claim7.holds Tryd.pinned (.plain (OpenSpec.ofChange termTellsSpec)) termTellsCard

/-- THE TIED CARD OF 'syllogismlaw02.TermPlaces'. -/
def termPlacesCard : Claim7 := { stood := { row := termPlacesRow, standIns := [], harness := (true, "4e09e08dfd6e4c98362808830e388388f854ceb4d2f80cbe2c15c2552fd3a7bf"), looks := false }, kinds := [], alts := [], laidByText := true, laidKinds := [.data, .data, .data], laidTests := true, laidLooks := .later }
def TermPlacesCardSaid : Prop := Claim7.holds Tryd.pinned (.plain (OpenSpec.ofChange termPlacesSpec)) termPlacesCard

/-- THE TIED CARD OF 'syllogismlaw11.ClauseChecks'. -/
def clauseChecksCard : Claim7 := { stood := { row := clauseChecksRow, standIns := [], harness := (true, "4e09e08dfd6e4c98362808830e388388f854ceb4d2f80cbe2c15c2552fd3a7bf"), looks := false }, kinds := [], alts := [], laidByText := true, laidKinds := [.data, .data, .data], laidTests := true, laidLooks := .later }
def ClauseChecksCardSaid : Prop := Claim7.holds Tryd.pinned (.plain (OpenSpec.ofChange clauseChecksSpec)) clauseChecksCard

/-- THE TIED CARD OF 'syllogismlaw11.ClauseTells'. -/
def clauseTellsCard : Claim7 := { stood := { row := clauseTellsRow, standIns := [], harness := (true, "4e09e08dfd6e4c98362808830e388388f854ceb4d2f80cbe2c15c2552fd3a7bf"), looks := false }, kinds := [], alts := [], laidByText := true, laidKinds := [.data, .data, .data], laidTests := true, laidLooks := .later }
def ClauseTellsCardSaid : Prop := Claim7.holds Tryd.pinned (.plain (OpenSpec.ofChange clauseTellsSpec)) clauseTellsCard

/-- THE TIED CARD OF 'syllogismlaw11.ClauseAlike'. -/
def clauseAlikeCard : Claim7 := { stood := { row := clauseAlikeRow, standIns := [], harness := (true, "4e09e08dfd6e4c98362808830e388388f854ceb4d2f80cbe2c15c2552fd3a7bf"), looks := false }, kinds := [], alts := [], laidByText := true, laidKinds := [.data, .data, .data], laidTests := true, laidLooks := .later }
def ClauseAlikeCardSaid : Prop := Claim7.holds Tryd.pinned (.plain (OpenSpec.ofChange clauseAlikeSpec)) clauseAlikeCard

/-- THE TIED CARD OF 'syllogismlaw02.TermMeasures'. -/
def termMeasuresCard : Claim7 := { stood := { row := termMeasuresRow, standIns := [], harness := (true, "4e09e08dfd6e4c98362808830e388388f854ceb4d2f80cbe2c15c2552fd3a7bf"), looks := false }, kinds := [], alts := [], laidByText := true, laidKinds := [.data, .data, .data], laidTests := true, laidLooks := .later }
def TermMeasuresCardSaid : Prop := Claim7.holds Tryd.pinned (.plain (OpenSpec.ofChange termMeasuresSpec)) termMeasuresCard

/-- THE TIED CARD OF 'syllogismlaw11.ClauseOrder'. -/
def clauseOrderCard : Claim7 := { stood := { row := clauseOrderRow, standIns := [], harness := (true, "4e09e08dfd6e4c98362808830e388388f854ceb4d2f80cbe2c15c2552fd3a7bf"), looks := false }, kinds := [], alts := [], laidByText := true, laidKinds := [.data, .data, .data], laidTests := true, laidLooks := .later }
def ClauseOrderCardSaid : Prop := Claim7.holds Tryd.pinned (.plain (OpenSpec.ofChange clauseOrderSpec)) clauseOrderCard

/-- THE SECOND FORM's CARD OF 'syllogismlaw02.TermChecks'. -/
def termChecksUptoCard : Claim7 := { stood := { row := termChecksUptoRow, standIns := [], harness := (true, "4e09e08dfd6e4c98362808830e388388f854ceb4d2f80cbe2c15c2552fd3a7bf"), looks := false }, kinds := [], alts := [], laidByText := true, laidKinds := [.data, .data, .data], laidTests := true, laidLooks := .later }
def TermChecksUptoCardSaid : Prop := Claim7.holds Tryd.pinned (.plain (OpenSpec.upto termChecksSpec)) termChecksUptoCard

/-- THE SECOND FORM's CARD OF 'syllogismlaw02.TermOrder'. -/
def termOrderUptoCard : Claim7 := { stood := { row := termOrderUptoRow, standIns := [], harness := (true, "4e09e08dfd6e4c98362808830e388388f854ceb4d2f80cbe2c15c2552fd3a7bf"), looks := false }, kinds := [], alts := [], laidByText := true, laidKinds := [.data, .data, .data], laidTests := true, laidLooks := .later }
def TermOrderUptoCardSaid : Prop := Claim7.holds Tryd.pinned (.plain (OpenSpec.upto termOrderSpec)) termOrderUptoCard

/-- THE SECOND FORM's CARD OF 'syllogismlaw02.TermTells'. -/
def termTellsUptoCard : Claim7 := { stood := { row := termTellsUptoRow, standIns := [], harness := (true, "4e09e08dfd6e4c98362808830e388388f854ceb4d2f80cbe2c15c2552fd3a7bf"), looks := false }, kinds := [], alts := [], laidByText := true, laidKinds := [.data, .data, .data], laidTests := true, laidLooks := .later }
def TermTellsUptoCardSaid : Prop := Claim7.holds Tryd.pinned (.plain (OpenSpec.upto termTellsSpec)) termTellsUptoCard

/-- THE SECOND FORM's CARD OF 'syllogismlaw02.TermPlaces'. -/
def termPlacesUptoCard : Claim7 := { stood := { row := termPlacesUptoRow, standIns := [], harness := (true, "4e09e08dfd6e4c98362808830e388388f854ceb4d2f80cbe2c15c2552fd3a7bf"), looks := false }, kinds := [], alts := [], laidByText := true, laidKinds := [.data, .data, .data], laidTests := true, laidLooks := .later }
def TermPlacesUptoCardSaid : Prop := Claim7.holds Tryd.pinned (.plain (OpenSpec.upto termPlacesSpec)) termPlacesUptoCard

/-- THE SECOND FORM's CARD OF 'syllogismlaw11.ClauseChecks'. -/
def clauseChecksUptoCard : Claim7 := { stood := { row := clauseChecksUptoRow, standIns := [], harness := (true, "4e09e08dfd6e4c98362808830e388388f854ceb4d2f80cbe2c15c2552fd3a7bf"), looks := false }, kinds := [], alts := [], laidByText := true, laidKinds := [.data, .data, .data], laidTests := true, laidLooks := .later }
def ClauseChecksUptoCardSaid : Prop := Claim7.holds Tryd.pinned (.plain (OpenSpec.upto clauseChecksSpec)) clauseChecksUptoCard

/-- THE SECOND FORM's CARD OF 'syllogismlaw11.ClauseTells'. -/
def clauseTellsUptoCard : Claim7 := { stood := { row := clauseTellsUptoRow, standIns := [], harness := (true, "4e09e08dfd6e4c98362808830e388388f854ceb4d2f80cbe2c15c2552fd3a7bf"), looks := false }, kinds := [], alts := [], laidByText := true, laidKinds := [.data, .data, .data], laidTests := true, laidLooks := .later }
def ClauseTellsUptoCardSaid : Prop := Claim7.holds Tryd.pinned (.plain (OpenSpec.upto clauseTellsSpec)) clauseTellsUptoCard

/-- THE SECOND FORM's CARD OF 'syllogismlaw11.ClauseAlike'. -/
def clauseAlikeUptoCard : Claim7 := { stood := { row := clauseAlikeUptoRow, standIns := [], harness := (true, "4e09e08dfd6e4c98362808830e388388f854ceb4d2f80cbe2c15c2552fd3a7bf"), looks := false }, kinds := [], alts := [], laidByText := true, laidKinds := [.data, .data, .data], laidTests := true, laidLooks := .later }
def ClauseAlikeUptoCardSaid : Prop := Claim7.holds Tryd.pinned (.plain (OpenSpec.upto clauseAlikeSpec)) clauseAlikeUptoCard

/-- THE SECOND FORM's CARD OF 'syllogismlaw02.TermMeasures'. -/
def termMeasuresUptoCard : Claim7 := { stood := { row := termMeasuresUptoRow, standIns := [], harness := (true, "4e09e08dfd6e4c98362808830e388388f854ceb4d2f80cbe2c15c2552fd3a7bf"), looks := false }, kinds := [], alts := [], laidByText := true, laidKinds := [.data, .data, .data], laidTests := true, laidLooks := .later }
def TermMeasuresUptoCardSaid : Prop := Claim7.holds Tryd.pinned (.plain (OpenSpec.upto termMeasuresSpec)) termMeasuresUptoCard

/-- THE SECOND FORM's CARD OF 'syllogismlaw11.ClauseOrder'. -/
def clauseOrderUptoCard : Claim7 := { stood := { row := clauseOrderUptoRow, standIns := [], harness := (true, "4e09e08dfd6e4c98362808830e388388f854ceb4d2f80cbe2c15c2552fd3a7bf"), looks := false }, kinds := [], alts := [], laidByText := true, laidKinds := [.data, .data, .data], laidTests := true, laidLooks := .later }
def ClauseOrderUptoCardSaid : Prop := Claim7.holds Tryd.pinned (.plain (OpenSpec.upto clauseOrderSpec)) clauseOrderUptoCard
end Rows
end Go.Proofs.YtoidhdcbemmfhaaDoor
