/-
  NARROWER THAN 'FOR EVERY INPUT', by the rows' own cells (each row's printed sentence says how): PrecMakes: loops · PrecMay: loops.
  DERIVED. THE GIVEN ROWS OF THIS SEAT. 4 by the template 'for every input the law returns true; each argument reads behind the call as it read before'; 0 by the template 'total and deterministic' (their statements: YtdmiphdohfcbeaaTotals.lean).
  GIVEN WITH THE SEED: the statements are not yours to turn. If you find one false, say at which input.
  Laid BY PROGRAM, IN A SANDBOX (cutbox-rows.mjs): the forced cells as the released guide's own fill.sh prints them over the translation aad562d69801c35a… (all of the seat's roots in one cut). By AI agents, Wed Nov 11 2026. No macro, syntax, notation, axiom, sorry.
-/
import Derived.Test.YtdmiphdohfcbeaaChecked
import GoSem.Claim
import GoSem.ClaimJoined
import GoSem.ClaimMapViews
import Derived.JoinedTies
import Derived.KernelRfl
namespace Go.Proofs.Ytdmiphdohfcbeaa
/- THE CELL 'sum', in the pinned program and in every row, IS THE sha256 OF THE DUMP (.gsa) THAT YtdmiphdohfcbeaaProg.lean LOADS. Nothing in Lean hashes anything: it is a label: what it is worth is what the hold of that sum in a sandbox is worth. -/
noncomputable def Try.pinned : Pinned := { name := "ytdmiphdohfcbeaa", sum := "aad562d69801c35a5525a70c0a179cbbe87dfb198f21d57742a567adfb834efa", checked := Try.checked }
namespace Rows
def none {H : Type} : Left H := { results := [], args := [] }

/-- 'syllogismlaw07.PrecChecks': WHATEVER THE INPUT: true; the input reads as it did. -/
def precChecksSpec : ChangeSpec := { name := "precChecks", fn := fun _ => fun
  | [d1, d2] => { results := [.lit (.bool true)], args := [d1, d2] }
  | _ => none }
def precChecksRow : OpenClaim := { program := "ytdmiphdohfcbeaa", sum := "aad562d69801c35a5525a70c0a179cbbe87dfb198f21d57742a567adfb834efa", func := "syllogism/syllogismlaw07.PrecChecks", spec := "precChecks", unfollowed := true, recurses := true, plainKeys := false, apart := false }
def PrecChecksSaid : Prop := precChecksRow.holds Try.pinned (OpenSpec.ofChange precChecksSpec)

/-- ITS FALSE NEIGHBOUR: 'it returns false'. Refute it at one input. -/
def precChecksWrong : ChangeSpec := { name := "precChecks", fn := fun _ => fun
  | [d1, d2] => { results := [.lit (.bool false)], args := [d1, d2] }
  | _ => none }
def PrecChecksWrongFalsely : Prop := precChecksRow.holds Try.pinned (OpenSpec.ofChange precChecksWrong)

/-- 'syllogismlaw07.PrecMakes': WHATEVER THE INPUT: true; the input reads as it did. -/
def precMakesSpec : ChangeSpec := { name := "precMakes", fn := fun _ => fun
  | [d1, d2, d3] => { results := [.lit (.bool true)], args := [d1, d2, d3] }
  | _ => none }
def precMakesRow : OpenClaim := { program := "ytdmiphdohfcbeaa", sum := "aad562d69801c35a5525a70c0a179cbbe87dfb198f21d57742a567adfb834efa", func := "syllogism/syllogismlaw07.PrecMakes", spec := "precMakes", unfollowed := true, recurses := true, loops := true, plainKeys := false, apart := false }
def PrecMakesSaid : Prop := precMakesRow.holds Try.pinned (OpenSpec.ofChange precMakesSpec)

/-- ITS FALSE NEIGHBOUR: 'it returns false'. Refute it at one input. -/
def precMakesWrong : ChangeSpec := { name := "precMakes", fn := fun _ => fun
  | [d1, d2, d3] => { results := [.lit (.bool false)], args := [d1, d2, d3] }
  | _ => none }
def PrecMakesWrongFalsely : Prop := precMakesRow.holds Try.pinned (OpenSpec.ofChange precMakesWrong)

/-- 'syllogismlaw07.PrecMay': WHATEVER THE INPUT: true; the input reads as it did. -/
def precMaySpec : ChangeSpec := { name := "precMay", fn := fun _ => fun
  | [d1, d2, d3, d4, d5] => { results := [.lit (.bool true)], args := [d1, d2, d3, d4, d5] }
  | _ => none }
def precMayRow : OpenClaim := { program := "ytdmiphdohfcbeaa", sum := "aad562d69801c35a5525a70c0a179cbbe87dfb198f21d57742a567adfb834efa", func := "syllogism/syllogismlaw07.PrecMay", spec := "precMay", unfollowed := true, recurses := true, loops := true, plainKeys := false, apart := false }
def PrecMaySaid : Prop := precMayRow.holds Try.pinned (OpenSpec.ofChange precMaySpec)

/-- ITS FALSE NEIGHBOUR: 'it returns false'. Refute it at one input. -/
def precMayWrong : ChangeSpec := { name := "precMay", fn := fun _ => fun
  | [d1, d2, d3, d4, d5] => { results := [.lit (.bool false)], args := [d1, d2, d3, d4, d5] }
  | _ => none }
def PrecMayWrongFalsely : Prop := precMayRow.holds Try.pinned (OpenSpec.ofChange precMayWrong)

/-- 'syllogismlaw07.PrecHigher': WHATEVER THE INPUT: true; the input reads as it did. -/
def precHigherSpec : ChangeSpec := { name := "precHigher", fn := fun _ => fun
  | [d1, d2, d3] => { results := [.lit (.bool true)], args := [d1, d2, d3] }
  | _ => none }
def precHigherRow : OpenClaim := { program := "ytdmiphdohfcbeaa", sum := "aad562d69801c35a5525a70c0a179cbbe87dfb198f21d57742a567adfb834efa", func := "syllogism/syllogismlaw07.PrecHigher", spec := "precHigher", unfollowed := true, recurses := true, plainKeys := false, apart := false }
def PrecHigherSaid : Prop := precHigherRow.holds Try.pinned (OpenSpec.ofChange precHigherSpec)

/-- ITS FALSE NEIGHBOUR: 'it returns false'. Refute it at one input. -/
def precHigherWrong : ChangeSpec := { name := "precHigher", fn := fun _ => fun
  | [d1, d2, d3] => { results := [.lit (.bool false)], args := [d1, d2, d3] }
  | _ => none }
def PrecHigherWrongFalsely : Prop := precHigherRow.holds Try.pinned (OpenSpec.ofChange precHigherWrong)

/- THE SECOND FORM. 'bulk': how many values and letters a reading holds, each counted each time it is reached (what is shared counts as often as it is met; a slice's spare places count too). A statement '..UptoSaid' is the law's where the arguments, and the package variables that the reading takes, are together of bulk at most 1048576: NARROWER than '..Said'. Prove '..Said' where nothing that the law and all that it calls make is longer than what came in: it says more and counts as full. Else prove '..UptoSaid'. A law counts once. -/
mutual
def uptoBulk {H : Type} : DataW H → Nat
  | .lit (.string bytes) => bytes.length + 1
  | .lit _ => 1
  | .nil => 1
  | .ptr d => uptoBulk d + 1
  | .slice elems spare => uptoBulkAll elems + uptoBulkAll spare + 1
  | .agg parts => uptoBulkAll parts + 1
  | .iface _ d => uptoBulk d + 1
  | .map entries => uptoBulkEntries entries + 1
  | .held _ => 1
def uptoBulkAll {H : Type} : List (DataW H) → Nat
  | [] => 0
  | d :: r => uptoBulk d + uptoBulkAll r
def uptoBulkEntries {H : Type} : List (Lit × DataW H) → Nat
  | [] => 0
  | x :: r => uptoBulkEntry x + uptoBulkEntries r
def uptoBulkEntry {H : Type} : Lit × DataW H → Nat
  | (.string bytes, d) => bytes.length + uptoBulk d + 1
  | (_, d) => uptoBulk d + 1
 end
def uptoSmall : (H : Type) → List (DataW H) → Bool := fun _ ds => decide (uptoBulkAll ds ≤ 1048576)
def OpenSpec.upto (s : _root_.Go.ChangeSpec) : _root_.Go.OpenSpec := { _root_.Go.OpenSpec.ofChange s with cond := some uptoSmall }

/-- 'syllogismlaw07.PrecChecks', WHERE WHAT IT READS IS OF BULK AT MOST 1048576: true; the input reads as it did. -/
def precChecksUptoRow : OpenClaim := { program := "ytdmiphdohfcbeaa", sum := "aad562d69801c35a5525a70c0a179cbbe87dfb198f21d57742a567adfb834efa", func := "syllogism/syllogismlaw07.PrecChecks", spec := "precChecks", unfollowed := true, recurses := true, plainKeys := false, apart := false, narrowed := true }
def PrecChecksUptoSaid : Prop := precChecksUptoRow.holds Try.pinned (OpenSpec.upto precChecksSpec)

/-- 'syllogismlaw07.PrecMakes', WHERE WHAT IT READS IS OF BULK AT MOST 1048576: true; the input reads as it did. -/
def precMakesUptoRow : OpenClaim := { program := "ytdmiphdohfcbeaa", sum := "aad562d69801c35a5525a70c0a179cbbe87dfb198f21d57742a567adfb834efa", func := "syllogism/syllogismlaw07.PrecMakes", spec := "precMakes", unfollowed := true, recurses := true, loops := true, plainKeys := false, apart := false, narrowed := true }
def PrecMakesUptoSaid : Prop := precMakesUptoRow.holds Try.pinned (OpenSpec.upto precMakesSpec)

/-- 'syllogismlaw07.PrecMay', WHERE WHAT IT READS IS OF BULK AT MOST 1048576: true; the input reads as it did. -/
def precMayUptoRow : OpenClaim := { program := "ytdmiphdohfcbeaa", sum := "aad562d69801c35a5525a70c0a179cbbe87dfb198f21d57742a567adfb834efa", func := "syllogism/syllogismlaw07.PrecMay", spec := "precMay", unfollowed := true, recurses := true, loops := true, plainKeys := false, apart := false, narrowed := true }
def PrecMayUptoSaid : Prop := precMayUptoRow.holds Try.pinned (OpenSpec.upto precMaySpec)

/-- 'syllogismlaw07.PrecHigher', WHERE WHAT IT READS IS OF BULK AT MOST 1048576: true; the input reads as it did. -/
def precHigherUptoRow : OpenClaim := { program := "ytdmiphdohfcbeaa", sum := "aad562d69801c35a5525a70c0a179cbbe87dfb198f21d57742a567adfb834efa", func := "syllogism/syllogismlaw07.PrecHigher", spec := "precHigher", unfollowed := true, recurses := true, plainKeys := false, apart := false, narrowed := true }
def PrecHigherUptoSaid : Prop := precHigherUptoRow.holds Try.pinned (OpenSpec.upto precHigherSpec)

end Rows
end Go.Proofs.Ytdmiphdohfcbeaa
