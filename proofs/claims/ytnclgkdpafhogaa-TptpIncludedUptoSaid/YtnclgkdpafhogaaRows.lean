/-
  NARROWER THAN 'FOR EVERY INPUT', by the rows' own cells (each row's printed sentence says how): FormBack: loops.
  DERIVED. THE GIVEN ROWS OF THIS SEAT. 2 by the template 'for every input the law returns true; each argument reads behind the call as it read before'; 0 by the template 'total and deterministic' (their statements: YtnclgkdpafhogaaTotals.lean).
  GIVEN WITH THE SEED: the statements are not yours to turn. If you find one false, say at which input.
  Laid BY PROGRAM, IN A SANDBOX (cutbox-rows.mjs): the forced cells as the released guide's own fill.sh prints them over the translation 21e3b45200598c04… (all of the seat's roots in one cut). By AI agents, Wed Nov 11 2026. No macro, syntax, notation, axiom, sorry.
-/
import Derived.Test.YtnclgkdpafhogaaChecked
import GoSem.Claim
import GoSem.ClaimJoined
import GoSem.ClaimMapViews
import Derived.JoinedTies
import Derived.KernelRfl
namespace Go.Proofs.Ytnclgkdpafhogaa
/- THE CELL 'sum', in the pinned program and in every row, IS THE sha256 OF THE DUMP (.gsa) THAT YtnclgkdpafhogaaProg.lean LOADS. Nothing in Lean hashes anything: it is a label: what it is worth is what the hold of that sum in a sandbox is worth. -/
noncomputable def Try.pinned : Pinned := { name := "ytnclgkdpafhogaa", sum := "21e3b45200598c04f219d3310e8dff2937cd09add363ad5be5b2fddf04b2a3fd", checked := Try.checked }
namespace Rows
def none {H : Type} : Left H := { results := [], args := [] }

/-- 'syllogismlaw13.FormBack': WHATEVER THE INPUT: true; the input reads as it did. -/
def formBackSpec : ChangeSpec := { name := "formBack", fn := fun _ => fun
  | [d1, d2] => { results := [.lit (.bool true)], args := [d1, d2] }
  | _ => none }
def formBackRow : OpenClaim := { program := "ytnclgkdpafhogaa", sum := "21e3b45200598c04f219d3310e8dff2937cd09add363ad5be5b2fddf04b2a3fd", func := "syllogism/syllogismlaw13.FormBack", spec := "formBack", inPlace := ["internal/bytealg.IndexByteString", "internal/bytealg.IndexString", "internal/abi.NoEscape", "internal/bytealg.MakeNoZero"], unfollowed := true, recurses := true, named := ["internal/bytealg.MaxLen"], loops := true, apart := false }
def FormBackSaid : Prop := formBackRow.holds Try.pinned (OpenSpec.ofChange formBackSpec)

/-- ITS FALSE NEIGHBOUR: 'it returns false'. Refute it at one input. -/
def formBackWrong : ChangeSpec := { name := "formBack", fn := fun _ => fun
  | [d1, d2] => { results := [.lit (.bool false)], args := [d1, d2] }
  | _ => none }
def FormBackWrongFalsely : Prop := formBackRow.holds Try.pinned (OpenSpec.ofChange formBackWrong)

/-- 'syllogismlaw14.TptpIncluded': WHATEVER THE INPUT: true; the input reads as it did. -/
def tptpIncludedSpec : ChangeSpec := { name := "tptpIncluded", fn := fun _ => fun
  | [d] => { results := [.lit (.bool true)], args := [d] }
  | _ => none }
def tptpIncludedRow : OpenClaim := { program := "ytnclgkdpafhogaa", sum := "21e3b45200598c04f219d3310e8dff2937cd09add363ad5be5b2fddf04b2a3fd", func := "syllogism/syllogismlaw14.TptpIncluded", spec := "tptpIncluded", inPlace := ["internal/bytealg.IndexByteString", "internal/bytealg.IndexString"], unfollowed := true, recurses := true, named := ["internal/bytealg.MaxLen"], apart := false }
def TptpIncludedSaid : Prop := tptpIncludedRow.holds Try.pinned (OpenSpec.ofChange tptpIncludedSpec)

/-- ITS FALSE NEIGHBOUR: 'it returns false'. Refute it at one input. -/
def tptpIncludedWrong : ChangeSpec := { name := "tptpIncluded", fn := fun _ => fun
  | [d] => { results := [.lit (.bool false)], args := [d] }
  | _ => none }
def TptpIncludedWrongFalsely : Prop := tptpIncludedRow.holds Try.pinned (OpenSpec.ofChange tptpIncludedWrong)

/- THE SECOND FORM. 'bulk': how many values and letters a reading holds, each counted each time it is reached (what is shared counts as often as it is met; a slice's spare places count too). A statement '..UptoSaid' is the law's where the arguments, and the package variables that the reading takes, are together of bulk at most 1048576: NARROWER than '..Said'. Prove '..Said' where nothing that the law and all that it calls make is longer than what came in: it says more and counts as full. Else prove '..UptoSaid'. A law counts once. -/
mutual
def uptoBulk {H : Type} : DataW H → Nat
  | .lit (.string bytes) => bytes.length + 1
  | .lit _ => 1
  | .nil => 1
  | .ptr d => uptoBulk d + 1
  | .slice elems spare => uptoBulkAll elems + uptoBulkAll spare + 1
  | .agg parts => uptoBulkAll parts + 1
  | .iface _ d => uptoBulk d + 1
  | .map entries => uptoBulkEntries entries + 1
  | .held _ => 1
def uptoBulkAll {H : Type} : List (DataW H) → Nat
  | [] => 0
  | d :: r => uptoBulk d + uptoBulkAll r
def uptoBulkEntries {H : Type} : List (Lit × DataW H) → Nat
  | [] => 0
  | x :: r => uptoBulkEntry x + uptoBulkEntries r
def uptoBulkEntry {H : Type} : Lit × DataW H → Nat
  | (.string bytes, d) => bytes.length + uptoBulk d + 1
  | (_, d) => uptoBulk d + 1
 end
def uptoSmall : (H : Type) → List (DataW H) → Bool := fun _ ds => decide (uptoBulkAll ds ≤ 1048576)
def OpenSpec.upto (s : _root_.Go.ChangeSpec) : _root_.Go.OpenSpec := { _root_.Go.OpenSpec.ofChange s with cond := some uptoSmall }

/-- 'syllogismlaw13.FormBack', WHERE WHAT IT READS IS OF BULK AT MOST 1048576: true; the input reads as it did. -/
def formBackUptoRow : OpenClaim := { program := "ytnclgkdpafhogaa", sum := "21e3b45200598c04f219d3310e8dff2937cd09add363ad5be5b2fddf04b2a3fd", func := "syllogism/syllogismlaw13.FormBack", spec := "formBack", inPlace := ["internal/bytealg.IndexByteString", "internal/bytealg.IndexString", "internal/abi.NoEscape", "internal/bytealg.MakeNoZero"], unfollowed := true, recurses := true, named := ["internal/bytealg.MaxLen"], loops := true, apart := false, narrowed := true }
def FormBackUptoSaid : Prop := formBackUptoRow.holds Try.pinned (OpenSpec.upto formBackSpec)

/-- 'syllogismlaw14.TptpIncluded', WHERE WHAT IT READS IS OF BULK AT MOST 1048576: true; the input reads as it did. -/
def tptpIncludedUptoRow : OpenClaim := { program := "ytnclgkdpafhogaa", sum := "21e3b45200598c04f219d3310e8dff2937cd09add363ad5be5b2fddf04b2a3fd", func := "syllogism/syllogismlaw14.TptpIncluded", spec := "tptpIncluded", inPlace := ["internal/bytealg.IndexByteString", "internal/bytealg.IndexString"], unfollowed := true, recurses := true, named := ["internal/bytealg.MaxLen"], apart := false, narrowed := true }
def TptpIncludedUptoSaid : Prop := tptpIncludedUptoRow.holds Try.pinned (OpenSpec.upto tptpIncludedSpec)

end Rows
end Go.Proofs.Ytnclgkdpafhogaa
