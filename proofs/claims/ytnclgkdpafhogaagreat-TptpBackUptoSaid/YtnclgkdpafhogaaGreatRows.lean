/-
  NARROWER THAN 'FOR EVERY INPUT', by the rows' own cells (each row's printed sentence says how): FormWrites: loops · FormChecks: loops · TptpChecks: loops · TptpWrites: loops · TptpBack: loops.
  DERIVED. THE GIVEN ROWS OF THIS SEAT. 8 by the template 'for every input the law returns true; each argument reads behind the call as it read before'; 0 by the template 'total and deterministic' (their statements: YtnclgkdpafhogaaGreatTotals.lean).
  GIVEN WITH THE SEED: the statements are not yours to turn. If you find one false, say at which input.
  Laid BY PROGRAM, IN A SANDBOX (cutbox-rows.mjs): the forced cells as the released guide's own fill.sh prints them over the translation b8569dfbadb82bb9… (all of the seat's roots in one cut). By AI agents, Wed Nov 11 2026. No macro, syntax, notation, axiom, sorry.
-/
import Derived.Test.YtnclgkdpafhogaaGreatChecked
import GoSem.Claim
import GoSem.ClaimJoined
import GoSem.ClaimMapViews
import Derived.JoinedTies
import Derived.KernelRfl
namespace Go.Proofs.YtnclgkdpafhogaaGreat
/- THE CELL 'sum', in the pinned program and in every row, IS THE sha256 OF THE DUMP (.gsa) THAT YtnclgkdpafhogaaGreatProg.lean LOADS. Nothing in Lean hashes anything: it is a label: what it is worth is what the hold of that sum in a sandbox is worth. -/
noncomputable def Tryz.pinned : Pinned := { name := "ytnclgkdpafhogaagreat", sum := "b8569dfbadb82bb93102b08b734eb22c62dc886e76b0c32a050de0f0b97fb6da", checked := Tryz.checked }
namespace Rows
def none {H : Type} : Left H := { results := [], args := [] }

/-- 'syllogismlaw13.FormReads': WHATEVER THE INPUT: true; the input reads as it did. -/
def formReadsSpec : ChangeSpec := { name := "formReads", fn := fun _ => fun
  | [d1, d2] => { results := [.lit (.bool true)], args := [d1, d2] }
  | _ => none }
def formReadsRow : OpenClaim := { program := "ytnclgkdpafhogaagreat", sum := "b8569dfbadb82bb93102b08b734eb22c62dc886e76b0c32a050de0f0b97fb6da", func := "syllogism/syllogismlaw13.FormReads", spec := "formReads", inPlace := ["internal/bytealg.IndexByteString", "internal/bytealg.IndexString", "internal/abi.NoEscape", "internal/bytealg.MakeNoZero"], unfollowed := true, recurses := true, named := ["internal/bytealg.MaxLen"], apart := false }
def FormReadsSaid : Prop := formReadsRow.holds Tryz.pinned (OpenSpec.ofChange formReadsSpec)

/-- ITS FALSE NEIGHBOUR: 'it returns false'. Refute it at one input. -/
def formReadsWrong : ChangeSpec := { name := "formReads", fn := fun _ => fun
  | [d1, d2] => { results := [.lit (.bool false)], args := [d1, d2] }
  | _ => none }
def FormReadsWrongFalsely : Prop := formReadsRow.holds Tryz.pinned (OpenSpec.ofChange formReadsWrong)

/-- 'syllogismlaw13.FormParses': WHATEVER THE INPUT: true; the input reads as it did. -/
def formParsesSpec : ChangeSpec := { name := "formParses", fn := fun _ => fun
  | [d] => { results := [.lit (.bool true)], args := [d] }
  | _ => none }
def formParsesRow : OpenClaim := { program := "ytnclgkdpafhogaagreat", sum := "b8569dfbadb82bb93102b08b734eb22c62dc886e76b0c32a050de0f0b97fb6da", func := "syllogism/syllogismlaw13.FormParses", spec := "formParses", inPlace := ["internal/bytealg.IndexByteString", "internal/bytealg.IndexString", "internal/abi.NoEscape", "internal/bytealg.MakeNoZero"], unfollowed := true, recurses := true, named := ["internal/bytealg.MaxLen"], apart := false }
def FormParsesSaid : Prop := formParsesRow.holds Tryz.pinned (OpenSpec.ofChange formParsesSpec)

/-- ITS FALSE NEIGHBOUR: 'it returns false'. Refute it at one input. -/
def formParsesWrong : ChangeSpec := { name := "formParses", fn := fun _ => fun
  | [d] => { results := [.lit (.bool false)], args := [d] }
  | _ => none }
def FormParsesWrongFalsely : Prop := formParsesRow.holds Tryz.pinned (OpenSpec.ofChange formParsesWrong)

/-- 'syllogismlaw13.FormWrites': WHATEVER THE INPUT: true; the input reads as it did. -/
def formWritesSpec : ChangeSpec := { name := "formWrites", fn := fun _ => fun
  | [d] => { results := [.lit (.bool true)], args := [d] }
  | _ => none }
def formWritesRow : OpenClaim := { program := "ytnclgkdpafhogaagreat", sum := "b8569dfbadb82bb93102b08b734eb22c62dc886e76b0c32a050de0f0b97fb6da", func := "syllogism/syllogismlaw13.FormWrites", spec := "formWrites", inPlace := ["internal/bytealg.IndexByteString", "internal/bytealg.IndexString", "internal/abi.NoEscape", "internal/bytealg.MakeNoZero"], unfollowed := true, recurses := true, named := ["internal/bytealg.MaxLen"], loops := true, apart := false }
def FormWritesSaid : Prop := formWritesRow.holds Tryz.pinned (OpenSpec.ofChange formWritesSpec)

/-- ITS FALSE NEIGHBOUR: 'it returns false'. Refute it at one input. -/
def formWritesWrong : ChangeSpec := { name := "formWrites", fn := fun _ => fun
  | [d] => { results := [.lit (.bool false)], args := [d] }
  | _ => none }
def FormWritesWrongFalsely : Prop := formWritesRow.holds Tryz.pinned (OpenSpec.ofChange formWritesWrong)

/-- 'syllogismlaw13.FormChecks': WHATEVER THE INPUT: true; the input reads as it did. -/
def formChecksSpec : ChangeSpec := { name := "formChecks", fn := fun _ => fun
  | [d1, d2] => { results := [.lit (.bool true)], args := [d1, d2] }
  | _ => none }
def formChecksRow : OpenClaim := { program := "ytnclgkdpafhogaagreat", sum := "b8569dfbadb82bb93102b08b734eb22c62dc886e76b0c32a050de0f0b97fb6da", func := "syllogism/syllogismlaw13.FormChecks", spec := "formChecks", inPlace := ["internal/bytealg.IndexByteString", "internal/bytealg.IndexString", "internal/abi.NoEscape", "internal/bytealg.MakeNoZero"], unfollowed := true, recurses := true, named := ["internal/bytealg.MaxLen"], loops := true, apart := false }
def FormChecksSaid : Prop := formChecksRow.holds Tryz.pinned (OpenSpec.ofChange formChecksSpec)

/-- ITS FALSE NEIGHBOUR: 'it returns false'. Refute it at one input. -/
def formChecksWrong : ChangeSpec := { name := "formChecks", fn := fun _ => fun
  | [d1, d2] => { results := [.lit (.bool false)], args := [d1, d2] }
  | _ => none }
def FormChecksWrongFalsely : Prop := formChecksRow.holds Tryz.pinned (OpenSpec.ofChange formChecksWrong)

/-- 'syllogismlaw14.TptpReads': WHATEVER THE INPUT: true; the input reads as it did. -/
def tptpReadsSpec : ChangeSpec := { name := "tptpReads", fn := fun _ => fun
  | [d1, d2] => { results := [.lit (.bool true)], args := [d1, d2] }
  | _ => none }
def tptpReadsRow : OpenClaim := { program := "ytnclgkdpafhogaagreat", sum := "b8569dfbadb82bb93102b08b734eb22c62dc886e76b0c32a050de0f0b97fb6da", func := "syllogism/syllogismlaw14.TptpReads", spec := "tptpReads", inPlace := ["internal/bytealg.IndexByteString", "internal/bytealg.IndexString"], unfollowed := true, recurses := true, named := ["internal/bytealg.MaxLen"], apart := false }
def TptpReadsSaid : Prop := tptpReadsRow.holds Tryz.pinned (OpenSpec.ofChange tptpReadsSpec)

/-- ITS FALSE NEIGHBOUR: 'it returns false'. Refute it at one input. -/
def tptpReadsWrong : ChangeSpec := { name := "tptpReads", fn := fun _ => fun
  | [d1, d2] => { results := [.lit (.bool false)], args := [d1, d2] }
  | _ => none }
def TptpReadsWrongFalsely : Prop := tptpReadsRow.holds Tryz.pinned (OpenSpec.ofChange tptpReadsWrong)

/-- 'syllogismlaw14.TptpChecks': WHATEVER THE INPUT: true; the input reads as it did. -/
def tptpChecksSpec : ChangeSpec := { name := "tptpChecks", fn := fun _ => fun
  | [d] => { results := [.lit (.bool true)], args := [d] }
  | _ => none }
def tptpChecksRow : OpenClaim := { program := "ytnclgkdpafhogaagreat", sum := "b8569dfbadb82bb93102b08b734eb22c62dc886e76b0c32a050de0f0b97fb6da", func := "syllogism/syllogismlaw14.TptpChecks", spec := "tptpChecks", inPlace := ["internal/bytealg.IndexByteString", "internal/bytealg.IndexString"], unfollowed := true, recurses := true, named := ["internal/bytealg.MaxLen"], loops := true, apart := false }
def TptpChecksSaid : Prop := tptpChecksRow.holds Tryz.pinned (OpenSpec.ofChange tptpChecksSpec)

/-- ITS FALSE NEIGHBOUR: 'it returns false'. Refute it at one input. -/
def tptpChecksWrong : ChangeSpec := { name := "tptpChecks", fn := fun _ => fun
  | [d] => { results := [.lit (.bool false)], args := [d] }
  | _ => none }
def TptpChecksWrongFalsely : Prop := tptpChecksRow.holds Tryz.pinned (OpenSpec.ofChange tptpChecksWrong)

/-- 'syllogismlaw14.TptpWrites': WHATEVER THE INPUT: true; the input reads as it did. -/
def tptpWritesSpec : ChangeSpec := { name := "tptpWrites", fn := fun _ => fun
  | [d] => { results := [.lit (.bool true)], args := [d] }
  | _ => none }
def tptpWritesRow : OpenClaim := { program := "ytnclgkdpafhogaagreat", sum := "b8569dfbadb82bb93102b08b734eb22c62dc886e76b0c32a050de0f0b97fb6da", func := "syllogism/syllogismlaw14.TptpWrites", spec := "tptpWrites", inPlace := ["internal/bytealg.IndexByteString", "internal/bytealg.IndexString", "internal/abi.NoEscape", "internal/bytealg.MakeNoZero"], unfollowed := true, recurses := true, named := ["internal/bytealg.MaxLen"], loops := true, apart := false }
def TptpWritesSaid : Prop := tptpWritesRow.holds Tryz.pinned (OpenSpec.ofChange tptpWritesSpec)

/-- ITS FALSE NEIGHBOUR: 'it returns false'. Refute it at one input. -/
def tptpWritesWrong : ChangeSpec := { name := "tptpWrites", fn := fun _ => fun
  | [d] => { results := [.lit (.bool false)], args := [d] }
  | _ => none }
def TptpWritesWrongFalsely : Prop := tptpWritesRow.holds Tryz.pinned (OpenSpec.ofChange tptpWritesWrong)

/-- 'syllogismlaw14.TptpBack': WHATEVER THE INPUT: true; the input reads as it did. -/
def tptpBackSpec : ChangeSpec := { name := "tptpBack", fn := fun _ => fun
  | [d1, d2] => { results := [.lit (.bool true)], args := [d1, d2] }
  | _ => none }
def tptpBackRow : OpenClaim := { program := "ytnclgkdpafhogaagreat", sum := "b8569dfbadb82bb93102b08b734eb22c62dc886e76b0c32a050de0f0b97fb6da", func := "syllogism/syllogismlaw14.TptpBack", spec := "tptpBack", inPlace := ["internal/bytealg.IndexByteString", "internal/bytealg.IndexString", "internal/abi.NoEscape", "internal/bytealg.MakeNoZero"], unfollowed := true, recurses := true, named := ["internal/bytealg.MaxLen"], loops := true, apart := false }
def TptpBackSaid : Prop := tptpBackRow.holds Tryz.pinned (OpenSpec.ofChange tptpBackSpec)

/-- ITS FALSE NEIGHBOUR: 'it returns false'. Refute it at one input. -/
def tptpBackWrong : ChangeSpec := { name := "tptpBack", fn := fun _ => fun
  | [d1, d2] => { results := [.lit (.bool false)], args := [d1, d2] }
  | _ => none }
def TptpBackWrongFalsely : Prop := tptpBackRow.holds Tryz.pinned (OpenSpec.ofChange tptpBackWrong)

/- THE SECOND FORM. 'bulk': how many values and letters a reading holds, each counted each time it is reached (what is shared counts as often as it is met; a slice's spare places count too). A statement '..UptoSaid' is the law's where the arguments, and the package variables that the reading takes, are together of bulk at most 1048576: NARROWER than '..Said'. Prove '..Said' where nothing that the law and all that it calls make is longer than what came in: it says more and counts as full. Else prove '..UptoSaid'. A law counts once. -/
mutual
def uptoBulk {H : Type} : DataW H → Nat
  | .lit (.string bytes) => bytes.length + 1
  | .lit _ => 1
  | .nil => 1
  | .ptr d => uptoBulk d + 1
  | .slice elems spare => uptoBulkAll elems + uptoBulkAll spare + 1
  | .agg parts => uptoBulkAll parts + 1
  | .iface _ d => uptoBulk d + 1
  | .map entries => uptoBulkEntries entries + 1
  | .held _ => 1
def uptoBulkAll {H : Type} : List (DataW H) → Nat
  | [] => 0
  | d :: r => uptoBulk d + uptoBulkAll r
def uptoBulkEntries {H : Type} : List (Lit × DataW H) → Nat
  | [] => 0
  | x :: r => uptoBulkEntry x + uptoBulkEntries r
def uptoBulkEntry {H : Type} : Lit × DataW H → Nat
  | (.string bytes, d) => bytes.length + uptoBulk d + 1
  | (_, d) => uptoBulk d + 1
 end
def uptoSmall : (H : Type) → List (DataW H) → Bool := fun _ ds => decide (uptoBulkAll ds ≤ 1048576)
def OpenSpec.upto (s : _root_.Go.ChangeSpec) : _root_.Go.OpenSpec := { _root_.Go.OpenSpec.ofChange s with cond := some uptoSmall }

/-- 'syllogismlaw13.FormReads', WHERE WHAT IT READS IS OF BULK AT MOST 1048576: true; the input reads as it did. -/
def formReadsUptoRow : OpenClaim := { program := "ytnclgkdpafhogaagreat", sum := "b8569dfbadb82bb93102b08b734eb22c62dc886e76b0c32a050de0f0b97fb6da", func := "syllogism/syllogismlaw13.FormReads", spec := "formReads", inPlace := ["internal/bytealg.IndexByteString", "internal/bytealg.IndexString", "internal/abi.NoEscape", "internal/bytealg.MakeNoZero"], unfollowed := true, recurses := true, named := ["internal/bytealg.MaxLen"], apart := false, narrowed := true }
def FormReadsUptoSaid : Prop := formReadsUptoRow.holds Tryz.pinned (OpenSpec.upto formReadsSpec)

/-- 'syllogismlaw13.FormParses', WHERE WHAT IT READS IS OF BULK AT MOST 1048576: true; the input reads as it did. -/
def formParsesUptoRow : OpenClaim := { program := "ytnclgkdpafhogaagreat", sum := "b8569dfbadb82bb93102b08b734eb22c62dc886e76b0c32a050de0f0b97fb6da", func := "syllogism/syllogismlaw13.FormParses", spec := "formParses", inPlace := ["internal/bytealg.IndexByteString", "internal/bytealg.IndexString", "internal/abi.NoEscape", "internal/bytealg.MakeNoZero"], unfollowed := true, recurses := true, named := ["internal/bytealg.MaxLen"], apart := false, narrowed := true }
def FormParsesUptoSaid : Prop := formParsesUptoRow.holds Tryz.pinned (OpenSpec.upto formParsesSpec)

/-- 'syllogismlaw13.FormWrites', WHERE WHAT IT READS IS OF BULK AT MOST 1048576: true; the input reads as it did. -/
def formWritesUptoRow : OpenClaim := { program := "ytnclgkdpafhogaagreat", sum := "b8569dfbadb82bb93102b08b734eb22c62dc886e76b0c32a050de0f0b97fb6da", func := "syllogism/syllogismlaw13.FormWrites", spec := "formWrites", inPlace := ["internal/bytealg.IndexByteString", "internal/bytealg.IndexString", "internal/abi.NoEscape", "internal/bytealg.MakeNoZero"], unfollowed := true, recurses := true, named := ["internal/bytealg.MaxLen"], loops := true, apart := false, narrowed := true }
def FormWritesUptoSaid : Prop := formWritesUptoRow.holds Tryz.pinned (OpenSpec.upto formWritesSpec)

/-- 'syllogismlaw13.FormChecks', WHERE WHAT IT READS IS OF BULK AT MOST 1048576: true; the input reads as it did. -/
def formChecksUptoRow : OpenClaim := { program := "ytnclgkdpafhogaagreat", sum := "b8569dfbadb82bb93102b08b734eb22c62dc886e76b0c32a050de0f0b97fb6da", func := "syllogism/syllogismlaw13.FormChecks", spec := "formChecks", inPlace := ["internal/bytealg.IndexByteString", "internal/bytealg.IndexString", "internal/abi.NoEscape", "internal/bytealg.MakeNoZero"], unfollowed := true, recurses := true, named := ["internal/bytealg.MaxLen"], loops := true, apart := false, narrowed := true }
def FormChecksUptoSaid : Prop := formChecksUptoRow.holds Tryz.pinned (OpenSpec.upto formChecksSpec)

/-- 'syllogismlaw14.TptpReads', WHERE WHAT IT READS IS OF BULK AT MOST 1048576: true; the input reads as it did. -/
def tptpReadsUptoRow : OpenClaim := { program := "ytnclgkdpafhogaagreat", sum := "b8569dfbadb82bb93102b08b734eb22c62dc886e76b0c32a050de0f0b97fb6da", func := "syllogism/syllogismlaw14.TptpReads", spec := "tptpReads", inPlace := ["internal/bytealg.IndexByteString", "internal/bytealg.IndexString"], unfollowed := true, recurses := true, named := ["internal/bytealg.MaxLen"], apart := false, narrowed := true }
def TptpReadsUptoSaid : Prop := tptpReadsUptoRow.holds Tryz.pinned (OpenSpec.upto tptpReadsSpec)

/-- 'syllogismlaw14.TptpChecks', WHERE WHAT IT READS IS OF BULK AT MOST 1048576: true; the input reads as it did. -/
def tptpChecksUptoRow : OpenClaim := { program := "ytnclgkdpafhogaagreat", sum := "b8569dfbadb82bb93102b08b734eb22c62dc886e76b0c32a050de0f0b97fb6da", func := "syllogism/syllogismlaw14.TptpChecks", spec := "tptpChecks", inPlace := ["internal/bytealg.IndexByteString", "internal/bytealg.IndexString"], unfollowed := true, recurses := true, named := ["internal/bytealg.MaxLen"], loops := true, apart := false, narrowed := true }
def TptpChecksUptoSaid : Prop := tptpChecksUptoRow.holds Tryz.pinned (OpenSpec.upto tptpChecksSpec)

/-- 'syllogismlaw14.TptpWrites', WHERE WHAT IT READS IS OF BULK AT MOST 1048576: true; the input reads as it did. -/
def tptpWritesUptoRow : OpenClaim := { program := "ytnclgkdpafhogaagreat", sum := "b8569dfbadb82bb93102b08b734eb22c62dc886e76b0c32a050de0f0b97fb6da", func := "syllogism/syllogismlaw14.TptpWrites", spec := "tptpWrites", inPlace := ["internal/bytealg.IndexByteString", "internal/bytealg.IndexString", "internal/abi.NoEscape", "internal/bytealg.MakeNoZero"], unfollowed := true, recurses := true, named := ["internal/bytealg.MaxLen"], loops := true, apart := false, narrowed := true }
def TptpWritesUptoSaid : Prop := tptpWritesUptoRow.holds Tryz.pinned (OpenSpec.upto tptpWritesSpec)

/-- 'syllogismlaw14.TptpBack', WHERE WHAT IT READS IS OF BULK AT MOST 1048576: true; the input reads as it did. -/
def tptpBackUptoRow : OpenClaim := { program := "ytnclgkdpafhogaagreat", sum := "b8569dfbadb82bb93102b08b734eb22c62dc886e76b0c32a050de0f0b97fb6da", func := "syllogism/syllogismlaw14.TptpBack", spec := "tptpBack", inPlace := ["internal/bytealg.IndexByteString", "internal/bytealg.IndexString", "internal/abi.NoEscape", "internal/bytealg.MakeNoZero"], unfollowed := true, recurses := true, named := ["internal/bytealg.MaxLen"], loops := true, apart := false, narrowed := true }
def TptpBackUptoSaid : Prop := tptpBackUptoRow.holds Tryz.pinned (OpenSpec.upto tptpBackSpec)

end Rows
end Go.Proofs.YtnclgkdpafhogaaGreat
