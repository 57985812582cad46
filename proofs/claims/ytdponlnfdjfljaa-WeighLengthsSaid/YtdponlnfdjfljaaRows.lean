/-
  No cell of these rows narrows 'for every input' (looked for: loops, veiled, ifaces, maps, wideKeys, modest, calm, conditions, laid).
  DERIVED. THE GIVEN ROWS OF THIS SEAT. 8 by the template 'for every input the law returns true; each argument reads behind the call as it read before'; 0 by the template 'total and deterministic' (their statements: YtdponlnfdjfljaaTotals.lean).
  GIVEN WITH THE SEED: the statements are not yours to turn. If you find one false, say at which input.
  Laid BY PROGRAM, IN A SANDBOX (cutbox-rows.mjs): the forced cells as the released guide's own fill.sh prints them over the translation 0e29dd72fe91801e… (all of the seat's roots in one cut). By AI agents, Wed Nov 11 2026. No macro, syntax, notation, axiom, sorry.
-/
import Derived.Test.YtdponlnfdjfljaaChecked
import GoSem.Claim
import GoSem.ClaimJoined
import GoSem.ClaimMapViews
import Derived.JoinedTies
import Derived.KernelRfl
namespace Go.Proofs.Ytdponlnfdjfljaa
/- THE CELL 'sum', in the pinned program and in every row, IS THE sha256 OF THE DUMP (.gsa) THAT YtdponlnfdjfljaaProg.lean LOADS. Nothing in Lean hashes anything: it is a label: what it is worth is what the hold of that sum in a sandbox is worth. -/
noncomputable def Try.pinned : Pinned := { name := "ytdponlnfdjfljaa", sum := "0e29dd72fe91801e62885ec144cbcea852657270887e14c995e90ca7b326beb3", checked := Try.checked }
namespace Rows
def none {H : Type} : Left H := { results := [], args := [] }

/-- 'reliquarylaw.CodeBack': WHATEVER THE INPUT: true; the input reads as it did. -/
def codeBackSpec : ChangeSpec := { name := "codeBack", fn := fun _ => fun
  | [d1, d2] => { results := [.lit (.bool true)], args := [d1, d2] }
  | _ => none }
def codeBackRow : OpenClaim := { program := "ytdponlnfdjfljaa", sum := "0e29dd72fe91801e62885ec144cbcea852657270887e14c995e90ca7b326beb3", func := "reliquary/reliquarylaw.CodeBack", spec := "codeBack", unfollowed := true, recurses := true, apart := false }
def CodeBackSaid : Prop := codeBackRow.holds Try.pinned (OpenSpec.ofChange codeBackSpec)

/-- ITS FALSE NEIGHBOUR: 'it returns false'. Refute it at one input. -/
def codeBackWrong : ChangeSpec := { name := "codeBack", fn := fun _ => fun
  | [d1, d2] => { results := [.lit (.bool false)], args := [d1, d2] }
  | _ => none }
def CodeBackWrongFalsely : Prop := codeBackRow.holds Try.pinned (OpenSpec.ofChange codeBackWrong)

/-- 'reliquarylaw.CodeAlways': WHATEVER THE INPUT: true; the input reads as it did. -/
def codeAlwaysSpec : ChangeSpec := { name := "codeAlways", fn := fun _ => fun
  | [d1, d2, d3] => { results := [.lit (.bool true)], args := [d1, d2, d3] }
  | _ => none }
def codeAlwaysRow : OpenClaim := { program := "ytdponlnfdjfljaa", sum := "0e29dd72fe91801e62885ec144cbcea852657270887e14c995e90ca7b326beb3", func := "reliquary/reliquarylaw.CodeAlways", spec := "codeAlways", unfollowed := true, recurses := true, apart := false }
def CodeAlwaysSaid : Prop := codeAlwaysRow.holds Try.pinned (OpenSpec.ofChange codeAlwaysSpec)

/-- ITS FALSE NEIGHBOUR: 'it returns false'. Refute it at one input. -/
def codeAlwaysWrong : ChangeSpec := { name := "codeAlways", fn := fun _ => fun
  | [d1, d2, d3] => { results := [.lit (.bool false)], args := [d1, d2, d3] }
  | _ => none }
def CodeAlwaysWrongFalsely : Prop := codeAlwaysRow.holds Try.pinned (OpenSpec.ofChange codeAlwaysWrong)

/-- 'reliquarylaw.CodeWrite': WHATEVER THE INPUT: true; the input reads as it did. -/
def codeWriteSpec : ChangeSpec := { name := "codeWrite", fn := fun _ => fun
  | [d1, d2] => { results := [.lit (.bool true)], args := [d1, d2] }
  | _ => none }
def codeWriteRow : OpenClaim := { program := "ytdponlnfdjfljaa", sum := "0e29dd72fe91801e62885ec144cbcea852657270887e14c995e90ca7b326beb3", func := "reliquary/reliquarylaw.CodeWrite", spec := "codeWrite", inPlace := ["internal/reflectlite.ValueOf", "internal/reflectlite.Swapper", "(internal/reflectlite.Value).Len", "internal/abi.NoEscape", "internal/bytealg.MakeNoZero"], unfollowed := true, recurses := true, apart := false }
def CodeWriteSaid : Prop := codeWriteRow.holds Try.pinned (OpenSpec.ofChange codeWriteSpec)

/-- ITS FALSE NEIGHBOUR: 'it returns false'. Refute it at one input. -/
def codeWriteWrong : ChangeSpec := { name := "codeWrite", fn := fun _ => fun
  | [d1, d2] => { results := [.lit (.bool false)], args := [d1, d2] }
  | _ => none }
def CodeWriteWrongFalsely : Prop := codeWriteRow.holds Try.pinned (OpenSpec.ofChange codeWriteWrong)

/-- 'reliquarylaw.CodeRead': WHATEVER THE INPUT: true; the input reads as it did. -/
def codeReadSpec : ChangeSpec := { name := "codeRead", fn := fun _ => fun
  | [d1, d2, d3] => { results := [.lit (.bool true)], args := [d1, d2, d3] }
  | _ => none }
def codeReadRow : OpenClaim := { program := "ytdponlnfdjfljaa", sum := "0e29dd72fe91801e62885ec144cbcea852657270887e14c995e90ca7b326beb3", func := "reliquary/reliquarylaw.CodeRead", spec := "codeRead", inPlace := ["internal/reflectlite.ValueOf", "internal/reflectlite.Swapper", "(internal/reflectlite.Value).Len", "internal/abi.NoEscape", "internal/bytealg.MakeNoZero"], unfollowed := true, recurses := true, apart := false }
def CodeReadSaid : Prop := codeReadRow.holds Try.pinned (OpenSpec.ofChange codeReadSpec)

/-- ITS FALSE NEIGHBOUR: 'it returns false'. Refute it at one input. -/
def codeReadWrong : ChangeSpec := { name := "codeRead", fn := fun _ => fun
  | [d1, d2, d3] => { results := [.lit (.bool false)], args := [d1, d2, d3] }
  | _ => none }
def CodeReadWrongFalsely : Prop := codeReadRow.holds Try.pinned (OpenSpec.ofChange codeReadWrong)

/-- 'reliquarylaw.CodeCodes': WHATEVER THE INPUT: true; the input reads as it did. -/
def codeCodesSpec : ChangeSpec := { name := "codeCodes", fn := fun _ => fun
  | [d] => { results := [.lit (.bool true)], args := [d] }
  | _ => none }
def codeCodesRow : OpenClaim := { program := "ytdponlnfdjfljaa", sum := "0e29dd72fe91801e62885ec144cbcea852657270887e14c995e90ca7b326beb3", func := "reliquary/reliquarylaw.CodeCodes", spec := "codeCodes", inPlace := ["internal/reflectlite.ValueOf", "internal/reflectlite.Swapper", "(internal/reflectlite.Value).Len", "internal/abi.NoEscape", "internal/bytealg.MakeNoZero"], unfollowed := true, recurses := true, apart := false }
def CodeCodesSaid : Prop := codeCodesRow.holds Try.pinned (OpenSpec.ofChange codeCodesSpec)

/-- ITS FALSE NEIGHBOUR: 'it returns false'. Refute it at one input. -/
def codeCodesWrong : ChangeSpec := { name := "codeCodes", fn := fun _ => fun
  | [d] => { results := [.lit (.bool false)], args := [d] }
  | _ => none }
def CodeCodesWrongFalsely : Prop := codeCodesRow.holds Try.pinned (OpenSpec.ofChange codeCodesWrong)

/-- 'reliquarylaw.WeighTurned': WHATEVER THE INPUT: true; the input reads as it did. -/
def weighTurnedSpec : ChangeSpec := { name := "weighTurned", fn := fun _ => fun
  | [d1, d2, d3] => { results := [.lit (.bool true)], args := [d1, d2, d3] }
  | _ => none }
def weighTurnedRow : OpenClaim := { program := "ytdponlnfdjfljaa", sum := "0e29dd72fe91801e62885ec144cbcea852657270887e14c995e90ca7b326beb3", func := "reliquary/reliquarylaw.WeighTurned", spec := "weighTurned", unfollowed := true, recurses := true, apart := false }
def WeighTurnedSaid : Prop := weighTurnedRow.holds Try.pinned (OpenSpec.ofChange weighTurnedSpec)

/-- ITS FALSE NEIGHBOUR: 'it returns false'. Refute it at one input. -/
def weighTurnedWrong : ChangeSpec := { name := "weighTurned", fn := fun _ => fun
  | [d1, d2, d3] => { results := [.lit (.bool false)], args := [d1, d2, d3] }
  | _ => none }
def WeighTurnedWrongFalsely : Prop := weighTurnedRow.holds Try.pinned (OpenSpec.ofChange weighTurnedWrong)

/-- 'reliquarylaw.WeighLess': WHATEVER THE INPUT: true; the input reads as it did. -/
def weighLessSpec : ChangeSpec := { name := "weighLess", fn := fun _ => fun
  | [d1, d2, d3] => { results := [.lit (.bool true)], args := [d1, d2, d3] }
  | _ => none }
def weighLessRow : OpenClaim := { program := "ytdponlnfdjfljaa", sum := "0e29dd72fe91801e62885ec144cbcea852657270887e14c995e90ca7b326beb3", func := "reliquary/reliquarylaw.WeighLess", spec := "weighLess", unfollowed := true, recurses := true, apart := false }
def WeighLessSaid : Prop := weighLessRow.holds Try.pinned (OpenSpec.ofChange weighLessSpec)

/-- ITS FALSE NEIGHBOUR: 'it returns false'. Refute it at one input. -/
def weighLessWrong : ChangeSpec := { name := "weighLess", fn := fun _ => fun
  | [d1, d2, d3] => { results := [.lit (.bool false)], args := [d1, d2, d3] }
  | _ => none }
def WeighLessWrongFalsely : Prop := weighLessRow.holds Try.pinned (OpenSpec.ofChange weighLessWrong)

/-- 'reliquarylaw.WeighLengths': WHATEVER THE INPUT: true; the input reads as it did. -/
def weighLengthsSpec : ChangeSpec := { name := "weighLengths", fn := fun _ => fun
  | [d1, d2, d3] => { results := [.lit (.bool true)], args := [d1, d2, d3] }
  | _ => none }
def weighLengthsRow : OpenClaim := { program := "ytdponlnfdjfljaa", sum := "0e29dd72fe91801e62885ec144cbcea852657270887e14c995e90ca7b326beb3", func := "reliquary/reliquarylaw.WeighLengths", spec := "weighLengths", unfollowed := true, recurses := true, apart := false }
def WeighLengthsSaid : Prop := weighLengthsRow.holds Try.pinned (OpenSpec.ofChange weighLengthsSpec)

/-- ITS FALSE NEIGHBOUR: 'it returns false'. Refute it at one input. -/
def weighLengthsWrong : ChangeSpec := { name := "weighLengths", fn := fun _ => fun
  | [d1, d2, d3] => { results := [.lit (.bool false)], args := [d1, d2, d3] }
  | _ => none }
def WeighLengthsWrongFalsely : Prop := weighLengthsRow.holds Try.pinned (OpenSpec.ofChange weighLengthsWrong)

/- THE SECOND FORM. 'bulk': how many values and letters a reading holds, each counted each time it is reached (what is shared counts as often as it is met; a slice's spare places count too). A statement '..UptoSaid' is the law's where the arguments, and the package variables that the reading takes, are together of bulk at most 1048576: NARROWER than '..Said'. Prove '..Said' where nothing that the law and all that it calls make is longer than what came in: it says more and counts as full. Else prove '..UptoSaid'. A law counts once. -/
mutual
def uptoBulk {H : Type} : DataW H → Nat
  | .lit (.string bytes) => bytes.length + 1
  | .lit _ => 1
  | .nil => 1
  | .ptr d => uptoBulk d + 1
  | .slice elems spare => uptoBulkAll elems + uptoBulkAll spare + 1
  | .agg parts => uptoBulkAll parts + 1
  | .iface _ d => uptoBulk d + 1
  | .map entries => uptoBulkEntries entries + 1
  | .held _ => 1
def uptoBulkAll {H : Type} : List (DataW H) → Nat
  | [] => 0
  | d :: r => uptoBulk d + uptoBulkAll r
def uptoBulkEntries {H : Type} : List (Lit × DataW H) → Nat
  | [] => 0
  | x :: r => uptoBulkEntry x + uptoBulkEntries r
def uptoBulkEntry {H : Type} : Lit × DataW H → Nat
  | (.string bytes, d) => bytes.length + uptoBulk d + 1
  | (_, d) => uptoBulk d + 1
 end
def uptoSmall : (H : Type) → List (DataW H) → Bool := fun _ ds => decide (uptoBulkAll ds ≤ 1048576)
def OpenSpec.upto (s : _root_.Go.ChangeSpec) : _root_.Go.OpenSpec := { _root_.Go.OpenSpec.ofChange s with cond := some uptoSmall }

/-- 'reliquarylaw.CodeBack', WHERE WHAT IT READS IS OF BULK AT MOST 1048576: true; the input reads as it did. -/
def codeBackUptoRow : OpenClaim := { program := "ytdponlnfdjfljaa", sum := "0e29dd72fe91801e62885ec144cbcea852657270887e14c995e90ca7b326beb3", func := "reliquary/reliquarylaw.CodeBack", spec := "codeBack", unfollowed := true, recurses := true, apart := false, narrowed := true }
def CodeBackUptoSaid : Prop := codeBackUptoRow.holds Try.pinned (OpenSpec.upto codeBackSpec)

/-- 'reliquarylaw.CodeAlways', WHERE WHAT IT READS IS OF BULK AT MOST 1048576: true; the input reads as it did. -/
def codeAlwaysUptoRow : OpenClaim := { program := "ytdponlnfdjfljaa", sum := "0e29dd72fe91801e62885ec144cbcea852657270887e14c995e90ca7b326beb3", func := "reliquary/reliquarylaw.CodeAlways", spec := "codeAlways", unfollowed := true, recurses := true, apart := false, narrowed := true }
def CodeAlwaysUptoSaid : Prop := codeAlwaysUptoRow.holds Try.pinned (OpenSpec.upto codeAlwaysSpec)

/-- 'reliquarylaw.CodeWrite', WHERE WHAT IT READS IS OF BULK AT MOST 1048576: true; the input reads as it did. -/
def codeWriteUptoRow : OpenClaim := { program := "ytdponlnfdjfljaa", sum := "0e29dd72fe91801e62885ec144cbcea852657270887e14c995e90ca7b326beb3", func := "reliquary/reliquarylaw.CodeWrite", spec := "codeWrite", inPlace := ["internal/reflectlite.ValueOf", "internal/reflectlite.Swapper", "(internal/reflectlite.Value).Len", "internal/abi.NoEscape", "internal/bytealg.MakeNoZero"], unfollowed := true, recurses := true, apart := false, narrowed := true }
def CodeWriteUptoSaid : Prop := codeWriteUptoRow.holds Try.pinned (OpenSpec.upto codeWriteSpec)

/-- 'reliquarylaw.CodeRead', WHERE WHAT IT READS IS OF BULK AT MOST 1048576: true; the input reads as it did. -/
def codeReadUptoRow : OpenClaim := { program := "ytdponlnfdjfljaa", sum := "0e29dd72fe91801e62885ec144cbcea852657270887e14c995e90ca7b326beb3", func := "reliquary/reliquarylaw.CodeRead", spec := "codeRead", inPlace := ["internal/reflectlite.ValueOf", "internal/reflectlite.Swapper", "(internal/reflectlite.Value).Len", "internal/abi.NoEscape", "internal/bytealg.MakeNoZero"], unfollowed := true, recurses := true, apart := false, narrowed := true }
def CodeReadUptoSaid : Prop := codeReadUptoRow.holds Try.pinned (OpenSpec.upto codeReadSpec)

/-- 'reliquarylaw.CodeCodes', WHERE WHAT IT READS IS OF BULK AT MOST 1048576: true; the input reads as it did. -/
def codeCodesUptoRow : OpenClaim := { program := "ytdponlnfdjfljaa", sum := "0e29dd72fe91801e62885ec144cbcea852657270887e14c995e90ca7b326beb3", func := "reliquary/reliquarylaw.CodeCodes", spec := "codeCodes", inPlace := ["internal/reflectlite.ValueOf", "internal/reflectlite.Swapper", "(internal/reflectlite.Value).Len", "internal/abi.NoEscape", "internal/bytealg.MakeNoZero"], unfollowed := true, recurses := true, apart := false, narrowed := true }
def CodeCodesUptoSaid : Prop := codeCodesUptoRow.holds Try.pinned (OpenSpec.upto codeCodesSpec)

/-- 'reliquarylaw.WeighTurned', WHERE WHAT IT READS IS OF BULK AT MOST 1048576: true; the input reads as it did. -/
def weighTurnedUptoRow : OpenClaim := { program := "ytdponlnfdjfljaa", sum := "0e29dd72fe91801e62885ec144cbcea852657270887e14c995e90ca7b326beb3", func := "reliquary/reliquarylaw.WeighTurned", spec := "weighTurned", unfollowed := true, recurses := true, apart := false, narrowed := true }
def WeighTurnedUptoSaid : Prop := weighTurnedUptoRow.holds Try.pinned (OpenSpec.upto weighTurnedSpec)

/-- 'reliquarylaw.WeighLess', WHERE WHAT IT READS IS OF BULK AT MOST 1048576: true; the input reads as it did. -/
def weighLessUptoRow : OpenClaim := { program := "ytdponlnfdjfljaa", sum := "0e29dd72fe91801e62885ec144cbcea852657270887e14c995e90ca7b326beb3", func := "reliquary/reliquarylaw.WeighLess", spec := "weighLess", unfollowed := true, recurses := true, apart := false, narrowed := true }
def WeighLessUptoSaid : Prop := weighLessUptoRow.holds Try.pinned (OpenSpec.upto weighLessSpec)

/-- 'reliquarylaw.WeighLengths', WHERE WHAT IT READS IS OF BULK AT MOST 1048576: true; the input reads as it did. -/
def weighLengthsUptoRow : OpenClaim := { program := "ytdponlnfdjfljaa", sum := "0e29dd72fe91801e62885ec144cbcea852657270887e14c995e90ca7b326beb3", func := "reliquary/reliquarylaw.WeighLengths", spec := "weighLengths", unfollowed := true, recurses := true, apart := false, narrowed := true }
def WeighLengthsUptoSaid : Prop := weighLengthsUptoRow.holds Try.pinned (OpenSpec.upto weighLengthsSpec)

end Rows
end Go.Proofs.Ytdponlnfdjfljaa
