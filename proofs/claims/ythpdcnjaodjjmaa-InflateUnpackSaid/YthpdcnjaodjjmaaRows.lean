/-
  No cell of these rows narrows 'for every input' (looked for: loops, veiled, ifaces, maps, wideKeys, modest, calm, conditions, laid).
  DERIVED. THE GIVEN ROWS OF THIS SEAT. 5 by the template 'for every input the law returns true; each argument reads behind the call as it read before'; 0 by the template 'total and deterministic' (their statements: YthpdcnjaodjjmaaTotals.lean).
  GIVEN WITH THE SEED: the statements are not yours to turn. If you find one false, say at which input.
  Laid BY PROGRAM, IN A SANDBOX (cutbox-rows.mjs): the forced cells as the released guide's own fill.sh prints them over the translation 322a5d192dca1850… (all of the seat's roots in one cut). By AI agents, Wed Nov 11 2026. No macro, syntax, notation, axiom, sorry.
-/
import Derived.Test.YthpdcnjaodjjmaaChecked
import GoSem.Claim
import GoSem.ClaimJoined
import GoSem.ClaimMapViews
import Derived.JoinedTies
import Derived.KernelRfl
namespace Go.Proofs.Ythpdcnjaodjjmaa
/- THE CELL 'sum', in the pinned program and in every row, IS THE sha256 OF THE DUMP (.gsa) THAT YthpdcnjaodjjmaaProg.lean LOADS. Nothing in Lean hashes anything: it is a label: what it is worth is what the hold of that sum in a sandbox is worth. -/
noncomputable def Try.pinned : Pinned := { name := "ythpdcnjaodjjmaa", sum := "322a5d192dca1850ae10205ac32c740ac816cf87ab4ade1fe65738f0864565da", checked := Try.checked }
namespace Rows
def none {H : Type} : Left H := { results := [], args := [] }

/-- 'reliquarylaw.BlockBest': WHATEVER THE INPUT: true; the input reads as it did. -/
def blockBestSpec : ChangeSpec := { name := "blockBest", fn := fun _ => fun
  | [d] => { results := [.lit (.bool true)], args := [d] }
  | _ => none }
def blockBestRow : OpenClaim := { program := "ythpdcnjaodjjmaa", sum := "322a5d192dca1850ae10205ac32c740ac816cf87ab4ade1fe65738f0864565da", func := "reliquary/reliquarylaw.BlockBest", spec := "blockBest", unfollowed := true, recurses := true, plainKeys := false, apart := false }
def BlockBestSaid : Prop := blockBestRow.holds Try.pinned (OpenSpec.ofChange blockBestSpec)

/-- ITS FALSE NEIGHBOUR: 'it returns false'. Refute it at one input. -/
def blockBestWrong : ChangeSpec := { name := "blockBest", fn := fun _ => fun
  | [d] => { results := [.lit (.bool false)], args := [d] }
  | _ => none }
def BlockBestWrongFalsely : Prop := blockBestRow.holds Try.pinned (OpenSpec.ofChange blockBestWrong)

/-- 'reliquarylaw.InflateUnpack': WHATEVER THE INPUT: true; the input reads as it did. -/
def inflateUnpackSpec : ChangeSpec := { name := "inflateUnpack", fn := fun _ => fun
  | [d] => { results := [.lit (.bool true)], args := [d] }
  | _ => none }
def inflateUnpackRow : OpenClaim := { program := "ythpdcnjaodjjmaa", sum := "322a5d192dca1850ae10205ac32c740ac816cf87ab4ade1fe65738f0864565da", func := "reliquary/reliquarylaw.InflateUnpack", spec := "inflateUnpack", inPlace := ["internal/abi.NoEscape", "internal/reflectlite.ValueOf", "internal/reflectlite.Swapper", "(internal/reflectlite.Value).Len", "internal/bytealg.MakeNoZero"], unfollowed := true, recurses := true, plainKeys := false, apart := false }
def InflateUnpackSaid : Prop := inflateUnpackRow.holds Try.pinned (OpenSpec.ofChange inflateUnpackSpec)

/-- ITS FALSE NEIGHBOUR: 'it returns false'. Refute it at one input. -/
def inflateUnpackWrong : ChangeSpec := { name := "inflateUnpack", fn := fun _ => fun
  | [d] => { results := [.lit (.bool false)], args := [d] }
  | _ => none }
def InflateUnpackWrongFalsely : Prop := inflateUnpackRow.holds Try.pinned (OpenSpec.ofChange inflateUnpackWrong)

/-- 'reliquarylaw.InflateBack': WHATEVER THE INPUT: true; the input reads as it did. -/
def inflateBackSpec : ChangeSpec := { name := "inflateBack", fn := fun _ => fun
  | [d1, d2, d3] => { results := [.lit (.bool true)], args := [d1, d2, d3] }
  | _ => none }
def inflateBackRow : OpenClaim := { program := "ythpdcnjaodjjmaa", sum := "322a5d192dca1850ae10205ac32c740ac816cf87ab4ade1fe65738f0864565da", func := "reliquary/reliquarylaw.InflateBack", spec := "inflateBack", unfollowed := true, recurses := true, plainKeys := false, apart := false }
def InflateBackSaid : Prop := inflateBackRow.holds Try.pinned (OpenSpec.ofChange inflateBackSpec)

/-- ITS FALSE NEIGHBOUR: 'it returns false'. Refute it at one input. -/
def inflateBackWrong : ChangeSpec := { name := "inflateBack", fn := fun _ => fun
  | [d1, d2, d3] => { results := [.lit (.bool false)], args := [d1, d2, d3] }
  | _ => none }
def InflateBackWrongFalsely : Prop := inflateBackRow.holds Try.pinned (OpenSpec.ofChange inflateBackWrong)

/-- 'reliquarylaw.GzPack': WHATEVER THE INPUT: true; the input reads as it did. -/
def gzPackSpec : ChangeSpec := { name := "gzPack", fn := fun _ => fun
  | [d] => { results := [.lit (.bool true)], args := [d] }
  | _ => none }
def gzPackRow : OpenClaim := { program := "ythpdcnjaodjjmaa", sum := "322a5d192dca1850ae10205ac32c740ac816cf87ab4ade1fe65738f0864565da", func := "reliquary/reliquarylaw.GzPack", spec := "gzPack", unfollowed := true, recurses := true, plainKeys := false, apart := false }
def GzPackSaid : Prop := gzPackRow.holds Try.pinned (OpenSpec.ofChange gzPackSpec)

/-- ITS FALSE NEIGHBOUR: 'it returns false'. Refute it at one input. -/
def gzPackWrong : ChangeSpec := { name := "gzPack", fn := fun _ => fun
  | [d] => { results := [.lit (.bool false)], args := [d] }
  | _ => none }
def GzPackWrongFalsely : Prop := gzPackRow.holds Try.pinned (OpenSpec.ofChange gzPackWrong)

/-- 'reliquarylaw.GzBack': WHATEVER THE INPUT: true; the input reads as it did. -/
def gzBackSpec : ChangeSpec := { name := "gzBack", fn := fun _ => fun
  | [d1, d2] => { results := [.lit (.bool true)], args := [d1, d2] }
  | _ => none }
def gzBackRow : OpenClaim := { program := "ythpdcnjaodjjmaa", sum := "322a5d192dca1850ae10205ac32c740ac816cf87ab4ade1fe65738f0864565da", func := "reliquary/reliquarylaw.GzBack", spec := "gzBack", unfollowed := true, recurses := true, plainKeys := false, apart := false }
def GzBackSaid : Prop := gzBackRow.holds Try.pinned (OpenSpec.ofChange gzBackSpec)

/-- ITS FALSE NEIGHBOUR: 'it returns false'. Refute it at one input. -/
def gzBackWrong : ChangeSpec := { name := "gzBack", fn := fun _ => fun
  | [d1, d2] => { results := [.lit (.bool false)], args := [d1, d2] }
  | _ => none }
def GzBackWrongFalsely : Prop := gzBackRow.holds Try.pinned (OpenSpec.ofChange gzBackWrong)

/- THE SECOND FORM. 'bulk': how many values and letters a reading holds, each counted each time it is reached (what is shared counts as often as it is met; a slice's spare places count too). A statement '..UptoSaid' is the law's where the arguments, and the package variables that the reading takes, are together of bulk at most 1048576: NARROWER than '..Said'. Prove '..Said' where nothing that the law and all that it calls make is longer than what came in: it says more and counts as full. Else prove '..UptoSaid'. A law counts once. -/
mutual
def uptoBulk {H : Type} : DataW H → Nat
  | .lit (.string bytes) => bytes.length + 1
  | .lit _ => 1
  | .nil => 1
  | .ptr d => uptoBulk d + 1
  | .slice elems spare => uptoBulkAll elems + uptoBulkAll spare + 1
  | .agg parts => uptoBulkAll parts + 1
  | .iface _ d => uptoBulk d + 1
  | .map entries => uptoBulkEntries entries + 1
  | .held _ => 1
def uptoBulkAll {H : Type} : List (DataW H) → Nat
  | [] => 0
  | d :: r => uptoBulk d + uptoBulkAll r
def uptoBulkEntries {H : Type} : List (Lit × DataW H) → Nat
  | [] => 0
  | x :: r => uptoBulkEntry x + uptoBulkEntries r
def uptoBulkEntry {H : Type} : Lit × DataW H → Nat
  | (.string bytes, d) => bytes.length + uptoBulk d + 1
  | (_, d) => uptoBulk d + 1
 end
def uptoSmall : (H : Type) → List (DataW H) → Bool := fun _ ds => decide (uptoBulkAll ds ≤ 1048576)
def OpenSpec.upto (s : _root_.Go.ChangeSpec) : _root_.Go.OpenSpec := { _root_.Go.OpenSpec.ofChange s with cond := some uptoSmall }

/-- 'reliquarylaw.BlockBest', WHERE WHAT IT READS IS OF BULK AT MOST 1048576: true; the input reads as it did. -/
def blockBestUptoRow : OpenClaim := { program := "ythpdcnjaodjjmaa", sum := "322a5d192dca1850ae10205ac32c740ac816cf87ab4ade1fe65738f0864565da", func := "reliquary/reliquarylaw.BlockBest", spec := "blockBest", unfollowed := true, recurses := true, plainKeys := false, apart := false, narrowed := true }
def BlockBestUptoSaid : Prop := blockBestUptoRow.holds Try.pinned (OpenSpec.upto blockBestSpec)

/-- 'reliquarylaw.InflateUnpack', WHERE WHAT IT READS IS OF BULK AT MOST 1048576: true; the input reads as it did. -/
def inflateUnpackUptoRow : OpenClaim := { program := "ythpdcnjaodjjmaa", sum := "322a5d192dca1850ae10205ac32c740ac816cf87ab4ade1fe65738f0864565da", func := "reliquary/reliquarylaw.InflateUnpack", spec := "inflateUnpack", inPlace := ["internal/abi.NoEscape", "internal/reflectlite.ValueOf", "internal/reflectlite.Swapper", "(internal/reflectlite.Value).Len", "internal/bytealg.MakeNoZero"], unfollowed := true, recurses := true, plainKeys := false, apart := false, narrowed := true }
def InflateUnpackUptoSaid : Prop := inflateUnpackUptoRow.holds Try.pinned (OpenSpec.upto inflateUnpackSpec)

/-- 'reliquarylaw.InflateBack', WHERE WHAT IT READS IS OF BULK AT MOST 1048576: true; the input reads as it did. -/
def inflateBackUptoRow : OpenClaim := { program := "ythpdcnjaodjjmaa", sum := "322a5d192dca1850ae10205ac32c740ac816cf87ab4ade1fe65738f0864565da", func := "reliquary/reliquarylaw.InflateBack", spec := "inflateBack", unfollowed := true, recurses := true, plainKeys := false, apart := false, narrowed := true }
def InflateBackUptoSaid : Prop := inflateBackUptoRow.holds Try.pinned (OpenSpec.upto inflateBackSpec)

/-- 'reliquarylaw.GzPack', WHERE WHAT IT READS IS OF BULK AT MOST 1048576: true; the input reads as it did. -/
def gzPackUptoRow : OpenClaim := { program := "ythpdcnjaodjjmaa", sum := "322a5d192dca1850ae10205ac32c740ac816cf87ab4ade1fe65738f0864565da", func := "reliquary/reliquarylaw.GzPack", spec := "gzPack", unfollowed := true, recurses := true, plainKeys := false, apart := false, narrowed := true }
def GzPackUptoSaid : Prop := gzPackUptoRow.holds Try.pinned (OpenSpec.upto gzPackSpec)

/-- 'reliquarylaw.GzBack', WHERE WHAT IT READS IS OF BULK AT MOST 1048576: true; the input reads as it did. -/
def gzBackUptoRow : OpenClaim := { program := "ythpdcnjaodjjmaa", sum := "322a5d192dca1850ae10205ac32c740ac816cf87ab4ade1fe65738f0864565da", func := "reliquary/reliquarylaw.GzBack", spec := "gzBack", unfollowed := true, recurses := true, plainKeys := false, apart := false, narrowed := true }
def GzBackUptoSaid : Prop := gzBackUptoRow.holds Try.pinned (OpenSpec.upto gzBackSpec)

end Rows
end Go.Proofs.Ythpdcnjaodjjmaa
