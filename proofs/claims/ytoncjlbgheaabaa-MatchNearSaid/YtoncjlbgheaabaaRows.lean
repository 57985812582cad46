/-
  No cell of these rows narrows 'for every input' (looked for: loops, veiled, ifaces, maps, wideKeys, modest, calm, conditions, laid).
  DERIVED. THE GIVEN ROWS OF THIS SEAT. 12 by the template 'for every input the law returns true; each argument reads behind the call as it read before'; 0 by the template 'total and deterministic' (their statements: YtoncjlbgheaabaaTotals.lean).
  GIVEN WITH THE SEED: the statements are not yours to turn. If you find one false, say at which input.
  Laid BY PROGRAM, IN A SANDBOX (cutbox-rows.mjs): the forced cells as the released guide's own fill.sh prints them over the translation 1bfbfd36254be1fb… (all of the seat's roots in one cut). By AI agents, Wed Nov 11 2026. No macro, syntax, notation, axiom, sorry.
-/
import Derived.Test.YtoncjlbgheaabaaChecked
import GoSem.Claim
import GoSem.ClaimJoined
import GoSem.ClaimMapViews
import Derived.JoinedTies
import Derived.KernelRfl
namespace Go.Proofs.Ytoncjlbgheaabaa
/- THE CELL 'sum', in the pinned program and in every row, IS THE sha256 OF THE DUMP (.gsa) THAT YtoncjlbgheaabaaProg.lean LOADS. Nothing in Lean hashes anything: it is a label: what it is worth is what the hold of that sum in a sandbox is worth. -/
noncomputable def Try.pinned : Pinned := { name := "ytoncjlbgheaabaa", sum := "1bfbfd36254be1fbfa05235275f5f4170ba14cc980dca42f81aa510575507b7a", checked := Try.checked }
namespace Rows
def none {H : Type} : Left H := { results := [], args := [] }

/-- 'reliquarylaw.Names': WHATEVER THE INPUT: true; the input reads as it did. -/
def namesSpec : ChangeSpec := { name := "names", fn := fun _ => fun
  | [] => { results := [.lit (.bool true)], args := [] }
  | _ => none }
def namesRow : OpenClaim := { program := "ytoncjlbgheaabaa", sum := "1bfbfd36254be1fbfa05235275f5f4170ba14cc980dca42f81aa510575507b7a", func := "reliquary/reliquarylaw.Names", spec := "names", plainKeys := false, apart := false }
def NamesSaid : Prop := namesRow.holds Try.pinned (OpenSpec.ofChange namesSpec)

/-- ITS FALSE NEIGHBOUR: 'it returns false'. Refute it at one input. -/
def namesWrong : ChangeSpec := { name := "names", fn := fun _ => fun
  | [] => { results := [.lit (.bool false)], args := [] }
  | _ => none }
def NamesWrongFalsely : Prop := namesRow.holds Try.pinned (OpenSpec.ofChange namesWrong)

/-- 'reliquarylaw.SumSays': WHATEVER THE INPUT: true; the input reads as it did. -/
def sumSaysSpec : ChangeSpec := { name := "sumSays", fn := fun _ => fun
  | [d1, d2] => { results := [.lit (.bool true)], args := [d1, d2] }
  | _ => none }
def sumSaysRow : OpenClaim := { program := "ytoncjlbgheaabaa", sum := "1bfbfd36254be1fbfa05235275f5f4170ba14cc980dca42f81aa510575507b7a", func := "reliquary/reliquarylaw.SumSays", spec := "sumSays", plainKeys := false, apart := false }
def SumSaysSaid : Prop := sumSaysRow.holds Try.pinned (OpenSpec.ofChange sumSaysSpec)

/-- ITS FALSE NEIGHBOUR: 'it returns false'. Refute it at one input. -/
def sumSaysWrong : ChangeSpec := { name := "sumSays", fn := fun _ => fun
  | [d1, d2] => { results := [.lit (.bool false)], args := [d1, d2] }
  | _ => none }
def SumSaysWrongFalsely : Prop := sumSaysRow.holds Try.pinned (OpenSpec.ofChange sumSaysWrong)

/-- 'reliquarylaw.SumBurst': WHATEVER THE INPUT: true; the input reads as it did. -/
def sumBurstSpec : ChangeSpec := { name := "sumBurst", fn := fun _ => fun
  | [d1, d2, d3] => { results := [.lit (.bool true)], args := [d1, d2, d3] }
  | _ => none }
def sumBurstRow : OpenClaim := { program := "ytoncjlbgheaabaa", sum := "1bfbfd36254be1fbfa05235275f5f4170ba14cc980dca42f81aa510575507b7a", func := "reliquary/reliquarylaw.SumBurst", spec := "sumBurst", plainKeys := false, apart := false }
def SumBurstSaid : Prop := sumBurstRow.holds Try.pinned (OpenSpec.ofChange sumBurstSpec)

/-- ITS FALSE NEIGHBOUR: 'it returns false'. Refute it at one input. -/
def sumBurstWrong : ChangeSpec := { name := "sumBurst", fn := fun _ => fun
  | [d1, d2, d3] => { results := [.lit (.bool false)], args := [d1, d2, d3] }
  | _ => none }
def SumBurstWrongFalsely : Prop := sumBurstRow.holds Try.pinned (OpenSpec.ofChange sumBurstWrong)

/-- 'reliquarylaw.SumXor': WHATEVER THE INPUT: true; the input reads as it did. -/
def sumXorSpec : ChangeSpec := { name := "sumXor", fn := fun _ => fun
  | [d1, d2, d3] => { results := [.lit (.bool true)], args := [d1, d2, d3] }
  | _ => none }
def sumXorRow : OpenClaim := { program := "ytoncjlbgheaabaa", sum := "1bfbfd36254be1fbfa05235275f5f4170ba14cc980dca42f81aa510575507b7a", func := "reliquary/reliquarylaw.SumXor", spec := "sumXor", plainKeys := false, apart := false }
def SumXorSaid : Prop := sumXorRow.holds Try.pinned (OpenSpec.ofChange sumXorSpec)

/-- ITS FALSE NEIGHBOUR: 'it returns false'. Refute it at one input. -/
def sumXorWrong : ChangeSpec := { name := "sumXor", fn := fun _ => fun
  | [d1, d2, d3] => { results := [.lit (.bool false)], args := [d1, d2, d3] }
  | _ => none }
def SumXorWrongFalsely : Prop := sumXorRow.holds Try.pinned (OpenSpec.ofChange sumXorWrong)

/-- 'reliquarylaw.SumBoth': WHATEVER THE INPUT: true; the input reads as it did. -/
def sumBothSpec : ChangeSpec := { name := "sumBoth", fn := fun _ => fun
  | [d1, d2, d3, d4, d5] => { results := [.lit (.bool true)], args := [d1, d2, d3, d4, d5] }
  | _ => none }
def sumBothRow : OpenClaim := { program := "ytoncjlbgheaabaa", sum := "1bfbfd36254be1fbfa05235275f5f4170ba14cc980dca42f81aa510575507b7a", func := "reliquary/reliquarylaw.SumBoth", spec := "sumBoth", plainKeys := false, apart := false }
def SumBothSaid : Prop := sumBothRow.holds Try.pinned (OpenSpec.ofChange sumBothSpec)

/-- ITS FALSE NEIGHBOUR: 'it returns false'. Refute it at one input. -/
def sumBothWrong : ChangeSpec := { name := "sumBoth", fn := fun _ => fun
  | [d1, d2, d3, d4, d5] => { results := [.lit (.bool false)], args := [d1, d2, d3, d4, d5] }
  | _ => none }
def SumBothWrongFalsely : Prop := sumBothRow.holds Try.pinned (OpenSpec.ofChange sumBothWrong)

/-- 'reliquarylaw.BitsBack': WHATEVER THE INPUT: true; the input reads as it did. -/
def bitsBackSpec : ChangeSpec := { name := "bitsBack", fn := fun _ => fun
  | [d1, d2, d3] => { results := [.lit (.bool true)], args := [d1, d2, d3] }
  | _ => none }
def bitsBackRow : OpenClaim := { program := "ytoncjlbgheaabaa", sum := "1bfbfd36254be1fbfa05235275f5f4170ba14cc980dca42f81aa510575507b7a", func := "reliquary/reliquarylaw.BitsBack", spec := "bitsBack", unfollowed := true, recurses := true, plainKeys := false, apart := false }
def BitsBackSaid : Prop := bitsBackRow.holds Try.pinned (OpenSpec.ofChange bitsBackSpec)

/-- ITS FALSE NEIGHBOUR: 'it returns false'. Refute it at one input. -/
def bitsBackWrong : ChangeSpec := { name := "bitsBack", fn := fun _ => fun
  | [d1, d2, d3] => { results := [.lit (.bool false)], args := [d1, d2, d3] }
  | _ => none }
def BitsBackWrongFalsely : Prop := bitsBackRow.holds Try.pinned (OpenSpec.ofChange bitsBackWrong)

/-- 'reliquarylaw.MatchExpand': WHATEVER THE INPUT: true; the input reads as it did. -/
def matchExpandSpec : ChangeSpec := { name := "matchExpand", fn := fun _ => fun
  | [d] => { results := [.lit (.bool true)], args := [d] }
  | _ => none }
def matchExpandRow : OpenClaim := { program := "ytoncjlbgheaabaa", sum := "1bfbfd36254be1fbfa05235275f5f4170ba14cc980dca42f81aa510575507b7a", func := "reliquary/reliquarylaw.MatchExpand", spec := "matchExpand", plainKeys := false, apart := false }
def MatchExpandSaid : Prop := matchExpandRow.holds Try.pinned (OpenSpec.ofChange matchExpandSpec)

/-- ITS FALSE NEIGHBOUR: 'it returns false'. Refute it at one input. -/
def matchExpandWrong : ChangeSpec := { name := "matchExpand", fn := fun _ => fun
  | [d] => { results := [.lit (.bool false)], args := [d] }
  | _ => none }
def MatchExpandWrongFalsely : Prop := matchExpandRow.holds Try.pinned (OpenSpec.ofChange matchExpandWrong)

/-- 'reliquarylaw.MatchBack': WHATEVER THE INPUT: true; the input reads as it did. -/
def matchBackSpec : ChangeSpec := { name := "matchBack", fn := fun _ => fun
  | [d] => { results := [.lit (.bool true)], args := [d] }
  | _ => none }
def matchBackRow : OpenClaim := { program := "ytoncjlbgheaabaa", sum := "1bfbfd36254be1fbfa05235275f5f4170ba14cc980dca42f81aa510575507b7a", func := "reliquary/reliquarylaw.MatchBack", spec := "matchBack", plainKeys := false, apart := false }
def MatchBackSaid : Prop := matchBackRow.holds Try.pinned (OpenSpec.ofChange matchBackSpec)

/-- ITS FALSE NEIGHBOUR: 'it returns false'. Refute it at one input. -/
def matchBackWrong : ChangeSpec := { name := "matchBack", fn := fun _ => fun
  | [d] => { results := [.lit (.bool false)], args := [d] }
  | _ => none }
def MatchBackWrongFalsely : Prop := matchBackRow.holds Try.pinned (OpenSpec.ofChange matchBackWrong)

/-- 'reliquarylaw.BitsPack': WHATEVER THE INPUT: true; the input reads as it did. -/
def bitsPackSpec : ChangeSpec := { name := "bitsPack", fn := fun _ => fun
  | [d] => { results := [.lit (.bool true)], args := [d] }
  | _ => none }
def bitsPackRow : OpenClaim := { program := "ytoncjlbgheaabaa", sum := "1bfbfd36254be1fbfa05235275f5f4170ba14cc980dca42f81aa510575507b7a", func := "reliquary/reliquarylaw.BitsPack", spec := "bitsPack", inPlace := ["internal/abi.NoEscape"], unfollowed := true, recurses := true, plainKeys := false, apart := false }
def BitsPackSaid : Prop := bitsPackRow.holds Try.pinned (OpenSpec.ofChange bitsPackSpec)

/-- ITS FALSE NEIGHBOUR: 'it returns false'. Refute it at one input. -/
def bitsPackWrong : ChangeSpec := { name := "bitsPack", fn := fun _ => fun
  | [d] => { results := [.lit (.bool false)], args := [d] }
  | _ => none }
def BitsPackWrongFalsely : Prop := bitsPackRow.holds Try.pinned (OpenSpec.ofChange bitsPackWrong)

/-- 'reliquarylaw.BitsUnpack': WHATEVER THE INPUT: true; the input reads as it did. -/
def bitsUnpackSpec : ChangeSpec := { name := "bitsUnpack", fn := fun _ => fun
  | [d1, d2, d3, d4] => { results := [.lit (.bool true)], args := [d1, d2, d3, d4] }
  | _ => none }
def bitsUnpackRow : OpenClaim := { program := "ytoncjlbgheaabaa", sum := "1bfbfd36254be1fbfa05235275f5f4170ba14cc980dca42f81aa510575507b7a", func := "reliquary/reliquarylaw.BitsUnpack", spec := "bitsUnpack", inPlace := ["internal/abi.NoEscape"], unfollowed := true, recurses := true, plainKeys := false, apart := false }
def BitsUnpackSaid : Prop := bitsUnpackRow.holds Try.pinned (OpenSpec.ofChange bitsUnpackSpec)

/-- ITS FALSE NEIGHBOUR: 'it returns false'. Refute it at one input. -/
def bitsUnpackWrong : ChangeSpec := { name := "bitsUnpack", fn := fun _ => fun
  | [d1, d2, d3, d4] => { results := [.lit (.bool false)], args := [d1, d2, d3, d4] }
  | _ => none }
def BitsUnpackWrongFalsely : Prop := bitsUnpackRow.holds Try.pinned (OpenSpec.ofChange bitsUnpackWrong)

/-- 'reliquarylaw.MatchTokens': WHATEVER THE INPUT: true; the input reads as it did. -/
def matchTokensSpec : ChangeSpec := { name := "matchTokens", fn := fun _ => fun
  | [d1, d2] => { results := [.lit (.bool true)], args := [d1, d2] }
  | _ => none }
def matchTokensRow : OpenClaim := { program := "ytoncjlbgheaabaa", sum := "1bfbfd36254be1fbfa05235275f5f4170ba14cc980dca42f81aa510575507b7a", func := "reliquary/reliquarylaw.MatchTokens", spec := "matchTokens", plainKeys := false, apart := false }
def MatchTokensSaid : Prop := matchTokensRow.holds Try.pinned (OpenSpec.ofChange matchTokensSpec)

/-- ITS FALSE NEIGHBOUR: 'it returns false'. Refute it at one input. -/
def matchTokensWrong : ChangeSpec := { name := "matchTokens", fn := fun _ => fun
  | [d1, d2] => { results := [.lit (.bool false)], args := [d1, d2] }
  | _ => none }
def MatchTokensWrongFalsely : Prop := matchTokensRow.holds Try.pinned (OpenSpec.ofChange matchTokensWrong)

/-- 'reliquarylaw.MatchNear': WHATEVER THE INPUT: true; the input reads as it did. -/
def matchNearSpec : ChangeSpec := { name := "matchNear", fn := fun _ => fun
  | [d] => { results := [.lit (.bool true)], args := [d] }
  | _ => none }
def matchNearRow : OpenClaim := { program := "ytoncjlbgheaabaa", sum := "1bfbfd36254be1fbfa05235275f5f4170ba14cc980dca42f81aa510575507b7a", func := "reliquary/reliquarylaw.MatchNear", spec := "matchNear", plainKeys := false, apart := false }
def MatchNearSaid : Prop := matchNearRow.holds Try.pinned (OpenSpec.ofChange matchNearSpec)

/-- ITS FALSE NEIGHBOUR: 'it returns false'. Refute it at one input. -/
def matchNearWrong : ChangeSpec := { name := "matchNear", fn := fun _ => fun
  | [d] => { results := [.lit (.bool false)], args := [d] }
  | _ => none }
def MatchNearWrongFalsely : Prop := matchNearRow.holds Try.pinned (OpenSpec.ofChange matchNearWrong)

/- THE SECOND FORM. 'bulk': how many values and letters a reading holds, each counted each time it is reached (what is shared counts as often as it is met; a slice's spare places count too). A statement '..UptoSaid' is the law's where the arguments, and the package variables that the reading takes, are together of bulk at most 1048576: NARROWER than '..Said'. Prove '..Said' where nothing that the law and all that it calls make is longer than what came in: it says more and counts as full. Else prove '..UptoSaid'. A law counts once. -/
mutual
def uptoBulk {H : Type} : DataW H → Nat
  | .lit (.string bytes) => bytes.length + 1
  | .lit _ => 1
  | .nil => 1
  | .ptr d => uptoBulk d + 1
  | .slice elems spare => uptoBulkAll elems + uptoBulkAll spare + 1
  | .agg parts => uptoBulkAll parts + 1
  | .iface _ d => uptoBulk d + 1
  | .map entries => uptoBulkEntries entries + 1
  | .held _ => 1
def uptoBulkAll {H : Type} : List (DataW H) → Nat
  | [] => 0
  | d :: r => uptoBulk d + uptoBulkAll r
def uptoBulkEntries {H : Type} : List (Lit × DataW H) → Nat
  | [] => 0
  | x :: r => uptoBulkEntry x + uptoBulkEntries r
def uptoBulkEntry {H : Type} : Lit × DataW H → Nat
  | (.string bytes, d) => bytes.length + uptoBulk d + 1
  | (_, d) => uptoBulk d + 1
 end
def uptoSmall : (H : Type) → List (DataW H) → Bool := fun _ ds => decide (uptoBulkAll ds ≤ 1048576)
def OpenSpec.upto (s : _root_.Go.ChangeSpec) : _root_.Go.OpenSpec := { _root_.Go.OpenSpec.ofChange s with cond := some uptoSmall }

/-- 'reliquarylaw.Names', WHERE WHAT IT READS IS OF BULK AT MOST 1048576: true; the input reads as it did. -/
def namesUptoRow : OpenClaim := { program := "ytoncjlbgheaabaa", sum := "1bfbfd36254be1fbfa05235275f5f4170ba14cc980dca42f81aa510575507b7a", func := "reliquary/reliquarylaw.Names", spec := "names", plainKeys := false, apart := false, narrowed := true }
def NamesUptoSaid : Prop := namesUptoRow.holds Try.pinned (OpenSpec.upto namesSpec)

/-- 'reliquarylaw.SumSays', WHERE WHAT IT READS IS OF BULK AT MOST 1048576: true; the input reads as it did. -/
def sumSaysUptoRow : OpenClaim := { program := "ytoncjlbgheaabaa", sum := "1bfbfd36254be1fbfa05235275f5f4170ba14cc980dca42f81aa510575507b7a", func := "reliquary/reliquarylaw.SumSays", spec := "sumSays", plainKeys := false, apart := false, narrowed := true }
def SumSaysUptoSaid : Prop := sumSaysUptoRow.holds Try.pinned (OpenSpec.upto sumSaysSpec)

/-- 'reliquarylaw.SumBurst', WHERE WHAT IT READS IS OF BULK AT MOST 1048576: true; the input reads as it did. -/
def sumBurstUptoRow : OpenClaim := { program := "ytoncjlbgheaabaa", sum := "1bfbfd36254be1fbfa05235275f5f4170ba14cc980dca42f81aa510575507b7a", func := "reliquary/reliquarylaw.SumBurst", spec := "sumBurst", plainKeys := false, apart := false, narrowed := true }
def SumBurstUptoSaid : Prop := sumBurstUptoRow.holds Try.pinned (OpenSpec.upto sumBurstSpec)

/-- 'reliquarylaw.SumXor', WHERE WHAT IT READS IS OF BULK AT MOST 1048576: true; the input reads as it did. -/
def sumXorUptoRow : OpenClaim := { program := "ytoncjlbgheaabaa", sum := "1bfbfd36254be1fbfa05235275f5f4170ba14cc980dca42f81aa510575507b7a", func := "reliquary/reliquarylaw.SumXor", spec := "sumXor", plainKeys := false, apart := false, narrowed := true }
def SumXorUptoSaid : Prop := sumXorUptoRow.holds Try.pinned (OpenSpec.upto sumXorSpec)

/-- 'reliquarylaw.SumBoth', WHERE WHAT IT READS IS OF BULK AT MOST 1048576: true; the input reads as it did. -/
def sumBothUptoRow : OpenClaim := { program := "ytoncjlbgheaabaa", sum := "1bfbfd36254be1fbfa05235275f5f4170ba14cc980dca42f81aa510575507b7a", func := "reliquary/reliquarylaw.SumBoth", spec := "sumBoth", plainKeys := false, apart := false, narrowed := true }
def SumBothUptoSaid : Prop := sumBothUptoRow.holds Try.pinned (OpenSpec.upto sumBothSpec)

/-- 'reliquarylaw.BitsBack', WHERE WHAT IT READS IS OF BULK AT MOST 1048576: true; the input reads as it did. -/
def bitsBackUptoRow : OpenClaim := { program := "ytoncjlbgheaabaa", sum := "1bfbfd36254be1fbfa05235275f5f4170ba14cc980dca42f81aa510575507b7a", func := "reliquary/reliquarylaw.BitsBack", spec := "bitsBack", unfollowed := true, recurses := true, plainKeys := false, apart := false, narrowed := true }
def BitsBackUptoSaid : Prop := bitsBackUptoRow.holds Try.pinned (OpenSpec.upto bitsBackSpec)

/-- 'reliquarylaw.MatchExpand', WHERE WHAT IT READS IS OF BULK AT MOST 1048576: true; the input reads as it did. -/
def matchExpandUptoRow : OpenClaim := { program := "ytoncjlbgheaabaa", sum := "1bfbfd36254be1fbfa05235275f5f4170ba14cc980dca42f81aa510575507b7a", func := "reliquary/reliquarylaw.MatchExpand", spec := "matchExpand", plainKeys := false, apart := false, narrowed := true }
def MatchExpandUptoSaid : Prop := matchExpandUptoRow.holds Try.pinned (OpenSpec.upto matchExpandSpec)

/-- 'reliquarylaw.MatchBack', WHERE WHAT IT READS IS OF BULK AT MOST 1048576: true; the input reads as it did. -/
def matchBackUptoRow : OpenClaim := { program := "ytoncjlbgheaabaa", sum := "1bfbfd36254be1fbfa05235275f5f4170ba14cc980dca42f81aa510575507b7a", func := "reliquary/reliquarylaw.MatchBack", spec := "matchBack", plainKeys := false, apart := false, narrowed := true }
def MatchBackUptoSaid : Prop := matchBackUptoRow.holds Try.pinned (OpenSpec.upto matchBackSpec)

/-- 'reliquarylaw.BitsPack', WHERE WHAT IT READS IS OF BULK AT MOST 1048576: true; the input reads as it did. -/
def bitsPackUptoRow : OpenClaim := { program := "ytoncjlbgheaabaa", sum := "1bfbfd36254be1fbfa05235275f5f4170ba14cc980dca42f81aa510575507b7a", func := "reliquary/reliquarylaw.BitsPack", spec := "bitsPack", inPlace := ["internal/abi.NoEscape"], unfollowed := true, recurses := true, plainKeys := false, apart := false, narrowed := true }
def BitsPackUptoSaid : Prop := bitsPackUptoRow.holds Try.pinned (OpenSpec.upto bitsPackSpec)

/-- 'reliquarylaw.BitsUnpack', WHERE WHAT IT READS IS OF BULK AT MOST 1048576: true; the input reads as it did. -/
def bitsUnpackUptoRow : OpenClaim := { program := "ytoncjlbgheaabaa", sum := "1bfbfd36254be1fbfa05235275f5f4170ba14cc980dca42f81aa510575507b7a", func := "reliquary/reliquarylaw.BitsUnpack", spec := "bitsUnpack", inPlace := ["internal/abi.NoEscape"], unfollowed := true, recurses := true, plainKeys := false, apart := false, narrowed := true }
def BitsUnpackUptoSaid : Prop := bitsUnpackUptoRow.holds Try.pinned (OpenSpec.upto bitsUnpackSpec)

/-- 'reliquarylaw.MatchTokens', WHERE WHAT IT READS IS OF BULK AT MOST 1048576: true; the input reads as it did. -/
def matchTokensUptoRow : OpenClaim := { program := "ytoncjlbgheaabaa", sum := "1bfbfd36254be1fbfa05235275f5f4170ba14cc980dca42f81aa510575507b7a", func := "reliquary/reliquarylaw.MatchTokens", spec := "matchTokens", plainKeys := false, apart := false, narrowed := true }
def MatchTokensUptoSaid : Prop := matchTokensUptoRow.holds Try.pinned (OpenSpec.upto matchTokensSpec)

/-- 'reliquarylaw.MatchNear', WHERE WHAT IT READS IS OF BULK AT MOST 1048576: true; the input reads as it did. -/
def matchNearUptoRow : OpenClaim := { program := "ytoncjlbgheaabaa", sum := "1bfbfd36254be1fbfa05235275f5f4170ba14cc980dca42f81aa510575507b7a", func := "reliquary/reliquarylaw.MatchNear", spec := "matchNear", plainKeys := false, apart := false, narrowed := true }
def MatchNearUptoSaid : Prop := matchNearUptoRow.holds Try.pinned (OpenSpec.upto matchNearSpec)

end Rows
end Go.Proofs.Ytoncjlbgheaabaa
