/-
  NARROWER THAN 'FOR EVERY INPUT', by the rows' own cells (each row's printed sentence says how): ZipBack: laid · ZipAgain: laid · ZipWrite: laid · ZipRead: laid · ShelfAdd: laid · ShelfCut: laid · ShelfBegins: laid · ShelfKeeps: laid · ShelfPacks: laid.
  DERIVED. THE GIVEN ROWS OF THIS SEAT. 9 by the template 'for every input the law returns true; each argument reads behind the call as it read before'; 0 by the template 'total and deterministic' (their statements: YtabdianhoabhhaaGreatDoorTotals.lean).
  GIVEN WITH THE SEED: the statements are not yours to turn. If you find one false, say at which input.
  Laid BY PROGRAM, IN A SANDBOX (cutbox-rows.mjs): the forced cells as the released guide's own fill.sh prints them over the translation c939b7c9df9bc394… (all of the seat's roots in one cut). By AI agents, Wed Nov 11 2026. No macro, syntax, notation, axiom, sorry.
-/
import Derived.Test.YtabdianhoabhhaaGreatDoorChecked
import GoSem.PinnedTables
import GoSem.Claim
import GoSem.ClaimJoined
import GoSem.ClaimMapViews
import Derived.JoinedTies
import Derived.KernelRfl
namespace Go.Proofs.YtabdianhoabhhaaGreatDoor
/- THE CELL 'sum', in the pinned program and in every row, IS THE sha256 OF THE DUMP (.gsa) THAT YtabdianhoabhhaaGreatDoorProg.lean LOADS. Nothing in Lean hashes anything: it is a label: what it is worth is what the hold of that sum in a sandbox is worth. -/
noncomputable def Tryz.pinned : Pinned := { name := "ytabdianhoabhhaagreatdoor", sum := "c939b7c9df9bc394e2832a51c93611f4699e8cfd1f051c8e7d461d9a218484a5", checked := Tryz.checked }
namespace Rows
def none {H : Type} : Left H := { results := [], args := [] }

/- WHAT THE LISTED PACKAGE-LEVEL VARIABLES READ AS WHEN THE CALL BEGINS. Each datum BY PROGRAM (the guide's laid-datum.mjs) off the statement by which the dump's own 'gosem.cut.vars' lays the variable. In a bare row this is a premise. The card (YtabdianhoabhhaaGreatDoorCards.lean) ties it to the program's text. -/
def laid_unicode_utf8_acceptRanges {H : Type} : DataW H := .agg [.agg [.lit (.int .u8 128), .lit (.int .u8 191)], .agg [.lit (.int .u8 160), .lit (.int .u8 191)], .agg [.lit (.int .u8 128), .lit (.int .u8 159)], .agg [.lit (.int .u8 144), .lit (.int .u8 191)], .agg [.lit (.int .u8 128), .lit (.int .u8 143)], .agg [.lit (.int .u8 0), .lit (.int .u8 0)], .agg [.lit (.int .u8 0), .lit (.int .u8 0)], .agg [.lit (.int .u8 0), .lit (.int .u8 0)], .agg [.lit (.int .u8 0), .lit (.int .u8 0)], .agg [.lit (.int .u8 0), .lit (.int .u8 0)], .agg [.lit (.int .u8 0), .lit (.int .u8 0)], .agg [.lit (.int .u8 0), .lit (.int .u8 0)], .agg [.lit (.int .u8 0), .lit (.int .u8 0)], .agg [.lit (.int .u8 0), .lit (.int .u8 0)], .agg [.lit (.int .u8 0), .lit (.int .u8 0)], .agg [.lit (.int .u8 0), .lit (.int .u8 0)]]
/-- One of Go's own tables, pinned by name: the form's constant. -/
def laid_unicode_utf8_first : DataW Unit := Go.Pinned.utf8First

/-- 'reliquarylaw.ZipBack': WHATEVER THE INPUT: true; the input reads as it did. -/
def zipBackSpec : ChangeSpec := { name := "zipBack", fn := fun _ => fun
  | [d1, d2] => { results := [.lit (.bool true)], args := [d1, d2] }
  | _ => none }
def zipBackRow : OpenClaim := { program := "ytabdianhoabhhaagreatdoor", sum := "c939b7c9df9bc394e2832a51c93611f4699e8cfd1f051c8e7d461d9a218484a5", func := "reliquary/reliquarylaw.ZipBack", spec := "zipBack", inPlace := ["internal/bytealg.CountString", "internal/bytealg.IndexByteString", "internal/bytealg.IndexString"], unfollowed := true, recurses := true, named := ["unicode/utf8.first", "unicode/utf8.acceptRanges", "internal/bytealg.MaxLen"], plainKeys := false, apart := false, laid := [("unicode/utf8.acceptRanges", laid_unicode_utf8_acceptRanges), ("unicode/utf8.first", laid_unicode_utf8_first)] }
def ZipBackSaid : Prop := zipBackRow.holds Tryz.pinned (OpenSpec.ofChange zipBackSpec)

/-- ITS FALSE NEIGHBOUR: 'it returns false'. Refute it at one input. -/
def zipBackWrong : ChangeSpec := { name := "zipBack", fn := fun _ => fun
  | [d1, d2] => { results := [.lit (.bool false)], args := [d1, d2] }
  | _ => none }
def ZipBackWrongFalsely : Prop := zipBackRow.holds Tryz.pinned (OpenSpec.ofChange zipBackWrong)

/-- 'reliquarylaw.ZipAgain': WHATEVER THE INPUT: true; the input reads as it did. -/
def zipAgainSpec : ChangeSpec := { name := "zipAgain", fn := fun _ => fun
  | [d] => { results := [.lit (.bool true)], args := [d] }
  | _ => none }
def zipAgainRow : OpenClaim := { program := "ytabdianhoabhhaagreatdoor", sum := "c939b7c9df9bc394e2832a51c93611f4699e8cfd1f051c8e7d461d9a218484a5", func := "reliquary/reliquarylaw.ZipAgain", spec := "zipAgain", inPlace := ["internal/bytealg.CountString", "internal/bytealg.IndexByteString", "internal/bytealg.IndexString"], unfollowed := true, recurses := true, named := ["unicode/utf8.first", "unicode/utf8.acceptRanges", "internal/bytealg.MaxLen"], plainKeys := false, apart := false, laid := [("unicode/utf8.acceptRanges", laid_unicode_utf8_acceptRanges), ("unicode/utf8.first", laid_unicode_utf8_first)] }
def ZipAgainSaid : Prop := zipAgainRow.holds Tryz.pinned (OpenSpec.ofChange zipAgainSpec)

/-- ITS FALSE NEIGHBOUR: 'it returns false'. Refute it at one input. -/
def zipAgainWrong : ChangeSpec := { name := "zipAgain", fn := fun _ => fun
  | [d] => { results := [.lit (.bool false)], args := [d] }
  | _ => none }
def ZipAgainWrongFalsely : Prop := zipAgainRow.holds Tryz.pinned (OpenSpec.ofChange zipAgainWrong)

/-- 'reliquarylaw.ZipWrite': WHATEVER THE INPUT: true; the input reads as it did. -/
def zipWriteSpec : ChangeSpec := { name := "zipWrite", fn := fun _ => fun
  | [d] => { results := [.lit (.bool true)], args := [d] }
  | _ => none }
def zipWriteRow : OpenClaim := { program := "ytabdianhoabhhaagreatdoor", sum := "c939b7c9df9bc394e2832a51c93611f4699e8cfd1f051c8e7d461d9a218484a5", func := "reliquary/reliquarylaw.ZipWrite", spec := "zipWrite", inPlace := ["internal/bytealg.CountString", "internal/bytealg.IndexByteString", "internal/bytealg.IndexString", "internal/abi.NoEscape", "internal/reflectlite.ValueOf", "internal/reflectlite.Swapper", "(internal/reflectlite.Value).Len", "internal/bytealg.MakeNoZero"], unfollowed := true, recurses := true, named := ["unicode/utf8.first", "unicode/utf8.acceptRanges", "internal/bytealg.MaxLen"], plainKeys := false, apart := false, laid := [("unicode/utf8.acceptRanges", laid_unicode_utf8_acceptRanges), ("unicode/utf8.first", laid_unicode_utf8_first)] }
def ZipWriteSaid : Prop := zipWriteRow.holds Tryz.pinned (OpenSpec.ofChange zipWriteSpec)

/-- ITS FALSE NEIGHBOUR: 'it returns false'. Refute it at one input. -/
def zipWriteWrong : ChangeSpec := { name := "zipWrite", fn := fun _ => fun
  | [d] => { results := [.lit (.bool false)], args := [d] }
  | _ => none }
def ZipWriteWrongFalsely : Prop := zipWriteRow.holds Tryz.pinned (OpenSpec.ofChange zipWriteWrong)

/-- 'reliquarylaw.ZipRead': WHATEVER THE INPUT: true; the input reads as it did. -/
def zipReadSpec : ChangeSpec := { name := "zipRead", fn := fun _ => fun
  | [d] => { results := [.lit (.bool true)], args := [d] }
  | _ => none }
def zipReadRow : OpenClaim := { program := "ytabdianhoabhhaagreatdoor", sum := "c939b7c9df9bc394e2832a51c93611f4699e8cfd1f051c8e7d461d9a218484a5", func := "reliquary/reliquarylaw.ZipRead", spec := "zipRead", inPlace := ["internal/bytealg.CountString", "internal/bytealg.IndexByteString", "internal/bytealg.IndexString", "internal/abi.NoEscape", "internal/reflectlite.ValueOf", "internal/reflectlite.Swapper", "(internal/reflectlite.Value).Len", "internal/bytealg.MakeNoZero"], unfollowed := true, recurses := true, named := ["unicode/utf8.first", "unicode/utf8.acceptRanges", "internal/bytealg.MaxLen"], plainKeys := false, apart := false, laid := [("unicode/utf8.acceptRanges", laid_unicode_utf8_acceptRanges), ("unicode/utf8.first", laid_unicode_utf8_first)] }
def ZipReadSaid : Prop := zipReadRow.holds Tryz.pinned (OpenSpec.ofChange zipReadSpec)

/-- ITS FALSE NEIGHBOUR: 'it returns false'. Refute it at one input. -/
def zipReadWrong : ChangeSpec := { name := "zipRead", fn := fun _ => fun
  | [d] => { results := [.lit (.bool false)], args := [d] }
  | _ => none }
def ZipReadWrongFalsely : Prop := zipReadRow.holds Tryz.pinned (OpenSpec.ofChange zipReadWrong)

/-- 'reliquarylaw.ShelfAdd': WHATEVER THE INPUT: true; the input reads as it did. -/
def shelfAddSpec : ChangeSpec := { name := "shelfAdd", fn := fun _ => fun
  | [d1, d2] => { results := [.lit (.bool true)], args := [d1, d2] }
  | _ => none }
def shelfAddRow : OpenClaim := { program := "ytabdianhoabhhaagreatdoor", sum := "c939b7c9df9bc394e2832a51c93611f4699e8cfd1f051c8e7d461d9a218484a5", func := "reliquary/reliquarylaw.ShelfAdd", spec := "shelfAdd", inPlace := ["internal/bytealg.CountString", "internal/bytealg.IndexByteString", "internal/bytealg.IndexString", "internal/bytealg.abigen_runtime_cmpstring", "internal/bytealg.Compare", "internal/abi.NoEscape", "internal/reflectlite.ValueOf", "internal/reflectlite.Swapper", "(internal/reflectlite.Value).Len", "internal/bytealg.MakeNoZero"], unfollowed := true, recurses := true, named := ["unicode/utf8.first", "unicode/utf8.acceptRanges", "internal/bytealg.MaxLen"], plainKeys := false, apart := false, laid := [("unicode/utf8.acceptRanges", laid_unicode_utf8_acceptRanges), ("unicode/utf8.first", laid_unicode_utf8_first)] }
def ShelfAddSaid : Prop := shelfAddRow.holds Tryz.pinned (OpenSpec.ofChange shelfAddSpec)

/-- ITS FALSE NEIGHBOUR: 'it returns false'. Refute it at one input. -/
def shelfAddWrong : ChangeSpec := { name := "shelfAdd", fn := fun _ => fun
  | [d1, d2] => { results := [.lit (.bool false)], args := [d1, d2] }
  | _ => none }
def ShelfAddWrongFalsely : Prop := shelfAddRow.holds Tryz.pinned (OpenSpec.ofChange shelfAddWrong)

/-- 'reliquarylaw.ShelfCut': WHATEVER THE INPUT: true; the input reads as it did. -/
def shelfCutSpec : ChangeSpec := { name := "shelfCut", fn := fun _ => fun
  | [d1, d2, d3] => { results := [.lit (.bool true)], args := [d1, d2, d3] }
  | _ => none }
def shelfCutRow : OpenClaim := { program := "ytabdianhoabhhaagreatdoor", sum := "c939b7c9df9bc394e2832a51c93611f4699e8cfd1f051c8e7d461d9a218484a5", func := "reliquary/reliquarylaw.ShelfCut", spec := "shelfCut", inPlace := ["internal/bytealg.CountString", "internal/bytealg.IndexByteString", "internal/bytealg.IndexString", "internal/bytealg.abigen_runtime_cmpstring", "internal/bytealg.Compare", "internal/abi.NoEscape", "internal/reflectlite.ValueOf", "internal/reflectlite.Swapper", "(internal/reflectlite.Value).Len", "internal/bytealg.MakeNoZero"], unfollowed := true, recurses := true, named := ["unicode/utf8.first", "unicode/utf8.acceptRanges", "internal/bytealg.MaxLen"], plainKeys := false, apart := false, laid := [("unicode/utf8.acceptRanges", laid_unicode_utf8_acceptRanges), ("unicode/utf8.first", laid_unicode_utf8_first)] }
def ShelfCutSaid : Prop := shelfCutRow.holds Tryz.pinned (OpenSpec.ofChange shelfCutSpec)

/-- ITS FALSE NEIGHBOUR: 'it returns false'. Refute it at one input. -/
def shelfCutWrong : ChangeSpec := { name := "shelfCut", fn := fun _ => fun
  | [d1, d2, d3] => { results := [.lit (.bool false)], args := [d1, d2, d3] }
  | _ => none }
def ShelfCutWrongFalsely : Prop := shelfCutRow.holds Tryz.pinned (OpenSpec.ofChange shelfCutWrong)

/-- 'reliquarylaw.ShelfBegins': WHATEVER THE INPUT: true; the input reads as it did. -/
def shelfBeginsSpec : ChangeSpec := { name := "shelfBegins", fn := fun _ => fun
  | [d1, d2] => { results := [.lit (.bool true)], args := [d1, d2] }
  | _ => none }
def shelfBeginsRow : OpenClaim := { program := "ytabdianhoabhhaagreatdoor", sum := "c939b7c9df9bc394e2832a51c93611f4699e8cfd1f051c8e7d461d9a218484a5", func := "reliquary/reliquarylaw.ShelfBegins", spec := "shelfBegins", inPlace := ["internal/bytealg.CountString", "internal/bytealg.IndexByteString", "internal/bytealg.IndexString", "internal/bytealg.abigen_runtime_cmpstring", "internal/bytealg.Compare"], unfollowed := true, recurses := true, named := ["unicode/utf8.first", "unicode/utf8.acceptRanges", "internal/bytealg.MaxLen"], plainKeys := false, apart := false, laid := [("unicode/utf8.acceptRanges", laid_unicode_utf8_acceptRanges), ("unicode/utf8.first", laid_unicode_utf8_first)] }
def ShelfBeginsSaid : Prop := shelfBeginsRow.holds Tryz.pinned (OpenSpec.ofChange shelfBeginsSpec)

/-- ITS FALSE NEIGHBOUR: 'it returns false'. Refute it at one input. -/
def shelfBeginsWrong : ChangeSpec := { name := "shelfBegins", fn := fun _ => fun
  | [d1, d2] => { results := [.lit (.bool false)], args := [d1, d2] }
  | _ => none }
def ShelfBeginsWrongFalsely : Prop := shelfBeginsRow.holds Tryz.pinned (OpenSpec.ofChange shelfBeginsWrong)

/-- 'reliquarylaw.ShelfKeeps': WHATEVER THE INPUT: true; the input reads as it did. -/
def shelfKeepsSpec : ChangeSpec := { name := "shelfKeeps", fn := fun _ => fun
  | [d1, d2, d3] => { results := [.lit (.bool true)], args := [d1, d2, d3] }
  | _ => none }
def shelfKeepsRow : OpenClaim := { program := "ytabdianhoabhhaagreatdoor", sum := "c939b7c9df9bc394e2832a51c93611f4699e8cfd1f051c8e7d461d9a218484a5", func := "reliquary/reliquarylaw.ShelfKeeps", spec := "shelfKeeps", inPlace := ["internal/bytealg.CountString", "internal/bytealg.IndexByteString", "internal/bytealg.IndexString", "internal/bytealg.abigen_runtime_cmpstring", "internal/bytealg.Compare"], unfollowed := true, recurses := true, named := ["unicode/utf8.first", "unicode/utf8.acceptRanges", "internal/bytealg.MaxLen"], plainKeys := false, apart := false, laid := [("unicode/utf8.acceptRanges", laid_unicode_utf8_acceptRanges), ("unicode/utf8.first", laid_unicode_utf8_first)] }
def ShelfKeepsSaid : Prop := shelfKeepsRow.holds Tryz.pinned (OpenSpec.ofChange shelfKeepsSpec)

/-- ITS FALSE NEIGHBOUR: 'it returns false'. Refute it at one input. -/
def shelfKeepsWrong : ChangeSpec := { name := "shelfKeeps", fn := fun _ => fun
  | [d1, d2, d3] => { results := [.lit (.bool false)], args := [d1, d2, d3] }
  | _ => none }
def ShelfKeepsWrongFalsely : Prop := shelfKeepsRow.holds Tryz.pinned (OpenSpec.ofChange shelfKeepsWrong)

/-- 'reliquarylaw.ShelfPacks': WHATEVER THE INPUT: true; the input reads as it did. -/
def shelfPacksSpec : ChangeSpec := { name := "shelfPacks", fn := fun _ => fun
  | [d] => { results := [.lit (.bool true)], args := [d] }
  | _ => none }
def shelfPacksRow : OpenClaim := { program := "ytabdianhoabhhaagreatdoor", sum := "c939b7c9df9bc394e2832a51c93611f4699e8cfd1f051c8e7d461d9a218484a5", func := "reliquary/reliquarylaw.ShelfPacks", spec := "shelfPacks", inPlace := ["internal/bytealg.CountString", "internal/bytealg.IndexByteString", "internal/bytealg.IndexString", "internal/bytealg.abigen_runtime_cmpstring", "internal/bytealg.Compare"], unfollowed := true, recurses := true, named := ["unicode/utf8.first", "unicode/utf8.acceptRanges", "internal/bytealg.MaxLen"], plainKeys := false, apart := false, laid := [("unicode/utf8.acceptRanges", laid_unicode_utf8_acceptRanges), ("unicode/utf8.first", laid_unicode_utf8_first)] }
def ShelfPacksSaid : Prop := shelfPacksRow.holds Tryz.pinned (OpenSpec.ofChange shelfPacksSpec)

/-- ITS FALSE NEIGHBOUR: 'it returns false'. Refute it at one input. -/
def shelfPacksWrong : ChangeSpec := { name := "shelfPacks", fn := fun _ => fun
  | [d] => { results := [.lit (.bool false)], args := [d] }
  | _ => none }
def ShelfPacksWrongFalsely : Prop := shelfPacksRow.holds Tryz.pinned (OpenSpec.ofChange shelfPacksWrong)

/- THE SECOND FORM. 'bulk': how many values and letters a reading holds, each counted each time it is reached (what is shared counts as often as it is met; a slice's spare places count too). A statement '..UptoSaid' is the law's where the arguments, and the package variables that the reading takes, are together of bulk at most 1048576: NARROWER than '..Said'. Prove '..Said' where nothing that the law and all that it calls make is longer than what came in: it says more and counts as full. Else prove '..UptoSaid'. A law counts once. -/
mutual
def uptoBulk {H : Type} : DataW H → Nat
  | .lit (.string bytes) => bytes.length + 1
  | .lit _ => 1
  | .nil => 1
  | .ptr d => uptoBulk d + 1
  | .slice elems spare => uptoBulkAll elems + uptoBulkAll spare + 1
  | .agg parts => uptoBulkAll parts + 1
  | .iface _ d => uptoBulk d + 1
  | .map entries => uptoBulkEntries entries + 1
  | .held _ => 1
def uptoBulkAll {H : Type} : List (DataW H) → Nat
  | [] => 0
  | d :: r => uptoBulk d + uptoBulkAll r
def uptoBulkEntries {H : Type} : List (Lit × DataW H) → Nat
  | [] => 0
  | x :: r => uptoBulkEntry x + uptoBulkEntries r
def uptoBulkEntry {H : Type} : Lit × DataW H → Nat
  | (.string bytes, d) => bytes.length + uptoBulk d + 1
  | (_, d) => uptoBulk d + 1
 end
def uptoSmall : (H : Type) → List (DataW H) → Bool := fun _ ds => decide (uptoBulkAll ds ≤ 1048576)
def OpenSpec.upto (s : _root_.Go.ChangeSpec) : _root_.Go.OpenSpec := { _root_.Go.OpenSpec.ofChange s with cond := some uptoSmall }

/-- 'reliquarylaw.ZipBack', WHERE WHAT IT READS IS OF BULK AT MOST 1048576: true; the input reads as it did. -/
def zipBackUptoRow : OpenClaim := { program := "ytabdianhoabhhaagreatdoor", sum := "c939b7c9df9bc394e2832a51c93611f4699e8cfd1f051c8e7d461d9a218484a5", func := "reliquary/reliquarylaw.ZipBack", spec := "zipBack", inPlace := ["internal/bytealg.CountString", "internal/bytealg.IndexByteString", "internal/bytealg.IndexString"], unfollowed := true, recurses := true, named := ["unicode/utf8.first", "unicode/utf8.acceptRanges", "internal/bytealg.MaxLen"], plainKeys := false, apart := false, laid := [("unicode/utf8.acceptRanges", laid_unicode_utf8_acceptRanges), ("unicode/utf8.first", laid_unicode_utf8_first)], narrowed := true }
def ZipBackUptoSaid : Prop := zipBackUptoRow.holds Tryz.pinned (OpenSpec.upto zipBackSpec)

/-- 'reliquarylaw.ZipAgain', WHERE WHAT IT READS IS OF BULK AT MOST 1048576: true; the input reads as it did. -/
def zipAgainUptoRow : OpenClaim := { program := "ytabdianhoabhhaagreatdoor", sum := "c939b7c9df9bc394e2832a51c93611f4699e8cfd1f051c8e7d461d9a218484a5", func := "reliquary/reliquarylaw.ZipAgain", spec := "zipAgain", inPlace := ["internal/bytealg.CountString", "internal/bytealg.IndexByteString", "internal/bytealg.IndexString"], unfollowed := true, recurses := true, named := ["unicode/utf8.first", "unicode/utf8.acceptRanges", "internal/bytealg.MaxLen"], plainKeys := false, apart := false, laid := [("unicode/utf8.acceptRanges", laid_unicode_utf8_acceptRanges), ("unicode/utf8.first", laid_unicode_utf8_first)], narrowed := true }
def ZipAgainUptoSaid : Prop := zipAgainUptoRow.holds Tryz.pinned (OpenSpec.upto zipAgainSpec)

/-- 'reliquarylaw.ZipWrite', WHERE WHAT IT READS IS OF BULK AT MOST 1048576: true; the input reads as it did. -/
def zipWriteUptoRow : OpenClaim := { program := "ytabdianhoabhhaagreatdoor", sum := "c939b7c9df9bc394e2832a51c93611f4699e8cfd1f051c8e7d461d9a218484a5", func := "reliquary/reliquarylaw.ZipWrite", spec := "zipWrite", inPlace := ["internal/bytealg.CountString", "internal/bytealg.IndexByteString", "internal/bytealg.IndexString", "internal/abi.NoEscape", "internal/reflectlite.ValueOf", "internal/reflectlite.Swapper", "(internal/reflectlite.Value).Len", "internal/bytealg.MakeNoZero"], unfollowed := true, recurses := true, named := ["unicode/utf8.first", "unicode/utf8.acceptRanges", "internal/bytealg.MaxLen"], plainKeys := false, apart := false, laid := [("unicode/utf8.acceptRanges", laid_unicode_utf8_acceptRanges), ("unicode/utf8.first", laid_unicode_utf8_first)], narrowed := true }
def ZipWriteUptoSaid : Prop := zipWriteUptoRow.holds Tryz.pinned (OpenSpec.upto zipWriteSpec)

/-- 'reliquarylaw.ZipRead', WHERE WHAT IT READS IS OF BULK AT MOST 1048576: true; the input reads as it did. -/
def zipReadUptoRow : OpenClaim := { program := "ytabdianhoabhhaagreatdoor", sum := "c939b7c9df9bc394e2832a51c93611f4699e8cfd1f051c8e7d461d9a218484a5", func := "reliquary/reliquarylaw.ZipRead", spec := "zipRead", inPlace := ["internal/bytealg.CountString", "internal/bytealg.IndexByteString", "internal/bytealg.IndexString", "internal/abi.NoEscape", "internal/reflectlite.ValueOf", "internal/reflectlite.Swapper", "(internal/reflectlite.Value).Len", "internal/bytealg.MakeNoZero"], unfollowed := true, recurses := true, named := ["unicode/utf8.first", "unicode/utf8.acceptRanges", "internal/bytealg.MaxLen"], plainKeys := false, apart := false, laid := [("unicode/utf8.acceptRanges", laid_unicode_utf8_acceptRanges), ("unicode/utf8.first", laid_unicode_utf8_first)], narrowed := true }
def ZipReadUptoSaid : Prop := zipReadUptoRow.holds Tryz.pinned (OpenSpec.upto zipReadSpec)

/-- 'reliquarylaw.ShelfAdd', WHERE WHAT IT READS IS OF BULK AT MOST 1048576: true; the input reads as it did. -/
def shelfAddUptoRow : OpenClaim := { program := "ytabdianhoabhhaagreatdoor", sum := "c939b7c9df9bc394e2832a51c93611f4699e8cfd1f051c8e7d461d9a218484a5", func := "reliquary/reliquarylaw.ShelfAdd", spec := "shelfAdd", inPlace := ["internal/bytealg.CountString", "internal/bytealg.IndexByteString", "internal/bytealg.IndexString", "internal/bytealg.abigen_runtime_cmpstring", "internal/bytealg.Compare", "internal/abi.NoEscape", "internal/reflectlite.ValueOf", "internal/reflectlite.Swapper", "(internal/reflectlite.Value).Len", "internal/bytealg.MakeNoZero"], unfollowed := true, recurses := true, named := ["unicode/utf8.first", "unicode/utf8.acceptRanges", "internal/bytealg.MaxLen"], plainKeys := false, apart := false, laid := [("unicode/utf8.acceptRanges", laid_unicode_utf8_acceptRanges), ("unicode/utf8.first", laid_unicode_utf8_first)], narrowed := true }
def ShelfAddUptoSaid : Prop := shelfAddUptoRow.holds Tryz.pinned (OpenSpec.upto shelfAddSpec)

/-- 'reliquarylaw.ShelfCut', WHERE WHAT IT READS IS OF BULK AT MOST 1048576: true; the input reads as it did. -/
def shelfCutUptoRow : OpenClaim := { program := "ytabdianhoabhhaagreatdoor", sum := "c939b7c9df9bc394e2832a51c93611f4699e8cfd1f051c8e7d461d9a218484a5", func := "reliquary/reliquarylaw.ShelfCut", spec := "shelfCut", inPlace := ["internal/bytealg.CountString", "internal/bytealg.IndexByteString", "internal/bytealg.IndexString", "internal/bytealg.abigen_runtime_cmpstring", "internal/bytealg.Compare", "internal/abi.NoEscape", "internal/reflectlite.ValueOf", "internal/reflectlite.Swapper", "(internal/reflectlite.Value).Len", "internal/bytealg.MakeNoZero"], unfollowed := true, recurses := true, named := ["unicode/utf8.first", "unicode/utf8.acceptRanges", "internal/bytealg.MaxLen"], plainKeys := false, apart := false, laid := [("unicode/utf8.acceptRanges", laid_unicode_utf8_acceptRanges), ("unicode/utf8.first", laid_unicode_utf8_first)], narrowed := true }
def ShelfCutUptoSaid : Prop := shelfCutUptoRow.holds Tryz.pinned (OpenSpec.upto shelfCutSpec)

/-- 'reliquarylaw.ShelfBegins', WHERE WHAT IT READS IS OF BULK AT MOST 1048576: true; the input reads as it did. -/
def shelfBeginsUptoRow : OpenClaim := { program := "ytabdianhoabhhaagreatdoor", sum := "c939b7c9df9bc394e2832a51c93611f4699e8cfd1f051c8e7d461d9a218484a5", func := "reliquary/reliquarylaw.ShelfBegins", spec := "shelfBegins", inPlace := ["internal/bytealg.CountString", "internal/bytealg.IndexByteString", "internal/bytealg.IndexString", "internal/bytealg.abigen_runtime_cmpstring", "internal/bytealg.Compare"], unfollowed := true, recurses := true, named := ["unicode/utf8.first", "unicode/utf8.acceptRanges", "internal/bytealg.MaxLen"], plainKeys := false, apart := false, laid := [("unicode/utf8.acceptRanges", laid_unicode_utf8_acceptRanges), ("unicode/utf8.first", laid_unicode_utf8_first)], narrowed := true }
def ShelfBeginsUptoSaid : Prop := shelfBeginsUptoRow.holds Tryz.pinned (OpenSpec.upto shelfBeginsSpec)

/-- 'reliquarylaw.ShelfKeeps', WHERE WHAT IT READS IS OF BULK AT MOST 1048576: true; the input reads as it did. -/
def shelfKeepsUptoRow : OpenClaim := { program := "ytabdianhoabhhaagreatdoor", sum := "c939b7c9df9bc394e2832a51c93611f4699e8cfd1f051c8e7d461d9a218484a5", func := "reliquary/reliquarylaw.ShelfKeeps", spec := "shelfKeeps", inPlace := ["internal/bytealg.CountString", "internal/bytealg.IndexByteString", "internal/bytealg.IndexString", "internal/bytealg.abigen_runtime_cmpstring", "internal/bytealg.Compare"], unfollowed := true, recurses := true, named := ["unicode/utf8.first", "unicode/utf8.acceptRanges", "internal/bytealg.MaxLen"], plainKeys := false, apart := false, laid := [("unicode/utf8.acceptRanges", laid_unicode_utf8_acceptRanges), ("unicode/utf8.first", laid_unicode_utf8_first)], narrowed := true }
def ShelfKeepsUptoSaid : Prop := shelfKeepsUptoRow.holds Tryz.pinned (OpenSpec.upto shelfKeepsSpec)

/-- 'reliquarylaw.ShelfPacks', WHERE WHAT IT READS IS OF BULK AT MOST 1048576: true; the input reads as it did. -/
def shelfPacksUptoRow : OpenClaim := { program := "ytabdianhoabhhaagreatdoor", sum := "c939b7c9df9bc394e2832a51c93611f4699e8cfd1f051c8e7d461d9a218484a5", func := "reliquary/reliquarylaw.ShelfPacks", spec := "shelfPacks", inPlace := ["internal/bytealg.CountString", "internal/bytealg.IndexByteString", "internal/bytealg.IndexString", "internal/bytealg.abigen_runtime_cmpstring", "internal/bytealg.Compare"], unfollowed := true, recurses := true, named := ["unicode/utf8.first", "unicode/utf8.acceptRanges", "internal/bytealg.MaxLen"], plainKeys := false, apart := false, laid := [("unicode/utf8.acceptRanges", laid_unicode_utf8_acceptRanges), ("unicode/utf8.first", laid_unicode_utf8_first)], narrowed := true }
def ShelfPacksUptoSaid : Prop := shelfPacksUptoRow.holds Tryz.pinned (OpenSpec.upto shelfPacksSpec)

end Rows
end Go.Proofs.YtabdianhoabhhaaGreatDoor
