/-
  DERIVED. GIVEN WITH THE SEED: THE CARDS: each row of YtdoegpklephelaaDoorRows.lean that lists a variable, with what it lists TIED to the program's text (the seventh form; the later family's looks); each row that meets fmt, with fmt's text TOLD by the authors' own Lean function (tested against real Go, not proved from fmt's source: count such statements apart). THE CARD IS WHAT COUNTS. Prove the row's statement (the work); the ties are given (YtdoegpklephelaaDoorTie.lean); close each card by the builder's one call (the guide's Derived/Test/ToyasCard.lean, 'card_holds'). Laid BY PROGRAM, IN A SANDBOX (cutbox-door.mjs). By AI agents, Wed Nov 11 2026. No macro, syntax, notation, axiom, sorry.
-/
import Derived.Test.YtdoegpklephelaaDoorRows
import GoSem.ClaimSeven
namespace Go.Proofs.YtdoegpklephelaaDoor
namespace Rows

/-- THE TIED CARD OF 'reliquarylaw.MergeOrder'. -/
def mergeOrderCard : Claim7 := { stood := { row := mergeOrderRow, standIns := [], harness := (true, "184438b152c47a35b8f2c4c9556f6f27a91df727c63a481df3b6d43b7a111528"), looks := false }, kinds := [], alts := [], laidByText := true, laidKinds := [.data, .pinned], laidTests := true, laidLooks := .later }
def MergeOrderCardSaid : Prop := Claim7.holds Tryd.pinned (.plain (OpenSpec.ofChange mergeOrderSpec)) mergeOrderCard

/-- THE TIED CARD OF 'reliquarylaw.MergeLess'. -/
def mergeLessCard : Claim7 := { stood := { row := mergeLessRow, standIns := [], harness := (true, "184438b152c47a35b8f2c4c9556f6f27a91df727c63a481df3b6d43b7a111528"), looks := false }, kinds := [], alts := [], laidByText := true, laidKinds := [.data, .pinned], laidTests := true, laidLooks := .later }
def MergeLessCardSaid : Prop := Claim7.holds Tryd.pinned (.plain (OpenSpec.ofChange mergeLessSpec)) mergeLessCard

/-- THE TIED CARD OF 'reliquarylaw.MergeShown'. -/
def mergeShownCard : Claim7 := { stood := { row := mergeShownRow, standIns := [], harness := (true, "184438b152c47a35b8f2c4c9556f6f27a91df727c63a481df3b6d43b7a111528"), looks := false }, kinds := [], alts := [], laidByText := true, laidKinds := [.data, .pinned], laidTests := true, laidLooks := .later }
def MergeShownCardSaid : Prop := Claim7.holds Tryd.pinned (.plain (OpenSpec.ofChange mergeShownSpec)) mergeShownCard

/-- THE TIED CARD OF 'reliquarylaw.MergeBoth'. -/
def mergeBothCard : Claim7 := { stood := { row := mergeBothRow, standIns := [], harness := (true, "184438b152c47a35b8f2c4c9556f6f27a91df727c63a481df3b6d43b7a111528"), looks := false }, kinds := [], alts := [], laidByText := true, laidKinds := [.data, .pinned], laidTests := true, laidLooks := .later }
def MergeBothCardSaid : Prop := Claim7.holds Tryd.pinned (.plain (OpenSpec.ofChange mergeBothSpec)) mergeBothCard

/-- THE TIED CARD OF 'reliquarylaw.WorldGrows'. -/
def worldGrowsCard : Claim7 := { stood := { row := worldGrowsRow, standIns := [], harness := (true, "184438b152c47a35b8f2c4c9556f6f27a91df727c63a481df3b6d43b7a111528"), looks := false }, kinds := [], alts := [], laidByText := true, laidKinds := [.data, .pinned], laidTests := true, laidLooks := .later }
def WorldGrowsCardSaid : Prop := Claim7.holds Tryd.pinned (.plain (OpenSpec.ofChange worldGrowsSpec)) worldGrowsCard

/-- THE TIED CARD OF 'reliquarylaw.WorldOrder'. -/
def worldOrderCard : Claim7 := { stood := { row := worldOrderRow, standIns := [], harness := (true, "184438b152c47a35b8f2c4c9556f6f27a91df727c63a481df3b6d43b7a111528"), looks := false }, kinds := [], alts := [], laidByText := true, laidKinds := [.data, .pinned], laidTests := true, laidLooks := .later }
def WorldOrderCardSaid : Prop := Claim7.holds Tryd.pinned (.plain (OpenSpec.ofChange worldOrderSpec)) worldOrderCard

/-- THE TIED CARD OF 'reliquarylaw.WorldNet'. -/
def worldNetCard : Claim7 := { stood := { row := worldNetRow, standIns := [], harness := (true, "184438b152c47a35b8f2c4c9556f6f27a91df727c63a481df3b6d43b7a111528"), looks := false }, kinds := [], alts := [], laidByText := true, laidKinds := [.data, .pinned], laidTests := true, laidLooks := .later }
def WorldNetCardSaid : Prop := Claim7.holds Tryd.pinned (.plain (OpenSpec.ofChange worldNetSpec)) worldNetCard

/-- THE TIED CARD OF 'reliquarylaw.WorldLast'. -/
def worldLastCard : Claim7 := { stood := { row := worldLastRow, standIns := [], harness := (true, "184438b152c47a35b8f2c4c9556f6f27a91df727c63a481df3b6d43b7a111528"), looks := false }, kinds := [], alts := [], laidByText := true, laidKinds := [.data, .pinned], laidTests := true, laidLooks := .later }
def WorldLastCardSaid : Prop := Claim7.holds Tryd.pinned (.plain (OpenSpec.ofChange worldLastSpec)) worldLastCard

/-- THE TIED CARD OF 'reliquarylaw.WorldSettles'. -/
def worldSettlesCard : Claim7 := { stood := { row := worldSettlesRow, standIns := [], harness := (true, "184438b152c47a35b8f2c4c9556f6f27a91df727c63a481df3b6d43b7a111528"), looks := false }, kinds := [], alts := [], laidByText := true, laidKinds := [.data, .pinned], laidTests := true, laidLooks := .later }
def WorldSettlesCardSaid : Prop := Claim7.holds Tryd.pinned (.plain (OpenSpec.ofChange worldSettlesSpec)) worldSettlesCard

/-- THE SECOND FORM's CARD OF 'reliquarylaw.MergeOrder'. -/
def mergeOrderUptoCard : Claim7 := { stood := { row := mergeOrderUptoRow, standIns := [], harness := (true, "184438b152c47a35b8f2c4c9556f6f27a91df727c63a481df3b6d43b7a111528"), looks := false }, kinds := [], alts := [], laidByText := true, laidKinds := [.data, .pinned], laidTests := true, laidLooks := .later }
def MergeOrderUptoCardSaid : Prop := Claim7.holds Tryd.pinned (.plain (OpenSpec.upto mergeOrderSpec)) mergeOrderUptoCard

/-- THE SECOND FORM's CARD OF 'reliquarylaw.MergeLess'. -/
def mergeLessUptoCard : Claim7 := { stood := { row := mergeLessUptoRow, standIns := [], harness := (true, "184438b152c47a35b8f2c4c9556f6f27a91df727c63a481df3b6d43b7a111528"), looks := false }, kinds := [], alts := [], laidByText := true, laidKinds := [.data, .pinned], laidTests := true, laidLooks := .later }
def MergeLessUptoCardSaid : Prop := Claim7.holds Tryd.pinned (.plain (OpenSpec.upto mergeLessSpec)) mergeLessUptoCard

/-- THE SECOND FORM's CARD OF 'reliquarylaw.MergeShown'. -/
def mergeShownUptoCard : Claim7 := { stood := { row := mergeShownUptoRow, standIns := [], harness := (true, "184438b152c47a35b8f2c4c9556f6f27a91df727c63a481df3b6d43b7a111528"), looks := false }, kinds := [], alts := [], laidByText := true, laidKinds := [.data, .pinned], laidTests := true, laidLooks := .later }
def MergeShownUptoCardSaid : Prop := Claim7.holds Tryd.pinned (.plain (OpenSpec.upto mergeShownSpec)) mergeShownUptoCard

/-- THE SECOND FORM's CARD OF 'reliquarylaw.MergeBoth'. -/
def mergeBothUptoCard : Claim7 := { stood := { row := mergeBothUptoRow, standIns := [], harness := (true, "184438b152c47a35b8f2c4c9556f6f27a91df727c63a481df3b6d43b7a111528"), looks := false }, kinds := [], alts := [], laidByText := true, laidKinds := [.data, .pinned], laidTests := true, laidLooks := .later }
def MergeBothUptoCardSaid : Prop := Claim7.holds Tryd.pinned (.plain (OpenSpec.upto mergeBothSpec)) mergeBothUptoCard

/-- THE SECOND FORM's CARD OF 'reliquarylaw.WorldGrows'. -/
def worldGrowsUptoCard : Claim7 := { stood := { row := worldGrowsUptoRow, standIns := [], harness := (true, "184438b152c47a35b8f2c4c9556f6f27a91df727c63a481df3b6d43b7a111528"), looks := false }, kinds := [], alts := [], laidByText := true, laidKinds := [.data, .pinned], laidTests := true, laidLooks := .later }
def WorldGrowsUptoCardSaid : Prop := Claim7.holds Tryd.pinned (.plain (OpenSpec.upto worldGrowsSpec)) worldGrowsUptoCard

/-- THE SECOND FORM's CARD OF 'reliquarylaw.WorldOrder'. -/
def worldOrderUptoCard : Claim7 := { stood := { row := worldOrderUptoRow, standIns := [], harness := (true, "184438b152c47a35b8f2c4c9556f6f27a91df727c63a481df3b6d43b7a111528"), looks := false }, kinds := [], alts := [], laidByText := true, laidKinds := [.data, .pinned], laidTests := true, laidLooks := .later }
def WorldOrderUptoCardSaid : Prop := Claim7.holds Tryd.pinned (.plain (OpenSpec.upto worldOrderSpec)) worldOrderUptoCard

/-- THE SECOND FORM's CARD OF 'reliquarylaw.WorldNet'. -/
def worldNetUptoCard : Claim7 := { stood := { row := worldNetUptoRow, standIns := [], harness := (true, "184438b152c47a35b8f2c4c9556f6f27a91df727c63a481df3b6d43b7a111528"), looks := false }, kinds := [], alts := [], laidByText := true, laidKinds := [.data, .pinned], laidTests := true, laidLooks := .later }
def WorldNetUptoCardSaid : Prop := Claim7.holds Tryd.pinned (.plain (OpenSpec.upto worldNetSpec)) worldNetUptoCard

/-- THE SECOND FORM's CARD OF 'reliquarylaw.WorldLast'. -/
def worldLastUptoCard : Claim7 := { stood := { row := worldLastUptoRow, standIns := [], harness := (true, "184438b152c47a35b8f2c4c9556f6f27a91df727c63a481df3b6d43b7a111528"), looks := false }, kinds := [], alts := [], laidByText := true, laidKinds := [.data, .pinned], laidTests := true, laidLooks := .later }
def WorldLastUptoCardSaid : Prop := Claim7.holds Tryd.pinned (.plain (OpenSpec.upto worldLastSpec)) worldLastUptoCard

/-- THE SECOND FORM's CARD OF 'reliquarylaw.WorldSettles'. -/
def worldSettlesUptoCard : Claim7 := { stood := { row := worldSettlesUptoRow, standIns := [], harness := (true, "184438b152c47a35b8f2c4c9556f6f27a91df727c63a481df3b6d43b7a111528"), looks := false }, kinds := [], alts := [], laidByText := true, laidKinds := [.data, .pinned], laidTests := true, laidLooks := .later }
def WorldSettlesUptoCardSaid : Prop := Claim7.holds Tryd.pinned (.plain (OpenSpec.upto worldSettlesSpec)) worldSettlesUptoCard
end Rows
end Go.Proofs.YtdoegpklephelaaDoor
