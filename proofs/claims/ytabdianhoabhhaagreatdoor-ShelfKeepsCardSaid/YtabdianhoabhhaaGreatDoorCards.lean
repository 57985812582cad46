/-
  DERIVED. GIVEN WITH THE SEED: THE CARDS: each row of YtabdianhoabhhaaGreatDoorRows.lean that lists a variable, with what it lists TIED to the program's text (the seventh form; the later family's looks); each row that meets fmt, with fmt's text TOLD by the authors' own Lean function (tested against real Go, not proved from fmt's source: count such statements apart). THE CARD IS WHAT COUNTS. Prove the row's statement (the work); the ties are given (YtabdianhoabhhaaGreatDoorTie.lean); close each card by the builder's one call (the guide's Derived/Test/ToyasCard.lean, 'card_holds'). Laid BY PROGRAM, IN A SANDBOX (cutbox-door.mjs). By AI agents, Wed Nov 11 2026. No macro, syntax, notation, axiom, sorry.
-/
import Derived.Test.YtabdianhoabhhaaGreatDoorRows
import GoSem.ClaimSeven
namespace Go.Proofs.YtabdianhoabhhaaGreatDoor
namespace Rows

/-- THE TIED CARD OF 'reliquarylaw.ZipBack'. -/
def zipBackCard : Claim7 := { stood := { row := zipBackRow, standIns := [], harness := (true, "740fe97c89fa6af71f622a23a208d064acf3a9dbfdeb3b4a0f7d991352dcdbbb"), looks := true }, kinds := [], alts := [], laidByText := true, laidKinds := [.data, .pinned], laidTests := true, laidLooks := .later }
def ZipBackCardSaid : Prop := Claim7.holds Tryz.pinned (.plain (OpenSpec.ofChange zipBackSpec)) zipBackCard

/-- THE TIED CARD OF 'reliquarylaw.ZipAgain'. -/
def zipAgainCard : Claim7 := { stood := { row := zipAgainRow, standIns := [], harness := (true, "740fe97c89fa6af71f622a23a208d064acf3a9dbfdeb3b4a0f7d991352dcdbbb"), looks := true }, kinds := [], alts := [], laidByText := true, laidKinds := [.data, .pinned], laidTests := true, laidLooks := .later }
def ZipAgainCardSaid : Prop := Claim7.holds Tryz.pinned (.plain (OpenSpec.ofChange zipAgainSpec)) zipAgainCard

/-- THE TIED CARD OF 'reliquarylaw.ZipWrite'. -/
def zipWriteCard : Claim7 := { stood := { row := zipWriteRow, standIns := [], harness := (true, "740fe97c89fa6af71f622a23a208d064acf3a9dbfdeb3b4a0f7d991352dcdbbb"), looks := true }, kinds := [], alts := [], laidByText := true, laidKinds := [.data, .pinned], laidTests := true, laidLooks := .later }
def ZipWriteCardSaid : Prop := Claim7.holds Tryz.pinned (.plain (OpenSpec.ofChange zipWriteSpec)) zipWriteCard

/-- THE TIED CARD OF 'reliquarylaw.ZipRead'. -/
def zipReadCard : Claim7 := { stood := { row := zipReadRow, standIns := [], harness := (true, "740fe97c89fa6af71f622a23a208d064acf3a9dbfdeb3b4a0f7d991352dcdbbb"), looks := true }, kinds := [], alts := [], laidByText := true, laidKinds := [.data, .pinned], laidTests := true, laidLooks := .later }
def ZipReadCardSaid : Prop := Claim7.holds Tryz.pinned (.plain (OpenSpec.ofChange zipReadSpec)) zipReadCard

/-- THE TIED CARD OF 'reliquarylaw.ShelfAdd'. -/
def shelfAddCard : Claim7 := { stood := { row := shelfAddRow, standIns := [], harness := (true, "740fe97c89fa6af71f622a23a208d064acf3a9dbfdeb3b4a0f7d991352dcdbbb"), looks := true }, kinds := [], alts := [], laidByText := true, laidKinds := [.data, .pinned], laidTests := true, laidLooks := .later }
def ShelfAddCardSaid : Prop := Claim7.holds Tryz.pinned (.plain (OpenSpec.ofChange shelfAddSpec)) shelfAddCard

/-- THE TIED CARD OF 'reliquarylaw.ShelfCut'. -/
def shelfCutCard : Claim7 := { stood := { row := shelfCutRow, standIns := [], harness := (true, "740fe97c89fa6af71f622a23a208d064acf3a9dbfdeb3b4a0f7d991352dcdbbb"), looks := true }, kinds := [], alts := [], laidByText := true, laidKinds := [.data, .pinned], laidTests := true, laidLooks := .later }
def ShelfCutCardSaid : Prop := Claim7.holds Tryz.pinned (.plain (OpenSpec.ofChange shelfCutSpec)) shelfCutCard

/-- THE TIED CARD OF 'reliquarylaw.ShelfBegins'. -/
def shelfBeginsCard : Claim7 := { stood := { row := shelfBeginsRow, standIns := [], harness := (true, "740fe97c89fa6af71f622a23a208d064acf3a9dbfdeb3b4a0f7d991352dcdbbb"), looks := true }, kinds := [], alts := [], laidByText := true, laidKinds := [.data, .pinned], laidTests := true, laidLooks := .later }
def ShelfBeginsCardSaid : Prop := Claim7.holds Tryz.pinned (.plain (OpenSpec.ofChange shelfBeginsSpec)) shelfBeginsCard

/-- THE TIED CARD OF 'reliquarylaw.ShelfKeeps'. -/
def shelfKeepsCard : Claim7 := { stood := { row := shelfKeepsRow, standIns := [], harness := (true, "740fe97c89fa6af71f622a23a208d064acf3a9dbfdeb3b4a0f7d991352dcdbbb"), looks := true }, kinds := [], alts := [], laidByText := true, laidKinds := [.data, .pinned], laidTests := true, laidLooks := .later }
def ShelfKeepsCardSaid : Prop := Claim7.holds Tryz.pinned (.plain (OpenSpec.ofChange shelfKeepsSpec)) shelfKeepsCard

/-- THE TIED CARD OF 'reliquarylaw.ShelfPacks'. -/
def shelfPacksCard : Claim7 := { stood := { row := shelfPacksRow, standIns := [], harness := (true, "740fe97c89fa6af71f622a23a208d064acf3a9dbfdeb3b4a0f7d991352dcdbbb"), looks := true }, kinds := [], alts := [], laidByText := true, laidKinds := [.data, .pinned], laidTests := true, laidLooks := .later }
def ShelfPacksCardSaid : Prop := Claim7.holds Tryz.pinned (.plain (OpenSpec.ofChange shelfPacksSpec)) shelfPacksCard

/-- THE SECOND FORM's CARD OF 'reliquarylaw.ZipBack'. -/
def zipBackUptoCard : Claim7 := { stood := { row := zipBackUptoRow, standIns := [], harness := (true, "740fe97c89fa6af71f622a23a208d064acf3a9dbfdeb3b4a0f7d991352dcdbbb"), looks := true }, kinds := [], alts := [], laidByText := true, laidKinds := [.data, .pinned], laidTests := true, laidLooks := .later }
def ZipBackUptoCardSaid : Prop := Claim7.holds Tryz.pinned (.plain (OpenSpec.upto zipBackSpec)) zipBackUptoCard

/-- THE SECOND FORM's CARD OF 'reliquarylaw.ZipAgain'. -/
def zipAgainUptoCard : Claim7 := { stood := { row := zipAgainUptoRow, standIns := [], harness := (true, "740fe97c89fa6af71f622a23a208d064acf3a9dbfdeb3b4a0f7d991352dcdbbb"), looks := true }, kinds := [], alts := [], laidByText := true, laidKinds := [.data, .pinned], laidTests := true, laidLooks := .later }
def ZipAgainUptoCardSaid : Prop := Claim7.holds Tryz.pinned (.plain (OpenSpec.upto zipAgainSpec)) zipAgainUptoCard

/-- THE SECOND FORM's CARD OF 'reliquarylaw.ZipWrite'. -/
def zipWriteUptoCard : Claim7 := { stood := { row := zipWriteUptoRow, standIns := [], harness := (true, "740fe97c89fa6af71f622a23a208d064acf3a9dbfdeb3b4a0f7d991352dcdbbb"), looks := true }, kinds := [], alts := [], laidByText := true, laidKinds := [.data, .pinned], laidTests := true, laidLooks := .later }
def ZipWriteUptoCardSaid : Prop := Claim7.holds Tryz.pinned (.plain (OpenSpec.upto zipWriteSpec)) zipWriteUptoCard

/-- THE SECOND FORM's CARD OF 'reliquarylaw.ZipRead'. -/
def zipReadUptoCard : Claim7 := { stood := { row := zipReadUptoRow, standIns := [], harness := (true, "740fe97c89fa6af71f622a23a208d064acf3a9dbfdeb3b4a0f7d991352dcdbbb"), looks := true }, kinds := [], alts := [], laidByText := true, laidKinds := [.data, .pinned], laidTests := true, laidLooks := .later }
def ZipReadUptoCardSaid : Prop := Claim7.holds Tryz.pinned (.plain (OpenSpec.upto zipReadSpec)) zipReadUptoCard

/-- THE SECOND FORM's CARD OF 'reliquarylaw.ShelfAdd'. -/
def shelfAddUptoCard : Claim7 := { stood := { row := shelfAddUptoRow, standIns := [], harness := (true, "740fe97c89fa6af71f622a23a208d064acf3a9dbfdeb3b4a0f7d991352dcdbbb"), looks := true }, kinds := [], alts := [], laidByText := true, laidKinds := [.data, .pinned], laidTests := true, laidLooks := .later }
def ShelfAddUptoCardSaid : Prop := Claim7.holds Tryz.pinned (.plain (OpenSpec.upto shelfAddSpec)) shelfAddUptoCard

/-- THE SECOND FORM's CARD OF 'reliquarylaw.ShelfCut'. -/
def shelfCutUptoCard : Claim7 := { stood := { row := shelfCutUptoRow, standIns := [], harness := (true, "740fe97c89fa6af71f622a23a208d064acf3a9dbfdeb3b4a0f7d991352dcdbbb"), looks := true }, kinds := [], alts := [], laidByText := true, laidKinds := [.data, .pinned], laidTests := true, laidLooks := .later }
def ShelfCutUptoCardSaid : Prop := Claim7.holds Tryz.pinned (.plain (OpenSpec.upto shelfCutSpec)) shelfCutUptoCard

/-- THE SECOND FORM's CARD OF 'reliquarylaw.ShelfBegins'. -/
def shelfBeginsUptoCard : Claim7 := { stood := { row := shelfBeginsUptoRow, standIns := [], harness := (true, "740fe97c89fa6af71f622a23a208d064acf3a9dbfdeb3b4a0f7d991352dcdbbb"), looks := true }, kinds := [], alts := [], laidByText := true, laidKinds := [.data, .pinned], laidTests := true, laidLooks := .later }
def ShelfBeginsUptoCardSaid : Prop := Claim7.holds Tryz.pinned (.plain (OpenSpec.upto shelfBeginsSpec)) shelfBeginsUptoCard

/-- THE SECOND FORM's CARD OF 'reliquarylaw.ShelfKeeps'. -/
def shelfKeepsUptoCard : Claim7 := { stood := { row := shelfKeepsUptoRow, standIns := [], harness := (true, "740fe97c89fa6af71f622a23a208d064acf3a9dbfdeb3b4a0f7d991352dcdbbb"), looks := true }, kinds := [], alts := [], laidByText := true, laidKinds := [.data, .pinned], laidTests := true, laidLooks := .later }
def ShelfKeepsUptoCardSaid : Prop := Claim7.holds Tryz.pinned (.plain (OpenSpec.upto shelfKeepsSpec)) shelfKeepsUptoCard

/-- THE SECOND FORM's CARD OF 'reliquarylaw.ShelfPacks'. -/
def shelfPacksUptoCard : Claim7 := { stood := { row := shelfPacksUptoRow, standIns := [], harness := (true, "740fe97c89fa6af71f622a23a208d064acf3a9dbfdeb3b4a0f7d991352dcdbbb"), looks := true }, kinds := [], alts := [], laidByText := true, laidKinds := [.data, .pinned], laidTests := true, laidLooks := .later }
def ShelfPacksUptoCardSaid : Prop := Claim7.holds Tryz.pinned (.plain (OpenSpec.upto shelfPacksSpec)) shelfPacksUptoCard
end Rows
end Go.Proofs.YtabdianhoabhhaaGreatDoor
