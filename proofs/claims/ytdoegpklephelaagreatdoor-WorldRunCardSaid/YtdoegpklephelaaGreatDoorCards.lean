/-
  DERIVED. GIVEN WITH THE SEED: THE CARDS: each row of YtdoegpklephelaaGreatDoorRows.lean that lists a variable, with what it lists TIED to the program's text (the seventh form; the later family's looks); each row that meets fmt, with fmt's text TOLD by the authors' own Lean function (tested against real Go, not proved from fmt's source: count such statements apart). THE CARD IS WHAT COUNTS. Prove the row's statement (the work); the ties are given (YtdoegpklephelaaGreatDoorTie.lean); close each card by the builder's one call (the guide's Derived/Test/ToyasCard.lean, 'card_holds'). Laid BY PROGRAM, IN A SANDBOX (cutbox-door.mjs). By AI agents, Wed Nov 11 2026. No macro, syntax, notation, axiom, sorry.
-/
import Derived.Test.YtdoegpklephelaaGreatDoorRows
import GoSem.ClaimSeven
namespace Go.Proofs.YtdoegpklephelaaGreatDoor
namespace Rows

/-- THE TIED CARD OF 'reliquarylaw.WorldDo'. -/
def worldDoCard : Claim7 := { stood := { row := worldDoRow, standIns := [], harness := (true, "7289be0331e43bba530543c374f15a910c73c9ae7043bd6f71336aceba76dd09"), looks := false }, kinds := [], alts := [], laidByText := true, laidKinds := [.data, .pinned], laidTests := true, laidLooks := .later }
def WorldDoCardSaid : Prop := Claim7.holds Tryz.pinned (.plain (OpenSpec.ofChange worldDoSpec)) worldDoCard

/-- THE TIED CARD OF 'reliquarylaw.WorldRun'. -/
def worldRunCard : Claim7 := { stood := { row := worldRunRow, standIns := [], harness := (true, "7289be0331e43bba530543c374f15a910c73c9ae7043bd6f71336aceba76dd09"), looks := false }, kinds := [], alts := [], laidByText := true, laidKinds := [.data, .pinned], laidTests := true, laidLooks := .later }
def WorldRunCardSaid : Prop := Claim7.holds Tryz.pinned (.plain (OpenSpec.ofChange worldRunSpec)) worldRunCard

/-- THE TIED CARD OF 'reliquarylaw.WorldSettle'. -/
def worldSettleCard : Claim7 := { stood := { row := worldSettleRow, standIns := [], harness := (true, "7289be0331e43bba530543c374f15a910c73c9ae7043bd6f71336aceba76dd09"), looks := false }, kinds := [], alts := [], laidByText := true, laidKinds := [.data, .pinned], laidTests := true, laidLooks := .later }
def WorldSettleCardSaid : Prop := Claim7.holds Tryz.pinned (.plain (OpenSpec.ofChange worldSettleSpec)) worldSettleCard

/-- THE SECOND FORM's CARD OF 'reliquarylaw.WorldDo'. -/
def worldDoUptoCard : Claim7 := { stood := { row := worldDoUptoRow, standIns := [], harness := (true, "7289be0331e43bba530543c374f15a910c73c9ae7043bd6f71336aceba76dd09"), looks := false }, kinds := [], alts := [], laidByText := true, laidKinds := [.data, .pinned], laidTests := true, laidLooks := .later }
def WorldDoUptoCardSaid : Prop := Claim7.holds Tryz.pinned (.plain (OpenSpec.upto worldDoSpec)) worldDoUptoCard

/-- THE SECOND FORM's CARD OF 'reliquarylaw.WorldRun'. -/
def worldRunUptoCard : Claim7 := { stood := { row := worldRunUptoRow, standIns := [], harness := (true, "7289be0331e43bba530543c374f15a910c73c9ae7043bd6f71336aceba76dd09"), looks := false }, kinds := [], alts := [], laidByText := true, laidKinds := [.data, .pinned], laidTests := true, laidLooks := .later }
def WorldRunUptoCardSaid : Prop := Claim7.holds Tryz.pinned (.plain (OpenSpec.upto worldRunSpec)) worldRunUptoCard

/-- THE SECOND FORM's CARD OF 'reliquarylaw.WorldSettle'. -/
def worldSettleUptoCard : Claim7 := { stood := { row := worldSettleUptoRow, standIns := [], harness := (true, "7289be0331e43bba530543c374f15a910c73c9ae7043bd6f71336aceba76dd09"), looks := false }, kinds := [], alts := [], laidByText := true, laidKinds := [.data, .pinned], laidTests := true, laidLooks := .later }
def WorldSettleUptoCardSaid : Prop := Claim7.holds Tryz.pinned (.plain (OpenSpec.upto worldSettleSpec)) worldSettleUptoCard
end Rows
end Go.Proofs.YtdoegpklephelaaGreatDoor
