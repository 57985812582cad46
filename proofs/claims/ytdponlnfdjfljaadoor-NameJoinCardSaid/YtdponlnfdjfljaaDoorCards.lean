/-
  DERIVED. GIVEN WITH THE SEED: THE CARDS: each row of YtdponlnfdjfljaaDoorRows.lean that lists a variable, with what it lists TIED to the program's text (the seventh form; the later family's looks); each row that meets fmt, with fmt's text TOLD by the authors' own Lean function (tested against real Go, not proved from fmt's source: count such statements apart). THE CARD IS WHAT COUNTS. Prove the row's statement (the work); the ties are given (YtdponlnfdjfljaaDoorTie.lean); close each card by the builder's one call (the guide's Derived/Test/ToyasCard.lean, 'card_holds'). Laid BY PROGRAM, IN A SANDBOX (cutbox-door.mjs). By AI agents, Wed Nov 11 2026. No macro, syntax, notation, axiom, sorry.
-/
import Derived.Test.YtdponlnfdjfljaaDoorRows
import GoSem.ClaimSeven
namespace Go.Proofs.YtdponlnfdjfljaaDoor
namespace Rows

/-- THE TIED CARD OF 'reliquarylaw.NameWithin'. -/
def nameWithinCard : Claim7 := { stood := { row := nameWithinRow, standIns := [], harness := (true, "e91c2f776ca382cc03930af7ec7433de5beb7fbe82e59cae2db9468683ed7f69"), looks := false }, kinds := [], alts := [], laidByText := true, laidKinds := [.data, .pinned], laidTests := true, laidLooks := .later }
def NameWithinCardSaid : Prop := Claim7.holds Tryd.pinned (.plain (OpenSpec.ofChange nameWithinSpec)) nameWithinCard

/-- THE TIED CARD OF 'reliquarylaw.NameChain'. -/
def nameChainCard : Claim7 := { stood := { row := nameChainRow, standIns := [], harness := (true, "e91c2f776ca382cc03930af7ec7433de5beb7fbe82e59cae2db9468683ed7f69"), looks := false }, kinds := [], alts := [], laidByText := true, laidKinds := [.data, .pinned], laidTests := true, laidLooks := .later }
def NameChainCardSaid : Prop := Claim7.holds Tryd.pinned (.plain (OpenSpec.ofChange nameChainSpec)) nameChainCard

/-- THE TIED CARD OF 'reliquarylaw.NameJoin'. -/
def nameJoinCard : Claim7 := { stood := { row := nameJoinRow, standIns := [], harness := (true, "e91c2f776ca382cc03930af7ec7433de5beb7fbe82e59cae2db9468683ed7f69"), looks := false }, kinds := [], alts := [], laidByText := true, laidKinds := [.data, .pinned], laidTests := true, laidLooks := .later }
def NameJoinCardSaid : Prop := Claim7.holds Tryd.pinned (.plain (OpenSpec.ofChange nameJoinSpec)) nameJoinCard

/-- THE TIED CARD OF 'reliquarylaw.NameParts'. -/
def namePartsCard : Claim7 := { stood := { row := namePartsRow, standIns := [], harness := (true, "e91c2f776ca382cc03930af7ec7433de5beb7fbe82e59cae2db9468683ed7f69"), looks := false }, kinds := [], alts := [], laidByText := true, laidKinds := [.data, .pinned], laidTests := true, laidLooks := .later }
def NamePartsCardSaid : Prop := Claim7.holds Tryd.pinned (.plain (OpenSpec.ofChange namePartsSpec)) namePartsCard

/-- THE SECOND FORM's CARD OF 'reliquarylaw.NameWithin'. -/
def nameWithinUptoCard : Claim7 := { stood := { row := nameWithinUptoRow, standIns := [], harness := (true, "e91c2f776ca382cc03930af7ec7433de5beb7fbe82e59cae2db9468683ed7f69"), looks := false }, kinds := [], alts := [], laidByText := true, laidKinds := [.data, .pinned], laidTests := true, laidLooks := .later }
def NameWithinUptoCardSaid : Prop := Claim7.holds Tryd.pinned (.plain (OpenSpec.upto nameWithinSpec)) nameWithinUptoCard

/-- THE SECOND FORM's CARD OF 'reliquarylaw.NameChain'. -/
def nameChainUptoCard : Claim7 := { stood := { row := nameChainUptoRow, standIns := [], harness := (true, "e91c2f776ca382cc03930af7ec7433de5beb7fbe82e59cae2db9468683ed7f69"), looks := false }, kinds := [], alts := [], laidByText := true, laidKinds := [.data, .pinned], laidTests := true, laidLooks := .later }
def NameChainUptoCardSaid : Prop := Claim7.holds Tryd.pinned (.plain (OpenSpec.upto nameChainSpec)) nameChainUptoCard

/-- THE SECOND FORM's CARD OF 'reliquarylaw.NameJoin'. -/
def nameJoinUptoCard : Claim7 := { stood := { row := nameJoinUptoRow, standIns := [], harness := (true, "e91c2f776ca382cc03930af7ec7433de5beb7fbe82e59cae2db9468683ed7f69"), looks := false }, kinds := [], alts := [], laidByText := true, laidKinds := [.data, .pinned], laidTests := true, laidLooks := .later }
def NameJoinUptoCardSaid : Prop := Claim7.holds Tryd.pinned (.plain (OpenSpec.upto nameJoinSpec)) nameJoinUptoCard

/-- THE SECOND FORM's CARD OF 'reliquarylaw.NameParts'. -/
def namePartsUptoCard : Claim7 := { stood := { row := namePartsUptoRow, standIns := [], harness := (true, "e91c2f776ca382cc03930af7ec7433de5beb7fbe82e59cae2db9468683ed7f69"), looks := false }, kinds := [], alts := [], laidByText := true, laidKinds := [.data, .pinned], laidTests := true, laidLooks := .later }
def NamePartsUptoCardSaid : Prop := Claim7.holds Tryd.pinned (.plain (OpenSpec.upto namePartsSpec)) namePartsUptoCard
end Rows
end Go.Proofs.YtdponlnfdjfljaaDoor
