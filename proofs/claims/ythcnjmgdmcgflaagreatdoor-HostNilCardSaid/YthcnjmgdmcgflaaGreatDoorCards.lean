/-
  DERIVED. GIVEN WITH THE SEED: THE CARDS: each row of YthcnjmgdmcgflaaGreatDoorRows.lean that lists a variable, with what it lists TIED to the program's text (the seventh form; the later family's looks); each row that meets fmt, with fmt's text TOLD by the authors' own Lean function (tested against real Go, not proved from fmt's source: count such statements apart). THE CARD IS WHAT COUNTS. Prove the row's statement (the work); the ties are given (YthcnjmgdmcgflaaGreatDoorTie.lean); close each card by the builder's one call (the guide's Derived/Test/ToyasCard.lean, 'card_holds'). Laid BY PROGRAM, IN A SANDBOX (cutbox-door.mjs). By AI agents, Wed Nov 11 2026. No macro, syntax, notation, axiom, sorry.
-/
import Derived.Test.YthcnjmgdmcgflaaGreatDoorRows
import GoSem.ClaimSeven
namespace Go.Proofs.YthcnjmgdmcgflaaGreatDoor
namespace Rows

/-- THE TIED CARD OF 'jacquardlaw25.HostNil'. -/
def hostNilCard : Claim7 := { stood := { row := hostNilRow, standIns := [], harness := (true, "e92a1ca5d0f30c602341ed1344c83e1e4198ea70c9ff51dd07ed01e7e40b0c91"), looks := true }, kinds := [], alts := [], laidByText := true, laidKinds := [.data, .listed, .pinned, .data, .data, .data, .data, .data, .data, .data, .data, .data, .data, .sentinel, .sentinel], laidTests := true, laidLooks := .later }
def HostNilCardSaid : Prop := Claim7.holds Tryz.pinned (.plain (OpenSpec.ofChange hostNilSpec)) hostNilCard

/-- THE TIED CARD OF 'jacquardlaw27.TurnsRefused'. -/
def turnsRefusedCard : Claim7 := { stood := { row := turnsRefusedRow, standIns := [], harness := (true, "e92a1ca5d0f30c602341ed1344c83e1e4198ea70c9ff51dd07ed01e7e40b0c91"), looks := true }, kinds := [], alts := [], laidByText := true, laidKinds := [.data, .listed, .pinned, .data, .data, .data, .data, .data, .data, .data, .data, .data, .data, .sentinel, .sentinel], laidTests := true, laidLooks := .later }
def TurnsRefusedCardSaid : Prop := Claim7.holds Tryz.pinned (.plain (OpenSpec.ofChange turnsRefusedSpec)) turnsRefusedCard

/-- THE SECOND FORM's CARD OF 'jacquardlaw25.HostNil'. -/
def hostNilUptoCard : Claim7 := { stood := { row := hostNilUptoRow, standIns := [], harness := (true, "e92a1ca5d0f30c602341ed1344c83e1e4198ea70c9ff51dd07ed01e7e40b0c91"), looks := true }, kinds := [], alts := [], laidByText := true, laidKinds := [.data, .listed, .pinned, .data, .data, .data, .data, .data, .data, .data, .data, .data, .data, .sentinel, .sentinel], laidTests := true, laidLooks := .later }
def HostNilUptoCardSaid : Prop := Claim7.holds Tryz.pinned (.plain (OpenSpec.upto hostNilSpec)) hostNilUptoCard

/-- THE SECOND FORM's CARD OF 'jacquardlaw27.TurnsRefused'. -/
def turnsRefusedUptoCard : Claim7 := { stood := { row := turnsRefusedUptoRow, standIns := [], harness := (true, "e92a1ca5d0f30c602341ed1344c83e1e4198ea70c9ff51dd07ed01e7e40b0c91"), looks := true }, kinds := [], alts := [], laidByText := true, laidKinds := [.data, .listed, .pinned, .data, .data, .data, .data, .data, .data, .data, .data, .data, .data, .sentinel, .sentinel], laidTests := true, laidLooks := .later }
def TurnsRefusedUptoCardSaid : Prop := Claim7.holds Tryz.pinned (.plain (OpenSpec.upto turnsRefusedSpec)) turnsRefusedUptoCard
end Rows
end Go.Proofs.YthcnjmgdmcgflaaGreatDoor
