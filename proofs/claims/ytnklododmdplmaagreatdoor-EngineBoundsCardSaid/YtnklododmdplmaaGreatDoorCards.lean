/-
  DERIVED. GIVEN WITH THE SEED: THE CARDS: each row of YtnklododmdplmaaGreatDoorRows.lean that lists a variable, with what it lists TIED to the program's text (the seventh form; the later family's looks); each row that meets fmt, with fmt's text TOLD by the authors' own Lean function (tested against real Go, not proved from fmt's source: count such statements apart). THE CARD IS WHAT COUNTS. Prove the row's statement (the work); the ties are given (YtnklododmdplmaaGreatDoorTie.lean); close each card by the builder's one call (the guide's Derived/Test/ToyasCard.lean, 'card_holds'). Laid BY PROGRAM, IN A SANDBOX (cutbox-door.mjs). By AI agents, Wed Nov 11 2026. No macro, syntax, notation, axiom, sorry.
-/
import Derived.Test.YtnklododmdplmaaGreatDoorRows
import GoSem.ClaimSeven
namespace Go.Proofs.YtnklododmdplmaaGreatDoor
namespace Rows

/-- THE TIED CARD OF 'jacquardlaw26.EngineBounds'. -/
def engineBoundsCard : Claim7 := { stood := { row := engineBoundsRow, standIns := [], harness := (true, "28d6d61bb73ae3202e17a36f4313da93700a4fe11d6b6c6abad4ae2cd4f260f1"), looks := true }, kinds := [], alts := [], laidByText := true, laidKinds := [.pinned, .data, .data, .listed, .sentinel, .sentinel, .data, .data, .data, .data, .data, .data, .data, .data, .data, .handle], laidTests := true, laidLooks := .later }
def EngineBoundsCardSaid : Prop := Claim7.holds Tryz.pinned (.plain (OpenSpec.ofChange engineBoundsSpec)) engineBoundsCard

/-- THE TIED CARD OF 'jacquardlaw26.EngineNil'. -/
def engineNilCard : Claim7 := { stood := { row := engineNilRow, standIns := [], harness := (true, "28d6d61bb73ae3202e17a36f4313da93700a4fe11d6b6c6abad4ae2cd4f260f1"), looks := true }, kinds := [], alts := [], laidByText := true, laidKinds := [.data, .listed, .pinned, .data, .data, .data, .data, .data, .data, .data, .data, .data, .data, .sentinel, .sentinel, .handle], laidTests := true, laidLooks := .later }
def EngineNilCardSaid : Prop := Claim7.holds Tryz.pinned (.plain (OpenSpec.ofChange engineNilSpec)) engineNilCard

/-- THE SECOND FORM's CARD OF 'jacquardlaw26.EngineBounds'. -/
def engineBoundsUptoCard : Claim7 := { stood := { row := engineBoundsUptoRow, standIns := [], harness := (true, "28d6d61bb73ae3202e17a36f4313da93700a4fe11d6b6c6abad4ae2cd4f260f1"), looks := true }, kinds := [], alts := [], laidByText := true, laidKinds := [.pinned, .data, .data, .listed, .sentinel, .sentinel, .data, .data, .data, .data, .data, .data, .data, .data, .data, .handle], laidTests := true, laidLooks := .later }
def EngineBoundsUptoCardSaid : Prop := Claim7.holds Tryz.pinned (.plain (OpenSpec.upto engineBoundsSpec)) engineBoundsUptoCard

/-- THE SECOND FORM's CARD OF 'jacquardlaw26.EngineNil'. -/
def engineNilUptoCard : Claim7 := { stood := { row := engineNilUptoRow, standIns := [], harness := (true, "28d6d61bb73ae3202e17a36f4313da93700a4fe11d6b6c6abad4ae2cd4f260f1"), looks := true }, kinds := [], alts := [], laidByText := true, laidKinds := [.data, .listed, .pinned, .data, .data, .data, .data, .data, .data, .data, .data, .data, .data, .sentinel, .sentinel, .handle], laidTests := true, laidLooks := .later }
def EngineNilUptoCardSaid : Prop := Claim7.holds Tryz.pinned (.plain (OpenSpec.upto engineNilSpec)) engineNilUptoCard
end Rows
end Go.Proofs.YtnklododmdplmaaGreatDoor
