/-
  DERIVED. GIVEN WITH THE SEED: THE CARDS: each row of YtaakjjddlbdicaaGreatDoorRows.lean that lists a variable, with what it lists TIED to the program's text (the seventh form; the later family's looks); each row that meets fmt, with fmt's text TOLD by the authors' own Lean function (tested against real Go, not proved from fmt's source: count such statements apart). THE CARD IS WHAT COUNTS. Prove the row's statement (the work); the ties are given (YtaakjjddlbdicaaGreatDoorTie.lean); close each card by the builder's one call (the guide's Derived/Test/ToyasCard.lean, 'card_holds'). Laid BY PROGRAM, IN A SANDBOX (cutbox-door.mjs). By AI agents, Wed Nov 11 2026. No macro, syntax, notation, axiom, sorry.
-/
import Derived.Test.YtaakjjddlbdicaaGreatDoorRows
import GoSem.ClaimSeven
namespace Go.Proofs.YtaakjjddlbdicaaGreatDoor
namespace Rows

/-- THE TIED CARD OF 'jacquardlaw24.ExecNil'. -/
def execNilCard : Claim7 := { stood := { row := execNilRow, standIns := [], harness := (true, "0cbc94db1140420acdf98d5c2c71c313c41c145dc0293c4ca9db83e56fceb5ba"), looks := true }, kinds := [], alts := [], laidByText := true, laidKinds := [.data, .listed, .pinned, .data, .data, .data, .data, .data, .data, .data, .data, .data, .data, .sentinel, .sentinel], laidTests := true, laidLooks := .later }
def ExecNilCardSaid : Prop := Claim7.holds Tryz.pinned (.plain (OpenSpec.ofChange execNilSpec)) execNilCard

/-- THE SECOND FORM's CARD OF 'jacquardlaw24.ExecNil'. -/
def execNilUptoCard : Claim7 := { stood := { row := execNilUptoRow, standIns := [], harness := (true, "0cbc94db1140420acdf98d5c2c71c313c41c145dc0293c4ca9db83e56fceb5ba"), looks := true }, kinds := [], alts := [], laidByText := true, laidKinds := [.data, .listed, .pinned, .data, .data, .data, .data, .data, .data, .data, .data, .data, .data, .sentinel, .sentinel], laidTests := true, laidLooks := .later }
def ExecNilUptoCardSaid : Prop := Claim7.holds Tryz.pinned (.plain (OpenSpec.upto execNilSpec)) execNilUptoCard
end Rows
end Go.Proofs.YtaakjjddlbdicaaGreatDoor
