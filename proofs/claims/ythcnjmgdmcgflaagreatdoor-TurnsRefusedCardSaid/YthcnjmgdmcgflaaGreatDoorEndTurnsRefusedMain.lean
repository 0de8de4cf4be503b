/- 'jacquardlaw27.TurnsRefused' returns true for all arguments, and these read as before: the tied card. Conditions: the row's own. -/
import Derived.Test.YthcnjmgdmcgflaaGreatDoorEndTie
import Derived.Test.YthcnjmgdmcgflaaGreatDoorEndTurnsRefusedSaid
import Derived.Test.YthcnjmgdmcgflaaGreatDoorEndTurnsRefusedWf
namespace Go.Proofs.YthcnjmgdmcgflaaGreatDoor.turnsRefused
open Go.ChangeShapes Go.WideShapes Go.ChangeAt Go.RowKit Go.Ev

/-- THE CARD. -/
theorem card : Rows.TurnsRefusedCardSaid :=
  Claim7.holds_tied_plain_at .later [] _ _ _ _ said (fun _ h => by cases h) wfByText (fun _ h => by cases h) turnsRefused_row_tie rfl ⟨rfl, rfl⟩ (by kernel_rfl) rfl plain goes

end Go.Proofs.YthcnjmgdmcgflaaGreatDoor.turnsRefused
