/- 'jacquardlaw26.EngineBounds' returns true for all arguments, and these read as before: the tied card. Conditions: the row's own. -/
import Derived.Test.YtnklododmdplmaaGreatDoorEndTie
import Derived.Test.YtnklododmdplmaaGreatDoorEndEngineBoundsSaid
import Derived.Test.YtnklododmdplmaaGreatDoorEndEngineBoundsWf
namespace Go.Proofs.YtnklododmdplmaaGreatDoor.engineBounds
open Go.ChangeShapes Go.WideShapes Go.ChangeAt Go.RowKit Go.Ev

/-- THE CARD. -/
theorem card : Rows.EngineBoundsCardSaid :=
  Claim7.holds_tied_plain_at .later [] _ _ _ _ said (fun _ h => by cases h) wfByText (fun _ h => by cases h) engineBounds_row_tie rfl ⟨rfl, rfl⟩ (by kernel_rfl) rfl plain goes

end Go.Proofs.YtnklododmdplmaaGreatDoor.engineBounds
