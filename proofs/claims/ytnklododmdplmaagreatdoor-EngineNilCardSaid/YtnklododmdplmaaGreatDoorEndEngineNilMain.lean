/- 'jacquardlaw26.EngineNil' returns true for all arguments, and these read as before: the tied card. Conditions: the row's own. -/
import Derived.Test.YtnklododmdplmaaGreatDoorEndTieN
import Derived.Test.YtnklododmdplmaaGreatDoorEndEngineNilSaid
import Derived.Test.YtnklododmdplmaaGreatDoorEndEngineNilWf
namespace Go.Proofs.YtnklododmdplmaaGreatDoor.engineNil
open Go.ChangeShapes Go.WideShapes Go.ChangeAt Go.RowKit Go.Ev

/-- THE CARD. -/
theorem card : Rows.EngineNilCardSaid :=
  Claim7.holds_tied_plain_at .later [] _ _ _ _ said (fun _ h => by cases h) wfByText (fun _ h => by cases h) engineNil_row_tie rfl ⟨rfl, rfl⟩ (by kernel_rfl) rfl plain goes

end Go.Proofs.YtnklododmdplmaaGreatDoor.engineNil
