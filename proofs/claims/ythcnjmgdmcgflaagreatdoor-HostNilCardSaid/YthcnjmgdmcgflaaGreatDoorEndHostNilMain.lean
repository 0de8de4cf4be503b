/- 'jacquardlaw25.HostNil' returns true for all arguments, and these read as before: the tied card. Conditions: the row's own. -/
import Derived.Test.YthcnjmgdmcgflaaGreatDoorEndTie
import Derived.Test.YthcnjmgdmcgflaaGreatDoorEndHostNilSaid
import Derived.Test.YthcnjmgdmcgflaaGreatDoorEndHostNilWf
namespace Go.Proofs.YthcnjmgdmcgflaaGreatDoor.hostNil
open Go.ChangeShapes Go.WideShapes Go.ChangeAt Go.RowKit Go.Ev

/-- THE CARD. -/
theorem card : Rows.HostNilCardSaid :=
  Claim7.holds_tied_plain_at .later [] _ _ _ _ said (fun _ h => by cases h) wfByText (fun _ h => by cases h) hostNil_row_tie rfl ⟨rfl, rfl⟩ (by kernel_rfl) rfl plain goes

end Go.Proofs.YthcnjmgdmcgflaaGreatDoor.hostNil
