/- 'jacquardlaw24.ExecNil' returns true for every call and both flags, and its arguments read as before: the tied card. Conditions: the row's own. -/
import Derived.Test.YtaakjjddlbdicaaGreatDoorEndTie
import Derived.Test.YtaakjjddlbdicaaGreatDoorEndSaid
import Derived.Test.YtaakjjddlbdicaaGreatDoorEndWf
namespace Go.Proofs.YtaakjjddlbdicaaGreatDoor.execNil
open Go.ChangeShapes Go.WideShapes Go.ChangeAt Go.RowKit Go.Ev

/-- THE CARD. -/
theorem card : Rows.ExecNilCardSaid :=
  Claim7.holds_tied_plain_at .later [] _ _ _ _ said (fun _ h => by cases h) wf (fun _ h => by cases h) execNil_row_tie rfl ⟨rfl, rfl⟩ (by kernel_rfl) rfl plain goes

end Go.Proofs.YtaakjjddlbdicaaGreatDoor.execNil
