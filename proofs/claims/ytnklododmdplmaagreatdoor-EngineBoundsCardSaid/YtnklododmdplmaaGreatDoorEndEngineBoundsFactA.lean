/- Closed facts of the row and the program of 'jacquardlaw26.EngineBounds'. No conditions. -/
import Derived.Test.YtnklododmdplmaaGreatDoorRows
import Derived.ProofKit
import Derived.Stop.Joined
import Derived.KernelRfl
import Derived.Test.YtnklododmdplmaaGreatDoorEndClos
namespace Go.Proofs.YtnklododmdplmaaGreatDoor.engineBounds
open Go

theorem inPlace_ok : (Rows.engineBoundsRow.inPlace == Tryz.prog.inPlace 3) = true := by
  unfold Program.inPlace
  rw [clos.closure3]
  kernel_rfl

theorem unfollowed_ok : (Rows.engineBoundsRow.unfollowed == Tryz.prog.unfollowed 3) = true := by
  unfold Program.unfollowed
  rw [clos.closure3]
  kernel_rfl

theorem recurses_ok : (Rows.engineBoundsRow.recurses == Tryz.prog.recurses 3) = true := by
  unfold Program.recurses Program.unfollowed
  rw [clos.closure3]
  kernel_rfl

theorem named_ok : (Rows.engineBoundsRow.named == Tryz.prog.varsNamed 3) = true := by
  unfold Program.varsNamed
  rw [clos.closure3]
  kernel_rfl

end Go.Proofs.YtnklododmdplmaaGreatDoor.engineBounds
