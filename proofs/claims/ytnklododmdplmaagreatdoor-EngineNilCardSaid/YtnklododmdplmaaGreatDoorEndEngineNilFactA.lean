/- Closed facts of the row and the program of 'jacquardlaw26.EngineNil'. No conditions. -/
import Derived.Test.YtnklododmdplmaaGreatDoorRows
import Derived.ProofKit
import Derived.Stop.Joined
import Derived.KernelRfl
import Derived.Test.YtnklododmdplmaaGreatDoorEndClos
namespace Go.Proofs.YtnklododmdplmaaGreatDoor.engineNil
open Go

theorem inPlace_ok : (Rows.engineNilRow.inPlace == Tryz.prog.inPlace 4) = true := by
  unfold Program.inPlace
  rw [clos.closure4]
  kernel_rfl

theorem unfollowed_ok : (Rows.engineNilRow.unfollowed == Tryz.prog.unfollowed 4) = true := by
  unfold Program.unfollowed
  rw [clos.closure4]
  kernel_rfl

theorem recurses_ok : (Rows.engineNilRow.recurses == Tryz.prog.recurses 4) = true := by
  unfold Program.recurses Program.unfollowed
  rw [clos.closure4]
  kernel_rfl

theorem named_ok : (Rows.engineNilRow.named == Tryz.prog.varsNamed 4) = true := by
  unfold Program.varsNamed
  rw [clos.closure4]
  kernel_rfl

end Go.Proofs.YtnklododmdplmaaGreatDoor.engineNil
