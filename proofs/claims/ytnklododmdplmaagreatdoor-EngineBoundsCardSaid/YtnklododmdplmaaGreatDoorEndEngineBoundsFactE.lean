/- Closed facts of the row and the program of 'jacquardlaw26.EngineBounds'. No conditions. -/
import Derived.Test.YtnklododmdplmaaGreatDoorRows
import Derived.ProofKit
import Derived.Stop.Joined
import Derived.KernelRfl
import Derived.Test.YtnklododmdplmaaGreatDoorEndOut
namespace Go.Proofs.YtnklododmdplmaaGreatDoor.engineBounds
open Go

theorem laidOut_ok : laidOutB Tryz.prog = true := ends.laidOut

theorem mapsRowed_ok : mapsRowed Tryz.prog = true := by kernel_rfl

theorem plainKeys_ok : (Rows.engineBoundsRow.plainKeys == Tryz.prog.plainKeys) = true := by kernel_rfl

theorem lifted_ok : (Rows.engineBoundsRow.lifted == Tryz.prog.liftsFinal) = true := by kernel_rfl

end Go.Proofs.YtnklododmdplmaaGreatDoor.engineBounds
