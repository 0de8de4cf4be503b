/- Closed facts of the row and the program of 'jacquardlaw26.EngineNil'. No conditions. -/
import Derived.Test.YtnklododmdplmaaGreatDoorRows
import Derived.ProofKit
import Derived.Stop.Joined
import Derived.KernelRfl
namespace Go.Proofs.YtnklododmdplmaaGreatDoor.engineNil
open Go

theorem stopsHeard_ok : Tryz.prog.stopsHeard = true := by kernel_rfl

theorem wf_ok : Rows.engineNilRow.wf (OpenSpec.ofChange Rows.engineNilSpec) = true := by kernel_rfl

theorem mayEnter_ok : Tryz.prog.mayEnter = true := by kernel_rfl

end Go.Proofs.YtnklododmdplmaaGreatDoor.engineNil
