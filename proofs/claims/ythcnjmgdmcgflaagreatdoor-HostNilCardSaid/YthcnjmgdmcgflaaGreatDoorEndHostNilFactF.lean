/- Closed facts of the row and the program of 'jacquardlaw25.HostNil'. No conditions. -/
import Derived.Test.YthcnjmgdmcgflaaGreatDoorRows
import Derived.ProofKit
import Derived.Stop.Joined
import Derived.KernelRfl
namespace Go.Proofs.YthcnjmgdmcgflaaGreatDoor.hostNil
open Go

theorem stopsHeard_ok : Tryz.prog.stopsHeard = true := by kernel_rfl

theorem wf_ok : Rows.hostNilRow.wf (OpenSpec.ofChange Rows.hostNilSpec) = true := by kernel_rfl

theorem mayEnter_ok : Tryz.prog.mayEnter = true := by kernel_rfl

end Go.Proofs.YthcnjmgdmcgflaaGreatDoor.hostNil
