/- Closed facts of the row and the program of 'jacquardlaw25.HostNil'. No conditions. -/
import Derived.Test.YthcnjmgdmcgflaaGreatDoorRows
import Derived.ProofKit
import Derived.Stop.Joined
import Derived.KernelRfl
namespace Go.Proofs.YthcnjmgdmcgflaaGreatDoor.hostNil
open Go

theorem recurses_ok : (Rows.hostNilRow.recurses == Tryz.prog.recurses 3) = true := by kernel_rfl

end Go.Proofs.YthcnjmgdmcgflaaGreatDoor.hostNil
