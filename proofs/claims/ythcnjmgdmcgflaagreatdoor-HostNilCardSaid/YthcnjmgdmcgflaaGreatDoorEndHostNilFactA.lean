/- Closed facts of the row and the program of 'jacquardlaw25.HostNil'. No conditions. -/
import Derived.Test.YthcnjmgdmcgflaaGreatDoorRows
import Derived.ProofKit
import Derived.Stop.Joined
import Derived.KernelRfl
namespace Go.Proofs.YthcnjmgdmcgflaaGreatDoor.hostNil
open Go

theorem inPlace_ok : (Rows.hostNilRow.inPlace == Tryz.prog.inPlace 3) = true := by kernel_rfl

end Go.Proofs.YthcnjmgdmcgflaaGreatDoor.hostNil
