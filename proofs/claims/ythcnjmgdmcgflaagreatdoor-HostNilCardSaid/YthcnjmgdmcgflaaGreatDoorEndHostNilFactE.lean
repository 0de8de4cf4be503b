/- Closed facts of the row and the program of 'jacquardlaw25.HostNil'. No conditions. -/
import Derived.Test.YthcnjmgdmcgflaaGreatDoorRows
import Derived.ProofKit
import Derived.Stop.Joined
import Derived.KernelRfl
import Derived.Test.YthcnjmgdmcgflaaGreatDoorEndOut
namespace Go.Proofs.YthcnjmgdmcgflaaGreatDoor.hostNil
open Go

theorem laidOut_ok : laidOutB Tryz.prog = true := ends.laidOut

theorem mapsRowed_ok : mapsRowed Tryz.prog = true := by kernel_rfl

theorem plainKeys_ok : (Rows.hostNilRow.plainKeys == Tryz.prog.plainKeys) = true := by kernel_rfl

theorem lifted_ok : (Rows.hostNilRow.lifted == Tryz.prog.liftsFinal) = true := by kernel_rfl

end Go.Proofs.YthcnjmgdmcgflaaGreatDoor.hostNil
