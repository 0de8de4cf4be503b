/- Closed facts of the row and the program of 'jacquardlaw27.TurnsRefused'. No conditions. -/
import Derived.Test.YthcnjmgdmcgflaaGreatDoorRows
import Derived.ProofKit
import Derived.Stop.Joined
import Derived.KernelRfl
namespace Go.Proofs.YthcnjmgdmcgflaaGreatDoor.turnsRefused
open Go

theorem recurses_ok : (Rows.turnsRefusedRow.recurses == Tryz.prog.recurses 4) = true := by kernel_rfl

end Go.Proofs.YthcnjmgdmcgflaaGreatDoor.turnsRefused
