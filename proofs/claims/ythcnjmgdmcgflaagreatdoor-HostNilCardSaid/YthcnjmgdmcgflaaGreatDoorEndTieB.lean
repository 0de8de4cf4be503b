/- A closed fact of the program's tie. No conditions. -/
import Derived.Test.YthcnjmgdmcgflaaGreatDoorEndTieA
namespace Go.Proofs.YthcnjmgdmcgflaaGreatDoor
open Go
theorem tie_hd : ∀ os tape, varsDone Tryz.prog 400 (varsId Tryz.prog) os tape = true := fun _ _ => by kernel_rfl
end Go.Proofs.YthcnjmgdmcgflaaGreatDoor
