/- A closed fact of the program's tie. No conditions. -/
import Derived.Test.YthcnjmgdmcgflaaGreatDoorEndTieA
namespace Go.Proofs.YthcnjmgdmcgflaaGreatDoor
open Go
theorem tie_h1 : ∀ os tape, (DataW.laidRun Tryz.prog (varsWorld Tryz.prog 400 (varsId Tryz.prog) os tape).memory 8 (tieLaid.map (·.1))).map (·.1) = some tieLaid := fun _ _ => by kernel_rfl
end Go.Proofs.YthcnjmgdmcgflaaGreatDoor
