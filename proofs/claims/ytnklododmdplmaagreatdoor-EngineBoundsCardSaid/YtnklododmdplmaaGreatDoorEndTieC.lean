/- A closed fact of the program's tie. No conditions. -/
import Derived.Test.YtnklododmdplmaaGreatDoorEndTieA
namespace Go.Proofs.YtnklododmdplmaaGreatDoor
open Go
theorem tie_h1 : ∀ os tape, (DataW.laidRun Tryz.prog (varsWorld Tryz.prog 400 (varsId Tryz.prog) os tape).memory 8 (tiePlain.map (·.1))).map (·.1) = some tiePlain := fun _ _ => by rw [tie_vars]; kernel_rfl
end Go.Proofs.YtnklododmdplmaaGreatDoor
