/- A closed fact of the program's tie. No conditions. -/
import Derived.Test.YtnklododmdplmaaGreatDoorEndTieA
namespace Go.Proofs.YtnklododmdplmaaGreatDoor
open Go
theorem tie_hd : ∀ os tape, varsDone Tryz.prog 400 (varsId Tryz.prog) os tape = true := fun _ _ => by rw [tie_vars]; kernel_rfl
end Go.Proofs.YtnklododmdplmaaGreatDoor
