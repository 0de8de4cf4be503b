/- A closed fact of the program's tie. No conditions. -/
import Derived.Test.YtaakjjddlbdicaaGreatDoorEndTieA
namespace Go.Proofs.YtaakjjddlbdicaaGreatDoor
open Go
theorem tie_hd : ∀ os tape, varsDone Tryz.prog 400 (varsId Tryz.prog) os tape = true := fun _ _ => by kernel_rfl
end Go.Proofs.YtaakjjddlbdicaaGreatDoor
