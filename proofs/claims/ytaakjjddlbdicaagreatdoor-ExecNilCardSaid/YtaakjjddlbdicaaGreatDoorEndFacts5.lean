/- Closed facts of the program of 'jacquardlaw24.ExecNil'. No conditions. -/
import Derived.Test.YtaakjjddlbdicaaGreatDoorRows
import Derived.ProofKit
import Derived.Stop.Joined
import Derived.KernelRfl
namespace Go.Proofs.YtaakjjddlbdicaaGreatDoor.execNil
open Go

theorem mayEnter_ok : Tryz.prog.mayEnter = true := by kernel_rfl

end Go.Proofs.YtaakjjddlbdicaaGreatDoor.execNil
