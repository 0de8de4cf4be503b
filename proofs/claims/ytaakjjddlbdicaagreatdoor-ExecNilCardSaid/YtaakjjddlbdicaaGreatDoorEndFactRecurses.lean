/- A computed cell of the row of 'jacquardlaw24.ExecNil'. No conditions. -/
import Derived.Test.YtaakjjddlbdicaaGreatDoorRows
import Derived.KernelRfl
namespace Go.Proofs.YtaakjjddlbdicaaGreatDoor.execNil

theorem recurses_ok : (Rows.execNilRow.recurses == Tryz.prog.recurses 3) = true := by kernel_rfl

end Go.Proofs.YtaakjjddlbdicaaGreatDoor.execNil
