/- A computed cell of the row of 'jacquardlaw24.ExecNil'. No conditions. -/
import Derived.Test.YtaakjjddlbdicaaGreatDoorRows
import Derived.KernelRfl
namespace Go.Proofs.YtaakjjddlbdicaaGreatDoor.execNil

theorem unfollowed_ok : (Rows.execNilRow.unfollowed == Tryz.prog.unfollowed 3) = true := by kernel_rfl

end Go.Proofs.YtaakjjddlbdicaaGreatDoor.execNil
