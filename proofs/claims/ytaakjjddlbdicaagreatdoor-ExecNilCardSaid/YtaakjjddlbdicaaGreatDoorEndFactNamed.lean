/- A computed cell of the row of 'jacquardlaw24.ExecNil'. No conditions. -/
import Derived.Test.YtaakjjddlbdicaaGreatDoorRows
import Derived.KernelRfl
namespace Go.Proofs.YtaakjjddlbdicaaGreatDoor.execNil

theorem named_ok : (Rows.execNilRow.named == Tryz.prog.varsNamed 3) = true := by kernel_rfl

end Go.Proofs.YtaakjjddlbdicaaGreatDoor.execNil
