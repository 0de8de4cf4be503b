/- Closed facts of the program of 'jacquardlaw24.ExecNil'. No conditions. -/
import Derived.Test.YtaakjjddlbdicaaGreatDoorRows
import Derived.ProofKit
import Derived.Stop.Joined
import Derived.KernelRfl
namespace Go.Proofs.YtaakjjddlbdicaaGreatDoor.execNil
open Go

theorem laidOut_ok : laidOutB Tryz.prog = true := by kernel_rfl

theorem mapsRowed_ok : mapsRowed Tryz.prog = true := by kernel_rfl

theorem plainKeys_ok : (Rows.execNilRow.plainKeys == Tryz.prog.plainKeys) = true := by kernel_rfl

theorem lifted_ok : (Rows.execNilRow.lifted == Tryz.prog.liftsFinal) = true := by kernel_rfl

end Go.Proofs.YtaakjjddlbdicaaGreatDoor.execNil
