/- The row of 'jacquardlaw24.ExecNil' is of a function of its own. No conditions. -/
import Derived.Test.YtaakjjddlbdicaaGreatDoorRows
import Derived.ProofKit
import Derived.Stop.Joined
namespace Go.Proofs.YtaakjjddlbdicaaGreatDoor.execNil
open Go

theorem named3 : Tryz.pinned.checked.prog.funcNamed Rows.execNilRow.func = some 3 := by kernel_rfl
theorem noInit3 : Tryz.checked.prog.inits.idxOf? 3 = none := by kernel_rfl

set_option maxHeartbeats 4000000 in
theorem inst3 : Tryz.f3.isInstance Tryz.pinned.checked.prog Rows.execNilRow.origin Rows.execNilRow.targs := of_decide_eq_true (by kernel_rfl)

set_option maxHeartbeats 4000000 in
theorem wrap3 : Tryz.f3.isWrapper Tryz.pinned.checked.prog Rows.execNilRow.wrapper Rows.execNilRow.mainSum := by
  unfold Func.isWrapper
  first | (rw [if_pos (by decide +kernel)]; kernel_rfl) | (rw [if_neg (by decide +kernel)]; exact ⟨rfl, rfl⟩)

end Go.Proofs.YtaakjjddlbdicaaGreatDoor.execNil
