/- The row of 'jacquardlaw27.TurnsRefused' has its computed cells, and is of a function of its own. No conditions. -/
import Derived.Test.YthcnjmgdmcgflaaGreatDoorEndTurnsRefusedFactA
import Derived.Test.YthcnjmgdmcgflaaGreatDoorEndTurnsRefusedFactB
import Derived.Test.YthcnjmgdmcgflaaGreatDoorEndTurnsRefusedFactC
import Derived.Test.YthcnjmgdmcgflaaGreatDoorEndTurnsRefusedFactD
import Derived.Test.YthcnjmgdmcgflaaGreatDoorEndTurnsRefusedFactE
import Derived.Test.YthcnjmgdmcgflaaGreatDoorEndTurnsRefusedFactF
import Derived.ProofKit
import Derived.Stop.Joined
namespace Go.Proofs.YthcnjmgdmcgflaaGreatDoor.turnsRefused
open Go

theorem facts : joinedFacts Tryz.prog 4 Tryz.f4 Rows.turnsRefusedSpec Rows.turnsRefusedRow = true := by
  unfold joinedFacts
  rw [inPlace_ok, unfollowed_ok, recurses_ok, named_ok, laidOut_ok, mapsRowed_ok, plainKeys_ok, lifted_ok, stopsHeard_ok, wf_ok, mayEnter_ok]
  kernel_rfl

theorem namedIs : Tryz.pinned.checked.prog.funcNamed Rows.turnsRefusedRow.func = some 4 := by kernel_rfl
theorem noInit : Tryz.checked.prog.inits.idxOf? 4 = none := by kernel_rfl

set_option maxHeartbeats 4000000 in
theorem inst : Tryz.f4.isInstance Tryz.pinned.checked.prog Rows.turnsRefusedRow.origin Rows.turnsRefusedRow.targs := of_decide_eq_true (by kernel_rfl)

set_option maxHeartbeats 4000000 in
theorem wrap : Tryz.f4.isWrapper Tryz.pinned.checked.prog Rows.turnsRefusedRow.wrapper Rows.turnsRefusedRow.mainSum := by
  unfold Func.isWrapper
  first | (rw [if_pos (by decide +kernel)]; kernel_rfl) | (rw [if_neg (by decide +kernel)]; exact ⟨rfl, rfl⟩)

end Go.Proofs.YthcnjmgdmcgflaaGreatDoor.turnsRefused
