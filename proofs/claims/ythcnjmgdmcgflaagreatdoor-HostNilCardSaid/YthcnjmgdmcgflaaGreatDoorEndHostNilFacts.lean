/- The row of 'jacquardlaw25.HostNil' has its computed cells, and is of a function of its own. No conditions. -/
import Derived.Test.YthcnjmgdmcgflaaGreatDoorEndHostNilFactA
import Derived.Test.YthcnjmgdmcgflaaGreatDoorEndHostNilFactB
import Derived.Test.YthcnjmgdmcgflaaGreatDoorEndHostNilFactC
import Derived.Test.YthcnjmgdmcgflaaGreatDoorEndHostNilFactD
import Derived.Test.YthcnjmgdmcgflaaGreatDoorEndHostNilFactE
import Derived.Test.YthcnjmgdmcgflaaGreatDoorEndHostNilFactF
import Derived.ProofKit
import Derived.Stop.Joined
namespace Go.Proofs.YthcnjmgdmcgflaaGreatDoor.hostNil
open Go

theorem facts : joinedFacts Tryz.prog 3 Tryz.f3 Rows.hostNilSpec Rows.hostNilRow = true := by
  unfold joinedFacts
  rw [inPlace_ok, unfollowed_ok, recurses_ok, named_ok, laidOut_ok, mapsRowed_ok, plainKeys_ok, lifted_ok, stopsHeard_ok, wf_ok, mayEnter_ok]
  kernel_rfl

theorem namedIs : Tryz.pinned.checked.prog.funcNamed Rows.hostNilRow.func = some 3 := by kernel_rfl
theorem noInit : Tryz.checked.prog.inits.idxOf? 3 = none := by kernel_rfl

set_option maxHeartbeats 4000000 in
theorem inst : Tryz.f3.isInstance Tryz.pinned.checked.prog Rows.hostNilRow.origin Rows.hostNilRow.targs := of_decide_eq_true (by kernel_rfl)

set_option maxHeartbeats 4000000 in
theorem wrap : Tryz.f3.isWrapper Tryz.pinned.checked.prog Rows.hostNilRow.wrapper Rows.hostNilRow.mainSum := by
  unfold Func.isWrapper
  first | (rw [if_pos (by decide +kernel)]; kernel_rfl) | (rw [if_neg (by decide +kernel)]; exact ⟨rfl, rfl⟩)

end Go.Proofs.YthcnjmgdmcgflaaGreatDoor.hostNil
