/- The row of 'jacquardlaw26.EngineBounds' has its computed cells, and is of a function of its own. No conditions. -/
import Derived.Test.YtnklododmdplmaaGreatDoorEndEngineBoundsFactA
import Derived.Test.YtnklododmdplmaaGreatDoorEndEngineBoundsFactE
import Derived.Test.YtnklododmdplmaaGreatDoorEndEngineBoundsFactF
import Derived.ProofKit
import Derived.Stop.Joined
namespace Go.Proofs.YtnklododmdplmaaGreatDoor.engineBounds
open Go

set_option maxRecDepth 1000000 in
theorem maps_ok : (Rows.engineBoundsRow.maps == (Tryz.f3.params.toList ++ DataSpec.varTypes Tryz.prog Rows.engineBoundsSpec.plain).any fun x => Tryz.prog.mapsRec x) = true := by kernel_rfl

set_option maxRecDepth 1000000 in
theorem ifaces_ok : (Rows.engineBoundsRow.ifaces == (Tryz.f3.params.toList ++ DataSpec.varTypes Tryz.prog Rows.engineBoundsSpec.plain).any fun x => Tryz.prog.ifacesRec x) = true := by kernel_rfl

set_option maxRecDepth 1000000 in
theorem loops_ok : (Rows.engineBoundsRow.loops == (Tryz.f3.params.toList ++ DataSpec.varTypes Tryz.prog Rows.engineBoundsSpec.plain).any fun x => Tryz.prog.loopsFrom x) = true := by kernel_rfl

set_option maxRecDepth 1000000 in
theorem wideKeys_ok : (Rows.engineBoundsRow.wideKeys == (Tryz.f3.params.toList ++ DataSpec.varTypes Tryz.prog Rows.engineBoundsSpec.plain ++ Tryz.f3.resultTypes.toList).any fun x => Tryz.prog.wideKeysFrom x) = true := by kernel_rfl

set_option maxRecDepth 1000000 in
theorem veiled_ok : (Rows.engineBoundsRow.veiled == (Tryz.f3.params.toList ++ DataSpec.varTypes Tryz.prog Rows.engineBoundsSpec.plain ++ Tryz.f3.resultTypes.toList).any fun x => Tryz.prog.veiledRec x) = true := by kernel_rfl

set_option maxRecDepth 1000000 in
theorem veiledFits_ok : Rows.engineBoundsRow.veiledFits Tryz.prog Tryz.f3.params.toList (Tryz.f3.params.toList ++ DataSpec.varTypes Tryz.prog Rows.engineBoundsSpec.plain ++ Tryz.f3.resultTypes.toList) = true := by kernel_rfl

set_option maxRecDepth 1000000 in
theorem facts : joinedFacts Tryz.prog 3 Tryz.f3 Rows.engineBoundsSpec Rows.engineBoundsRow = true := by
  unfold joinedFacts
  rw [inPlace_ok, unfollowed_ok, recurses_ok, named_ok, laidOut_ok, mapsRowed_ok, plainKeys_ok, lifted_ok, stopsHeard_ok, wf_ok, mayEnter_ok, maps_ok, ifaces_ok, loops_ok, wideKeys_ok, veiled_ok, veiledFits_ok]
  kernel_rfl

theorem namedIs : Tryz.pinned.checked.prog.funcNamed Rows.engineBoundsRow.func = some 3 := by kernel_rfl
theorem noInit : Tryz.checked.prog.inits.idxOf? 3 = none := by kernel_rfl

set_option maxHeartbeats 4000000 in
theorem inst : Tryz.f3.isInstance Tryz.pinned.checked.prog Rows.engineBoundsRow.origin Rows.engineBoundsRow.targs := of_decide_eq_true (by kernel_rfl)

set_option maxHeartbeats 4000000 in
theorem wrap : Tryz.f3.isWrapper Tryz.pinned.checked.prog Rows.engineBoundsRow.wrapper Rows.engineBoundsRow.mainSum := by
  unfold Func.isWrapper
  first | (rw [if_pos (by decide +kernel)]; kernel_rfl) | (rw [if_neg (by decide +kernel)]; exact ⟨rfl, rfl⟩)

end Go.Proofs.YtnklododmdplmaaGreatDoor.engineBounds
