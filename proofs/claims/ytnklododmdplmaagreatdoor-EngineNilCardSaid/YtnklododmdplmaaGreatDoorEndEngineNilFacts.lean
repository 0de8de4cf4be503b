/- The row of 'jacquardlaw26.EngineNil' has its computed cells, and is of a function of its own. No conditions. -/
import Derived.Test.YtnklododmdplmaaGreatDoorEndEngineNilFactA
import Derived.Test.YtnklododmdplmaaGreatDoorEndEngineNilFactE
import Derived.Test.YtnklododmdplmaaGreatDoorEndEngineNilFactF
import Derived.ProofKit
import Derived.Stop.Joined
namespace Go.Proofs.YtnklododmdplmaaGreatDoor.engineNil
open Go

set_option maxRecDepth 1000000 in
theorem maps_ok : (Rows.engineNilRow.maps == (Tryz.f4.params.toList ++ DataSpec.varTypes Tryz.prog Rows.engineNilSpec.plain).any fun x => Tryz.prog.mapsRec x) = true := by kernel_rfl

set_option maxRecDepth 1000000 in
theorem ifaces_ok : (Rows.engineNilRow.ifaces == (Tryz.f4.params.toList ++ DataSpec.varTypes Tryz.prog Rows.engineNilSpec.plain).any fun x => Tryz.prog.ifacesRec x) = true := by kernel_rfl

set_option maxRecDepth 1000000 in
theorem loops_ok : (Rows.engineNilRow.loops == (Tryz.f4.params.toList ++ DataSpec.varTypes Tryz.prog Rows.engineNilSpec.plain).any fun x => Tryz.prog.loopsFrom x) = true := by kernel_rfl

set_option maxRecDepth 1000000 in
theorem wideKeys_ok : (Rows.engineNilRow.wideKeys == (Tryz.f4.params.toList ++ DataSpec.varTypes Tryz.prog Rows.engineNilSpec.plain ++ Tryz.f4.resultTypes.toList).any fun x => Tryz.prog.wideKeysFrom x) = true := by kernel_rfl

set_option maxRecDepth 1000000 in
theorem veiled_ok : (Rows.engineNilRow.veiled == (Tryz.f4.params.toList ++ DataSpec.varTypes Tryz.prog Rows.engineNilSpec.plain ++ Tryz.f4.resultTypes.toList).any fun x => Tryz.prog.veiledRec x) = true := by kernel_rfl

set_option maxRecDepth 1000000 in
theorem veiledFits_ok : Rows.engineNilRow.veiledFits Tryz.prog Tryz.f4.params.toList (Tryz.f4.params.toList ++ DataSpec.varTypes Tryz.prog Rows.engineNilSpec.plain ++ Tryz.f4.resultTypes.toList) = true := by kernel_rfl

set_option maxRecDepth 1000000 in
theorem facts : joinedFacts Tryz.prog 4 Tryz.f4 Rows.engineNilSpec Rows.engineNilRow = true := by
  unfold joinedFacts
  rw [inPlace_ok, unfollowed_ok, recurses_ok, named_ok, laidOut_ok, mapsRowed_ok, plainKeys_ok, lifted_ok, stopsHeard_ok, wf_ok, mayEnter_ok, maps_ok, ifaces_ok, loops_ok, wideKeys_ok, veiled_ok, veiledFits_ok]
  kernel_rfl

theorem namedIs : Tryz.pinned.checked.prog.funcNamed Rows.engineNilRow.func = some 4 := by kernel_rfl
theorem noInit : Tryz.checked.prog.inits.idxOf? 4 = none := by kernel_rfl

set_option maxHeartbeats 4000000 in
theorem inst : Tryz.f4.isInstance Tryz.pinned.checked.prog Rows.engineNilRow.origin Rows.engineNilRow.targs := of_decide_eq_true (by kernel_rfl)

set_option maxHeartbeats 4000000 in
theorem wrap : Tryz.f4.isWrapper Tryz.pinned.checked.prog Rows.engineNilRow.wrapper Rows.engineNilRow.mainSum := by
  unfold Func.isWrapper
  first | (rw [if_pos (by decide +kernel)]; kernel_rfl) | (rw [if_neg (by decide +kernel)]; exact ⟨rfl, rfl⟩)

end Go.Proofs.YtnklododmdplmaaGreatDoor.engineNil
