/- The row of 'jacquardlaw24.ExecNil' has its computed cells. No conditions. -/
import Derived.Test.YtaakjjddlbdicaaGreatDoorEndFactInPlace
import Derived.Test.YtaakjjddlbdicaaGreatDoorEndFactUnfollowed
import Derived.Test.YtaakjjddlbdicaaGreatDoorEndFactRecurses
import Derived.Test.YtaakjjddlbdicaaGreatDoorEndFactNamed
import Derived.Test.YtaakjjddlbdicaaGreatDoorEndFacts3
import Derived.Test.YtaakjjddlbdicaaGreatDoorEndFacts4
import Derived.Test.YtaakjjddlbdicaaGreatDoorEndFacts5
import Derived.ProofKit
import Derived.Stop.Joined
namespace Go.Proofs.YtaakjjddlbdicaaGreatDoor.execNil
open Go

theorem facts : joinedFacts Tryz.prog 3 Tryz.f3 Rows.execNilSpec Rows.execNilRow = true := by
  unfold joinedFacts
  rw [inPlace_ok, unfollowed_ok, recurses_ok, named_ok, laidOut_ok, mapsRowed_ok, plainKeys_ok, lifted_ok, stopsHeard_ok, wf_ok, mayEnter_ok]
  kernel_rfl

end Go.Proofs.YtaakjjddlbdicaaGreatDoor.execNil
