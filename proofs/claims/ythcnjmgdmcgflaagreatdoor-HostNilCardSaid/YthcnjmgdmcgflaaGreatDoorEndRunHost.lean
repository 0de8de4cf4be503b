/- 'jacquardlaw25.HostNil' run by the evaluator, for both flags. No conditions. -/
import Derived.Test.YthcnjmgdmcgflaaGreatDoorEndEnv
namespace Go.Proofs.YthcnjmgdmcgflaaGreatDoor.ends
open Go.Ev

set_option maxRecDepth 100000 in
theorem run_host_true (τ : Nat → Nat) :
    callKS env 100000 [11] tabs 100 3 [.opq 18, .opq 19, .agg [.opq 20, .opq 21, .opq 22], .bool true] (startK (env.ng + 5) (typed tabs τ)) isTrueK = true := by kernel_rfl

set_option maxRecDepth 100000 in
theorem run_host_false (τ : Nat → Nat) :
    callKS env 100000 [11] tabs 100 3 [.opq 18, .opq 19, .agg [.opq 20, .opq 21, .opq 22], .bool false] (startK (env.ng + 5) (typed tabs τ)) isTrueK = true := by kernel_rfl

end Go.Proofs.YthcnjmgdmcgflaaGreatDoor.ends
