/- The closed run 'works' of 'jacquardlaw27' is true. No conditions. -/
import Derived.Test.YthcnjmgdmcgflaaGreatDoorEndEnv
namespace Go.Proofs.YthcnjmgdmcgflaaGreatDoor.ends
open Go.Ev

set_option maxRecDepth 100000 in
theorem run_works (τ : Nat → Nat) : callK env 100000 100 20 [] (startK env.ng (typed tabs τ)) isTrueK = true := by kernel_rfl

theorem sum_works : ∀ f ∈ [20], SumOk env Tryz.prog tabs f := fun f hf => by
  obtain rfl : f = 20 := by simpa using hf
  exact sumOk_of_run env_ok tabs_lt2 run_works

end Go.Proofs.YthcnjmgdmcgflaaGreatDoor.ends
