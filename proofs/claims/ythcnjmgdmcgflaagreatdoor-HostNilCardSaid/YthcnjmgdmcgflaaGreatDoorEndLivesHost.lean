/- The closed run 'lives' of 'jacquardlaw25' is true. No conditions. -/
import Derived.Test.YthcnjmgdmcgflaaGreatDoorEndEnv
namespace Go.Proofs.YthcnjmgdmcgflaaGreatDoor.ends
open Go.Ev

set_option maxRecDepth 100000 in
theorem run_lives (τ : Nat → Nat) : callK env 100000 100 11 [] (startK env.ng (typed tabs τ)) isTrueK = true := by kernel_rfl

theorem sum_lives : ∀ f ∈ [11], SumOk env Tryz.prog tabs f := fun f hf => by
  obtain rfl : f = 11 := by simpa using hf
  exact sumOk_of_run env_ok tabs_lt2 run_lives

end Go.Proofs.YthcnjmgdmcgflaaGreatDoor.ends
