/- 'jacquardlaw26.EngineBounds' run by the evaluator, for each class of its bounds. No conditions. -/
import Derived.Test.YtnklododmdplmaaGreatDoorEndEnv
namespace Go.Proofs.YtnklododmdplmaaGreatDoor.ends
open Go.Ev

set_option maxRecDepth 100000 in
theorem run_fuel (τ : Nat) : callKH env 100000 [67] (seqK K) 100 3 [.agg [.rng .i64 (-9223372036854775808) (-1) 20, .opq 21, .opq 22]] (startK (env.ng + 3) (cells0 τ)) isTrueK = true := by kernel_rfl

set_option maxRecDepth 100000 in
theorem run_depth (τ : Nat) : callKH env 100000 [67] (seqK K) 100 3 [.agg [.rng .i64 0 9223372036854775807 20, .rng .i64 (-9223372036854775808) (-1) 21, .opq 22]] (startK (env.ng + 3) (cells0 τ)) isTrueK = true := by kernel_rfl

set_option maxRecDepth 100000 in
theorem run_room (τ : Nat) : callKH env 100000 [67] (seqK K) 100 3 [.agg [.rng .i64 0 9223372036854775807 20, .rng .i64 0 9223372036854775807 21, .rng .i64 (-9223372036854775808) (-1) 22]] (startK (env.ng + 3) (cells0 τ)) isTrueK = true := by kernel_rfl

set_option maxRecDepth 100000 in
theorem run_depth2 (τ : Nat) : callKH env 100000 [67] (seqK K) 100 3 [.agg [.rng .i64 0 9223372036854775807 20, .rng .i64 65537 9223372036854775807 21, .rng .i64 0 9223372036854775807 22]] (startK (env.ng + 3) (cells0 τ)) isTrueK = true := by kernel_rfl

set_option maxRecDepth 100000 in
theorem run_room2 (τ : Nat) : callKH env 100000 [67] (seqK K) 100 3 [.agg [.rng .i64 0 9223372036854775807 20, .rng .i64 0 65536 21, .rng .i64 262145 9223372036854775807 22]] (startK (env.ng + 3) (cells0 τ)) isTrueK = true := by kernel_rfl

set_option maxRecDepth 100000 in
theorem run_may (τ : Nat) : callKH env 100000 [67] (seqK K) 100 3 [.agg [.rng .i64 0 9223372036854775807 20, .rng .i64 0 65536 21, .rng .i64 0 262144 22]] (startK (env.ng + 3) (cells0 τ)) isTrueK = true := by kernel_rfl

end Go.Proofs.YtnklododmdplmaaGreatDoor.ends
