/- 'jacquardlaw27.TurnsRefused' run by the evaluator, for each class of its numbers and both flags. No conditions. -/
import Derived.Test.YthcnjmgdmcgflaaGreatDoorEndEnv
namespace Go.Proofs.YthcnjmgdmcgflaaGreatDoor.ends
open Go.Ev

set_option maxRecDepth 100000 in
theorem run_n0_w0_true (τ : Nat → Nat) :
    callKS env 100000 [20] tabs 100 4 [(.rng .i64 (-9223372036854775808) (-1) 18), (.rng .i64 (-9223372036854775808) 0 19), (.opq 20), .bool true] (startK (env.ng + 3) (typed tabs τ)) isTrueK = true := by kernel_rfl

set_option maxRecDepth 100000 in
theorem run_n0_w0_false (τ : Nat → Nat) :
    callKS env 100000 [20] tabs 100 4 [(.rng .i64 (-9223372036854775808) (-1) 18), (.rng .i64 (-9223372036854775808) 0 19), (.opq 20), .bool false] (startK (env.ng + 3) (typed tabs τ)) isTrueK = true := by kernel_rfl

set_option maxRecDepth 100000 in
theorem run_n0_w1_true (τ : Nat → Nat) :
    callKS env 100000 [20] tabs 100 4 [(.rng .i64 (-9223372036854775808) (-1) 18), (.rng .i64 9 9223372036854775807 19), (.opq 20), .bool true] (startK (env.ng + 3) (typed tabs τ)) isTrueK = true := by kernel_rfl

set_option maxRecDepth 100000 in
theorem run_n0_w1_false (τ : Nat → Nat) :
    callKS env 100000 [20] tabs 100 4 [(.rng .i64 (-9223372036854775808) (-1) 18), (.rng .i64 9 9223372036854775807 19), (.opq 20), .bool false] (startK (env.ng + 3) (typed tabs τ)) isTrueK = true := by kernel_rfl

set_option maxRecDepth 100000 in
theorem run_n0_w2_true (τ : Nat → Nat) :
    callKS env 100000 [20] tabs 100 4 [(.rng .i64 (-9223372036854775808) (-1) 18), (.rng .i64 1 8 19), (.rng .i64 (-9223372036854775808) (-1) 20), .bool true] (startK (env.ng + 3) (typed tabs τ)) isTrueK = true := by kernel_rfl

set_option maxRecDepth 100000 in
theorem run_n0_w2_false (τ : Nat → Nat) :
    callKS env 100000 [20] tabs 100 4 [(.rng .i64 (-9223372036854775808) (-1) 18), (.rng .i64 1 8 19), (.rng .i64 (-9223372036854775808) (-1) 20), .bool false] (startK (env.ng + 3) (typed tabs τ)) isTrueK = true := by kernel_rfl

set_option maxRecDepth 100000 in
theorem run_n0_w3_true (τ : Nat → Nat) :
    callKS env 100000 [20] tabs 100 4 [(.rng .i64 (-9223372036854775808) (-1) 18), (.rng .i64 1 8 19), (.rng .i64 0 9223372036854775807 20), .bool true] (startK (env.ng + 3) (typed tabs τ)) isTrueK = true := by kernel_rfl

set_option maxRecDepth 100000 in
theorem run_n0_w3_false (τ : Nat → Nat) :
    callKS env 100000 [20] tabs 100 4 [(.rng .i64 (-9223372036854775808) (-1) 18), (.rng .i64 1 8 19), (.rng .i64 0 9223372036854775807 20), .bool false] (startK (env.ng + 3) (typed tabs τ)) isTrueK = true := by kernel_rfl

set_option maxRecDepth 100000 in
theorem run_n1_w0_true (τ : Nat → Nat) :
    callKS env 100000 [20] tabs 100 4 [(.int .i64 0), (.rng .i64 (-9223372036854775808) 0 19), (.opq 20), .bool true] (startK (env.ng + 3) (typed tabs τ)) isTrueK = true := by kernel_rfl

set_option maxRecDepth 100000 in
theorem run_n1_w0_false (τ : Nat → Nat) :
    callKS env 100000 [20] tabs 100 4 [(.int .i64 0), (.rng .i64 (-9223372036854775808) 0 19), (.opq 20), .bool false] (startK (env.ng + 3) (typed tabs τ)) isTrueK = true := by kernel_rfl

set_option maxRecDepth 100000 in
theorem run_n1_w1_true (τ : Nat → Nat) :
    callKS env 100000 [20] tabs 100 4 [(.int .i64 0), (.rng .i64 9 9223372036854775807 19), (.opq 20), .bool true] (startK (env.ng + 3) (typed tabs τ)) isTrueK = true := by kernel_rfl

set_option maxRecDepth 100000 in
theorem run_n1_w1_false (τ : Nat → Nat) :
    callKS env 100000 [20] tabs 100 4 [(.int .i64 0), (.rng .i64 9 9223372036854775807 19), (.opq 20), .bool false] (startK (env.ng + 3) (typed tabs τ)) isTrueK = true := by kernel_rfl

set_option maxRecDepth 100000 in
theorem run_n1_w2_true (τ : Nat → Nat) :
    callKS env 100000 [20] tabs 100 4 [(.int .i64 0), (.rng .i64 1 8 19), (.rng .i64 (-9223372036854775808) (-1) 20), .bool true] (startK (env.ng + 3) (typed tabs τ)) isTrueK = true := by kernel_rfl

set_option maxRecDepth 100000 in
theorem run_n1_w2_false (τ : Nat → Nat) :
    callKS env 100000 [20] tabs 100 4 [(.int .i64 0), (.rng .i64 1 8 19), (.rng .i64 (-9223372036854775808) (-1) 20), .bool false] (startK (env.ng + 3) (typed tabs τ)) isTrueK = true := by kernel_rfl

set_option maxRecDepth 100000 in
theorem run_n1_w3_true (τ : Nat → Nat) :
    callKS env 100000 [20] tabs 100 4 [(.int .i64 0), (.rng .i64 1 8 19), (.rng .i64 0 9223372036854775807 20), .bool true] (startK (env.ng + 3) (typed tabs τ)) isTrueK = true := by kernel_rfl

set_option maxRecDepth 100000 in
theorem run_n1_w3_false (τ : Nat → Nat) :
    callKS env 100000 [20] tabs 100 4 [(.int .i64 0), (.rng .i64 1 8 19), (.rng .i64 0 9223372036854775807 20), .bool false] (startK (env.ng + 3) (typed tabs τ)) isTrueK = true := by kernel_rfl

set_option maxRecDepth 100000 in
theorem run_n2_w0_true (τ : Nat → Nat) :
    callKS env 100000 [20] tabs 100 4 [(.rng .i64 1 9223372036854775807 18), (.rng .i64 (-9223372036854775808) 0 19), (.opq 20), .bool true] (startK (env.ng + 3) (typed tabs τ)) isTrueK = true := by kernel_rfl

set_option maxRecDepth 100000 in
theorem run_n2_w0_false (τ : Nat → Nat) :
    callKS env 100000 [20] tabs 100 4 [(.rng .i64 1 9223372036854775807 18), (.rng .i64 (-9223372036854775808) 0 19), (.opq 20), .bool false] (startK (env.ng + 3) (typed tabs τ)) isTrueK = true := by kernel_rfl

set_option maxRecDepth 100000 in
theorem run_n2_w1_true (τ : Nat → Nat) :
    callKS env 100000 [20] tabs 100 4 [(.rng .i64 1 9223372036854775807 18), (.rng .i64 9 9223372036854775807 19), (.opq 20), .bool true] (startK (env.ng + 3) (typed tabs τ)) isTrueK = true := by kernel_rfl

set_option maxRecDepth 100000 in
theorem run_n2_w1_false (τ : Nat → Nat) :
    callKS env 100000 [20] tabs 100 4 [(.rng .i64 1 9223372036854775807 18), (.rng .i64 9 9223372036854775807 19), (.opq 20), .bool false] (startK (env.ng + 3) (typed tabs τ)) isTrueK = true := by kernel_rfl

set_option maxRecDepth 100000 in
theorem run_n2_w2_true (τ : Nat → Nat) :
    callKS env 100000 [20] tabs 100 4 [(.rng .i64 1 9223372036854775807 18), (.rng .i64 1 8 19), (.rng .i64 (-9223372036854775808) (-1) 20), .bool true] (startK (env.ng + 3) (typed tabs τ)) isTrueK = true := by kernel_rfl

set_option maxRecDepth 100000 in
theorem run_n2_w2_false (τ : Nat → Nat) :
    callKS env 100000 [20] tabs 100 4 [(.rng .i64 1 9223372036854775807 18), (.rng .i64 1 8 19), (.rng .i64 (-9223372036854775808) (-1) 20), .bool false] (startK (env.ng + 3) (typed tabs τ)) isTrueK = true := by kernel_rfl

set_option maxRecDepth 100000 in
theorem run_n2_w3_true (τ : Nat → Nat) :
    callKS env 100000 [20] tabs 100 4 [(.rng .i64 1 9223372036854775807 18), (.rng .i64 1 8 19), (.rng .i64 0 9223372036854775807 20), .bool true] (startK (env.ng + 3) (typed tabs τ)) isTrueK = true := by kernel_rfl

set_option maxRecDepth 100000 in
theorem run_n2_w3_false (τ : Nat → Nat) :
    callKS env 100000 [20] tabs 100 4 [(.rng .i64 1 9223372036854775807 18), (.rng .i64 1 8 19), (.rng .i64 0 9223372036854775807 20), .bool false] (startK (env.ng + 3) (typed tabs τ)) isTrueK = true := by kernel_rfl

end Go.Proofs.YthcnjmgdmcgflaaGreatDoor.ends
