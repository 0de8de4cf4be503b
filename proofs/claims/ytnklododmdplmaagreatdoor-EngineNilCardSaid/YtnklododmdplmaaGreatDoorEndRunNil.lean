/- 'jacquardlaw26.EngineNil' run by the evaluator, for each of its flags. No conditions. -/
import Derived.Test.YtnklododmdplmaaGreatDoorEndEnv
namespace Go.Proofs.YtnklododmdplmaaGreatDoor.ends
open Go.Ev

set_option maxRecDepth 100000 in
theorem run_true_true_true (τ : Nat) : callKH env 100000 [67] (seqK K) 100 4 [.agg (slotsBut env.ng 22 [(10, true), (18, true)]), .bool true] (startK (env.ng + 22) (cells0 τ)) isTrueK = true := by kernel_rfl

set_option maxRecDepth 100000 in
theorem run_true_true_false (τ : Nat) : callKH env 100000 [67] (seqK K) 100 4 [.agg (slotsBut env.ng 22 [(10, true), (18, true)]), .bool false] (startK (env.ng + 22) (cells0 τ)) isTrueK = true := by kernel_rfl

set_option maxRecDepth 100000 in
theorem run_true_false_true (τ : Nat) : callKH env 100000 [67] (seqK K) 100 4 [.agg (slotsBut env.ng 22 [(10, true), (18, false)]), .bool true] (startK (env.ng + 22) (cells0 τ)) isTrueK = true := by kernel_rfl

set_option maxRecDepth 100000 in
theorem run_true_false_false (τ : Nat) : callKH env 100000 [67] (seqK K) 100 4 [.agg (slotsBut env.ng 22 [(10, true), (18, false)]), .bool false] (startK (env.ng + 22) (cells0 τ)) isTrueK = true := by kernel_rfl

set_option maxRecDepth 100000 in
theorem run_false_true_true (τ : Nat) : callKH env 100000 [67] (seqK K) 100 4 [.agg (slotsBut env.ng 22 [(10, false), (18, true)]), .bool true] (startK (env.ng + 22) (cells0 τ)) isTrueK = true := by kernel_rfl

set_option maxRecDepth 100000 in
theorem run_false_true_false (τ : Nat) : callKH env 100000 [67] (seqK K) 100 4 [.agg (slotsBut env.ng 22 [(10, false), (18, true)]), .bool false] (startK (env.ng + 22) (cells0 τ)) isTrueK = true := by kernel_rfl

set_option maxRecDepth 100000 in
theorem run_false_false_true (τ : Nat) : callKH env 100000 [67] (seqK K) 100 4 [.agg (slotsBut env.ng 22 [(10, false), (18, false)]), .bool true] (startK (env.ng + 22) (cells0 τ)) isTrueK = true := by kernel_rfl

set_option maxRecDepth 100000 in
theorem run_false_false_false (τ : Nat) : callKH env 100000 [67] (seqK K) 100 4 [.agg (slotsBut env.ng 22 [(10, false), (18, false)]), .bool false] (startK (env.ng + 22) (cells0 τ)) isTrueK = true := by kernel_rfl

end Go.Proofs.YtnklododmdplmaaGreatDoor.ends
