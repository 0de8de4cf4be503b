/- 'jacquardlaw24.ExecNil' run by the evaluator, where the flag is false. No conditions. -/
import Derived.Test.YtaakjjddlbdicaaGreatDoorEndEnv
namespace Go.Proofs.YtaakjjddlbdicaaGreatDoor.execNil
open Go.Ev

set_option maxRecDepth 100000 in
theorem run_false (u v w : Nat) (a b d e f g : Value) (q : Bool) :
    callK env 100000 100 3 [.agg [.opq a, .opq b, .bool q, .opq d, .opq e, .opq f, .opq g], .bool false] (startK env.ng (tabs u v w)) isTrue = true := by kernel_rfl

end Go.Proofs.YtaakjjddlbdicaaGreatDoor.execNil
