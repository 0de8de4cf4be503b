/- A start that fits the row of 'jacquardlaw24.ExecNil'. No conditions. -/
import Derived.Test.YtaakjjddlbdicaaGreatDoorRows
import Derived.ProofKit
import Derived.OpenShut
import Derived.LaidMore
import Derived.Lay
namespace Go.Proofs.YtaakjjddlbdicaaGreatDoor.execNil
open Go.ChangeShapes Go.WideShapes Go.ChangeAt Go.RowKit

/-! a start that fits -/

noncomputable def laidWorld (os : Os) : World := World.laidAll Tryz.prog os Rows.execNilRow.laid
def args0 : Array Value := #[.agg #[.int .i64 0, .slice none 0 0, .bool false, .int .i64 0, .int .i64 0, .int .i64 0, .slice none 0 0], .bool false]

theorem zip0 (os : Os) : ((laidWorld os).forCall (fun _ _ => 0) ⟨#[], args0, []⟩).variablesZipB Tryz.prog = true := by kernel_rfl
theorem heap0 (os : Os) : (((laidWorld os).forCall (fun _ _ => 0) ⟨#[], args0, []⟩).heap.toList.drop Tryz.prog.globals.size).take ((begin Tryz.prog (fun _ _ => 0) default).world.heap.size - Tryz.prog.globals.size) =
    (begin Tryz.prog (fun _ _ => 0) default).world.heap.toList.drop Tryz.prog.globals.size := by kernel_rfl
theorem shaped (os : Os) : ((laidWorld os).forCall (fun _ _ => 0) ⟨#[], args0, []⟩).Shaped Tryz.prog := World.shaped_of_ZipB (zip0 os) (heap0 os)
theorem fits0 (os : Os) : Input.okWideB Tryz.prog ((laidWorld os).forCall (fun _ _ => 0) ⟨#[], args0, []⟩) 3 ⟨#[], args0, []⟩ = true := by kernel_rfl
theorem pre0 (os : Os) (H : Type) (enc : TypeId × Value → H) : Rows.execNilSpec.preB enc Tryz.prog Tryz.f3 Rows.execNilRow.domain false ((laidWorld os).forCall (fun _ _ => 0) ⟨#[], args0, []⟩).memory args0 8 = true := by kernel_rfl
theorem size0 (os : Os) (H : Type) (enc : TypeId × Value → H) : Rows.execNilSpec.sizedB enc Tryz.prog Tryz.f3 false ((laidWorld os).forCall (fun _ _ => 0) ⟨#[], args0, []⟩).memory args0 8 = true := by kernel_rfl
theorem lay0 (os : Os) : (World.holding Tryz.prog os ⟨#[], #[], []⟩).layFits Tryz.prog Rows.execNilRow.laid [] = true := by kernel_rfl
theorem ifaces0 (os : Os) : (World.holding Tryz.prog os ⟨#[], #[], []⟩).layIfaces Tryz.prog Rows.execNilRow.laid (World.laidAll Tryz.prog os Rows.execNilRow.laid) = true := by kernel_rfl
theorem laid_met (os : Os) : laidMetH Tryz.prog Rows.execNilRow.laid ((laidWorld os).forCall (fun _ _ => 0) ⟨#[], args0, []⟩).memory := by
  rw [MakeChecks.laidMetH_plain _ _ _ (by kernel_rfl)]
  exact laidMet_laidAll _ (lay0 os) (ifaces0 os)

end Go.Proofs.YtaakjjddlbdicaaGreatDoor.execNil
