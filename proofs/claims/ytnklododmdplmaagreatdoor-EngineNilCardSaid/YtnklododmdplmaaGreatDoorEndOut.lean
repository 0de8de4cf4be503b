/- Each row of the program's table of types is laid out as its cells are. No conditions. -/
import Derived.Test.YtnklododmdplmaaGreatDoorProg
import Derived.Test.YtnklododmdplmaaGreatDoorEvOut
import Derived.KernelRfl
namespace Go.Proofs.YtnklododmdplmaaGreatDoor.ends
open Go.Ev

theorem typesMany : Tryz.prog.types.size = 855 := by kernel_rfl
theorem rowsFine : upTo (rowT (ofL 11 Tryz.prog.types.toList)) 0 855 = true := by kernel_rfl
theorem globalsTyped : Tryz.prog.globals.all (fun g => decide (g.type < Tryz.prog.types.size)) = true := by kernel_rfl
theorem paramsTyped : Tryz.prog.funcs.all (fun f => f.params.all fun t => decide (t < Tryz.prog.types.size)) = true := by kernel_rfl
theorem laidOut : laidOutB Tryz.prog = true := laidOut_of typesMany rowsFine globalsTyped paramsTyped

end Go.Proofs.YtnklododmdplmaaGreatDoor.ends
