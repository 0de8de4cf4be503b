/- A start that fits the row of 'jacquardlaw26.EngineBounds'. No conditions. -/
import Derived.Test.YtnklododmdplmaaGreatDoorRows
import Derived.ProofKit
import Derived.OpenShut
import Derived.LaidMore
import Derived.Lay
import Derived.LaidHandle
import Derived.Test.YtnklododmdplmaaGreatDoorEndKit
namespace Go.Proofs.YtnklododmdplmaaGreatDoor.engineBounds
open Go.ChangeShapes Go.WideShapes Go.ChangeAt Go.RowKit Go.Ev

/-- the row's variables but the one that holds a type's handle -/
noncomputable def plainLaid : List (String × DataW Unit) := Rows.engineBoundsRow.laid.filter fun x => x.2.handleName?.isNone
def textOf : DataW Unit → List UInt8
  | .iface _ (.ptr (.agg [.lit (.string b)])) => b
  | _ => []
def putVar (h : Array Obj) (g : Nat) (v : Value) : Array Obj := h.modify g fun
  | .cells _ t frozen => .cells #[v] t frozen
  | o => o
/-- the settled world, with the handle and the two errors laid -/
noncomputable def base0 (os : Os) : World :=
  let w0 := World.holding Tryz.prog os ⟨#[], #[], []⟩
  let n := w0.heap.size
  { w0 with heap := ((putVar (putVar (putVar w0.heap 0 (.iface 275 (.agg #[.pointer (some ⟨19, 138, none⟩)]))) 1 (.iface 824 (.pointer (some ⟨n, 0, none⟩)))) 2 (.iface 824 (.pointer (some ⟨n + 1, 0, none⟩)))).push (.cells #[.string ⟨(textOf Rows.laid_jacquard_valid_errForm).toArray⟩] 844)).push (.cells #[.string ⟨(textOf Rows.laid_jacquard_valid_errValid).toArray⟩] 844) }
def errs : List String := ["jacquard/valid.errForm", "jacquard/valid.errValid"]
noncomputable def great : List String := (plainLaid.map (·.1)).filter fun x => !errs.contains x
noncomputable def laidWorld (os : Os) : World := (base0 os).layVars Tryz.prog (plainLaid.filter fun x => great.contains x.1)
theorem laid_os (os : Os) : (laidWorld os).os = os := World.layVars_os _ _ _
noncomputable def blocks (os : Os) : List Nat := [1, 2, (World.holding Tryz.prog os ⟨#[], #[], []⟩).heap.size, (World.holding Tryz.prog os ⟨#[], #[], []⟩).heap.size + 1]
def args0 : Array Value := #[.agg #[.int .i64 0, .int .i64 0, .int .i64 0]]

theorem zip0 (os : Os) : ((laidWorld os).forCall (fun _ _ => 0) ⟨#[], args0, []⟩).variablesZipB Tryz.prog = true := by kernel_rfl
theorem heap0 (os : Os) : (((laidWorld os).forCall (fun _ _ => 0) ⟨#[], args0, []⟩).heap.toList.drop Tryz.prog.globals.size).take ((begin Tryz.prog (fun _ _ => 0) default).world.heap.size - Tryz.prog.globals.size) =
    (begin Tryz.prog (fun _ _ => 0) default).world.heap.toList.drop Tryz.prog.globals.size := by kernel_rfl
theorem shaped (os : Os) : ((laidWorld os).forCall (fun _ _ => 0) ⟨#[], args0, []⟩).Shaped Tryz.prog := World.shaped_of_ZipB (zip0 os) (heap0 os)
theorem fits0 (os : Os) : Input.okWideB Tryz.prog ((laidWorld os).forCall (fun _ _ => 0) ⟨#[], args0, []⟩) 3 ⟨#[], args0, []⟩ = true := by kernel_rfl
theorem pre0 (os : Os) (H : Type) (enc : TypeId × Value → H) : Rows.engineBoundsSpec.preB enc Tryz.prog Tryz.f3 Rows.engineBoundsRow.domain false ((laidWorld os).forCall (fun _ _ => 0) ⟨#[], args0, []⟩).memory args0 8 = true := by kernel_rfl
theorem size0 (os : Os) (H : Type) (enc : TypeId × Value → H) : Rows.engineBoundsSpec.sizedB enc Tryz.prog Tryz.f3 false ((laidWorld os).forCall (fun _ _ => 0) ⟨#[], args0, []⟩).memory args0 8 = true := by kernel_rfl
theorem lay0 (os : Os) : (base0 os).layFits Tryz.prog (plainLaid.filter fun x => great.contains x.1) (blocks os) = true := by kernel_rfl
theorem ifaces0 (os : Os) : (base0 os).layIfaces Tryz.prog (plainLaid.filter fun x => great.contains x.1) (laidWorld os) = true := by kernel_rfl
theorem errs1 (os : Os) : (DataW.laidRun Tryz.prog (laidWorld os) 8 ((plainLaid.filter fun x => !great.contains x.1).map (·.1))).map (·.1) = some (plainLaid.filter fun x => !great.contains x.1) := by kernel_rfl
theorem errs2 (os : Os) : (DataW.laidRun Tryz.prog (laidWorld os) 8 ((plainLaid.filter fun x => !great.contains x.1).map (·.1))).map (fun x => nodupB (x.2.map MemPlace.codeOf)) = some true := by kernel_rfl
theorem errs3 (os : Os) : (DataW.laidRun Tryz.prog (laidWorld os) 8 ((plainLaid.filter fun x => !great.contains x.1).map (·.1))).map (fun x => laidRowsB Tryz.prog (laidWorld os) x.2) = some true := by kernel_rfl
theorem errs4 (os : Os) : (DataW.laidRun Tryz.prog (laidWorld os) 8 ((plainLaid.filter fun x => !great.contains x.1).map (·.1))).map (fun x => x.2.all fun p => (blocks os).contains p.block) = some true := by kernel_rfl
theorem handle0 (os : Os) : ((Rows.engineBoundsRow.laid.filter fun x => x.2.handleName?.isSome).all (handleAtB Tryz.prog ((laidWorld os).forCall (fun _ _ => 0) ⟨#[], args0, []⟩).memory)) = true := by kernel_rfl
theorem laid_met (os : Os) : laidMetH Tryz.prog Rows.engineBoundsRow.laid ((laidWorld os).forCall (fun _ _ => 0) ⟨#[], args0, []⟩).memory := by
  have h : laidMet Tryz.prog plainLaid (laidWorld os) := laidMet_layVars (w0 := base0 os) great (blocks os) rfl (lay0 os) (ifaces0 os) (LaidIn.of_run (blocks os) 8 (errs1 os) (errs2 os) (errs3 os) (errs4 os))
  exact laidMetH_of_parts (h.of_heap (by simp [World.memory, World.forCall, Input.heap])) (handle0 os)

end Go.Proofs.YtnklododmdplmaaGreatDoor.engineBounds
