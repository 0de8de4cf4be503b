/- 'jacquardlaw26.EngineBounds': the row. Conditions: the row's own. -/
import Derived.Test.YtnklododmdplmaaGreatDoorEndEngineBoundsStart
import Derived.Test.YtnklododmdplmaaGreatDoorEndEngineBoundsWalk
import Derived.Test.YtnklododmdplmaaGreatDoorEndEngineBoundsFacts
import Derived.Stop.Joined
namespace Go.Proofs.YtnklododmdplmaaGreatDoor.engineBounds
open Go.ChangeShapes Go.WideShapes Go.ChangeAt Go.RowKit Go.Ev

set_option maxRecDepth 100000 in
theorem lifted (os : Os) (started : os.Started) (H : Type) (enc : TypeId × Value → H) :
    ReturnsInHanded {} Tryz.checked os 3 .any (fun w args => (Rows.engineBoundsSpec.pre enc Tryz.prog Tryz.f3 Rows.engineBoundsRow.domain false w args ∧ laidMetH Tryz.prog Rows.engineBoundsRow.laid w) ∧ sizedMet enc Tryz.prog Tryz.f3 (OpenSpec.ofChange Rows.engineBoundsSpec) false w args)
      (Rows.engineBoundsSpec.post enc Tryz.prog Tryz.f3 false true false false) := by
  refine returnsInHanded_of_change_and (C := Tryz.checked) (X := fun w _ => laidMetH Tryz.prog Rows.engineBoundsRow.laid w) (fun _ _ _ hh h => h.of_heap hh) own started noInit Tryz.func3
    (ChangeSpec.witness_shaped (enc := enc) (C := Tryz.checked) (os := os) (X := fun w _ => laidMetH Tryz.prog Rows.engineBoundsRow.laid w) false (laidWorld os) args0 8 (laid_os os)
      (shaped os) (fits0 os) (pre0 os H enc) (size0 os H enc) (laid_met os)) ?_
  intro W base args ds gs before hval hW _ _ hL _
  exact contract H enc W base args ds gs before hval hW hL

theorem said : Rows.EngineBoundsSaid :=
  OpenClaim.holds_of_wide 3 Tryz.f3 rfl rfl rfl rfl rfl rfl rfl ⟨rfl, rfl, rfl, rfl, rfl⟩ rfl rfl rfl rfl rfl namedIs Tryz.func3 facts inst wrap
    (fun os started H enc _ => lifted os started H enc)

end Go.Proofs.YtnklododmdplmaaGreatDoor.engineBounds
