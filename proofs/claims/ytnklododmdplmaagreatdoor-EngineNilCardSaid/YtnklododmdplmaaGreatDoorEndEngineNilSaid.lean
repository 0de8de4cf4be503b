/- 'jacquardlaw26.EngineNil': the row. Conditions: the row's own. -/
import Derived.Test.YtnklododmdplmaaGreatDoorEndEngineNilStart
import Derived.Test.YtnklododmdplmaaGreatDoorEndEngineNilWalk
import Derived.Test.YtnklododmdplmaaGreatDoorEndEngineNilFacts
import Derived.Stop.Joined
namespace Go.Proofs.YtnklododmdplmaaGreatDoor.engineNil
open Go.ChangeShapes Go.WideShapes Go.ChangeAt Go.RowKit Go.Ev

set_option maxRecDepth 100000 in
theorem lifted (os : Os) (started : os.Started) (H : Type) (enc : TypeId × Value → H) :
    ReturnsInHanded {} Tryz.checked os 4 .any (fun w args => (Rows.engineNilSpec.pre enc Tryz.prog Tryz.f4 Rows.engineNilRow.domain false w args ∧ laidMetH Tryz.prog Rows.engineNilRow.laid w) ∧ sizedMet enc Tryz.prog Tryz.f4 (OpenSpec.ofChange Rows.engineNilSpec) false w args)
      (Rows.engineNilSpec.post enc Tryz.prog Tryz.f4 false true false false) := by
  refine returnsInHanded_of_change_and (C := Tryz.checked) (X := fun w _ => laidMetH Tryz.prog Rows.engineNilRow.laid w) (fun _ _ _ hh h => h.of_heap hh) own started noInit Tryz.func4
    (ChangeSpec.witness_shaped (enc := enc) (C := Tryz.checked) (os := os) (X := fun w _ => laidMetH Tryz.prog Rows.engineNilRow.laid w) false (laidWorld os) args0 8 (laid_os os)
      (shaped os) (fits0 os) (pre0 os H enc) (size0 os H enc) (laid_met os)) ?_
  intro W base args ds gs before hval hW _ _ hL _
  exact contract H enc W base args ds gs before hval hW hL

theorem said : Rows.EngineNilSaid :=
  OpenClaim.holds_of_wide 4 Tryz.f4 rfl rfl rfl rfl rfl rfl rfl ⟨rfl, rfl, rfl, rfl, rfl⟩ rfl rfl rfl rfl rfl namedIs Tryz.func4 facts inst wrap
    (fun os started H enc _ => lifted os started H enc)

end Go.Proofs.YtnklododmdplmaaGreatDoor.engineNil
