/- Closed facts of the row and of the card of 'jacquardlaw26.EngineNil'. No conditions. -/
import Derived.Test.YtnklododmdplmaaGreatDoorCards
import Derived.ProofKit
import Derived.SevenTiedAt
import Derived.KernelRfl
import Derived.Test.YtnklododmdplmaaGreatDoorEvDef
namespace Go.Proofs.YtnklododmdplmaaGreatDoor.engineNil
open Go.ChangeShapes Go.WideShapes Go.ChangeAt Go.RowKit Go.Ev

theorem plain (f : FuncId) (fn : Func) (hf : Tryz.pinned.checked.prog.funcNamed "jacquard/jacquardlaw26.EngineNil" = some f) (hfn : Tryz.pinned.checked.prog.funcs[f]? = some fn) :
    true = Tryz.pinned.checked.prog.looks [] ∧ ∀ (j : Nat) t, fn.params[j]? = some t → Tryz.pinned.checked.prog.wantsStandIn t = false := by
  obtain rfl : f = 4 := Option.some.inj ((show Tryz.prog.funcNamed "jacquard/jacquardlaw26.EngineNil" = some 4 by kernel_rfl).symm.trans hf) |>.symm
  obtain rfl : fn = Tryz.f4 := (Option.some.inj (Tryz.func4.symm.trans hfn)).symm
  refine ⟨by kernel_rfl, fun j t ht => ?_⟩
  rw [Tryz.params4] at ht
  have h : t = 55 ∨ t = 4 := by simpa using Array.mem_of_getElem? ht
  rcases h with rfl | rfl
  · exact (show Tryz.prog.wantsStandIn 55 = false by kernel_rfl)
  · exact (show Tryz.prog.wantsStandIn 4 = false by kernel_rfl)

theorem wfByText : Rows.engineNilRow.wfByText (OpenSpec.ofChange Rows.engineNilSpec) = true := by kernel_rfl

theorem noneGoes : Tryz.prog.funcs.toList.any Func.goes = false := by kernel_rfl

theorem goes_none {P : Program} (h : P.funcs.toList.any Func.goes = false) (f : FuncId) : P.goes f = false := by
  have h1 : P.funcs.any Func.goes = false := by rw [← Array.any_toList]; exact h
  unfold Program.goes
  rw [h1, Bool.and_false, Bool.or_false, List.any_eq_false]
  intro g _
  cases hg : P.funcs[g]? with
  | none => simp
  | some fn =>
    have := List.any_eq_false.1 h fn (Array.mem_toList_iff.2 (Array.mem_of_getElem? hg))
    simpa using this

theorem goes : false = Rows.engineNilRow.goesBy Tryz.pinned.checked.prog := by
  have h : ∀ f, Tryz.pinned.checked.prog.goes f = false := goes_none noneGoes
  show false = (Tryz.pinned.checked.prog.goesFrom Rows.engineNilRow.func || false)
  unfold Program.goesFrom
  cases Tryz.pinned.checked.prog.funcNamed Rows.engineNilRow.func with
  | none => rfl
  | some f => simp [h f]

end Go.Proofs.YtnklododmdplmaaGreatDoor.engineNil
