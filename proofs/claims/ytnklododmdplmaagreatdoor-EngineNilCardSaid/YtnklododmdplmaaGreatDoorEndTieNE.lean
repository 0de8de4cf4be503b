/- What the program's tie reads: a closed fact, and what follows of it. No conditions. -/
import Derived.Test.YtnklododmdplmaaGreatDoorEndTieND
namespace Go.Proofs.YtnklododmdplmaaGreatDoor
open Go
theorem tie_rows : ∀ os tape, tieRows.all (rowB Tryz.prog (varsWorld Tryz.prog 400 (varsId Tryz.prog) os tape).memory) = true := fun _ _ => by rw [tie_vars]; kernel_rfl
theorem tie_h2 (os : Os) (tape : Tape) : (DataW.laidRun Tryz.prog (varsWorld Tryz.prog 400 (varsId Tryz.prog) os tape).memory 8 (tiePlain.map (·.1))).map (fun x => decide x.2.Nodup && laidRowsB Tryz.prog (varsWorld Tryz.prog 400 (varsId Tryz.prog) os tape).memory x.2) = some true := by
  have h := tie_ps os tape
  have hr := tie_rows os tape
  generalize (varsWorld Tryz.prog 400 (varsId Tryz.prog) os tape).memory = w at h hr
  cases hx : DataW.laidRun Tryz.prog w 8 (tiePlain.map (·.1)) with
  | none => rw [hx] at h; cases h
  | some x =>
    rw [hx] at h
    simp only [Option.map_some, Option.some.injEq] at h ⊢
    rw [matchRows_eq _ _ h]
    simp only [Bool.and_eq_true, decide_eq_true_eq]
    exact ⟨nodup_rows _ tie_apart, laidRows_of hr⟩
theorem tie_h3 : ∀ os tape, (tieLaid.filter fun x => x.2.handleName?.isSome).all (handleAtB Tryz.prog (varsWorld Tryz.prog 400 (varsId Tryz.prog) os tape).memory) = true := fun _ _ => by rw [tie_vars]; kernel_rfl
end Go.Proofs.YtnklododmdplmaaGreatDoor
