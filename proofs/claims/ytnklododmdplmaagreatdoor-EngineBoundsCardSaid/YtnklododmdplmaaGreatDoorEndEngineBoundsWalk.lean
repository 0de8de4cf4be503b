/- 'jacquardlaw26.EngineBounds' returns true for all arguments, and these read as before: the call's contract. Conditions: the row's own. -/
import Derived.Test.YtnklododmdplmaaGreatDoorRows
import Derived.Test.YtnklododmdplmaaGreatDoorEndRunBounds
import Derived.ProofKit
import Derived.LaidMore
import Derived.OpenShut
import Derived.Test.YtnklododmdplmaaGreatDoorEndOut
namespace Go.Proofs.YtnklododmdplmaaGreatDoor.engineBounds
open Go.ChangeShapes Go.WideShapes Go.ChangeAt Go.RowKit Go.Ev

theorem own : ownKnob Tryz.prog.godebug = none := by kernel_rfl
theorem laidOut : laidOutB Tryz.prog = true := ends.laidOut
theorem handles : (Rows.engineBoundsRow.laid.filter fun x => x.2.handleName?.isSome) = [("errors.errorType", ends.errorData)] := by kernel_rfl

theorem typesB : Tryz.prog.cellTypes Tryz.prog.depth 23 = some [3, 3, 3] := by kernel_rfl
theorem cellsB : Tryz.prog.cellsOf 23 = 3 := by kernel_rfl

set_option maxRecDepth 100000 in
theorem open_bounds {W : World} {b : Nat} {v : Value} (h : Value.okWide Tryz.prog W .any b 23 v) :
    ∃ x y z, v = .agg #[.int .i64 x, .int .i64 y, .int .i64 z] ∧ ((-9223372036854775808) ≤ x ∧ x ≤ 9223372036854775807) ∧ ((-9223372036854775808) ≤ y ∧ y ≤ 9223372036854775807) ∧ ((-9223372036854775808) ≤ z ∧ z ≤ 9223372036854775807) :=
  open_three Tryz.underlying23 cellsB typesB Tryz.underlying3 h

/-- The call. -/
theorem walk {W : World} (hL : laidMetH Tryz.prog Rows.engineBoundsRow.laid W) {x y z : Int} (hx : (-9223372036854775808) ≤ x ∧ x ≤ 9223372036854775807) (hy : (-9223372036854775808) ≤ y ∧ y ≤ 9223372036854775807) (hz : (-9223372036854775808) ≤ z ∧ z ≤ 9223372036854775807) :
    Calls Tryz.prog 3 #[.agg #[.int .i64 x, .int .i64 y, .int .i64 z]] W fun e W' => e = .returned (.bool true) ∧ Old W W' := by
  obtain ⟨τ, hT⟩ := ends.start_at hL handles [.int .i64 x, .int .i64 y, .int .i64 z]
  have key (a b c : AVal) (h0 : a.rel (startE ends.env.ng [.int .i64 x, .int .i64 y, .int .i64 z]) (.int .i64 x)) (h1 : b.rel (startE ends.env.ng [.int .i64 x, .int .i64 y, .int .i64 z]) (.int .i64 y)) (h2 : c.rel (startE ends.env.ng [.int .i64 x, .int .i64 y, .int .i64 z]) (.int .i64 z))
      (hrun : callKH ends.env 100000 [67] (seqK ends.K) 100 3 [.agg [a, b, c]] (startK (ends.env.ng + 3) (ends.cells0 τ)) isTrueK = true) :
      Calls Tryz.prog 3 #[.agg #[.int .i64 x, .int .i64 y, .int .i64 z]] W fun e W' => e = .returned (.bool true) ∧ Old W W' := by
    have ha : relL (startE ends.env.ng [.int .i64 x, .int .i64 y, .int .i64 z]) [.agg [a, b, c]] [Value.agg #[.int .i64 x, .int .i64 y, .int .i64 z]] :=
      relL_cons.2 ⟨agg_rel (l := [.int .i64 x, .int .i64 y, .int .i64 z]) (relL_cons.2 ⟨h0, relL_cons.2 ⟨h1, relL_cons.2 ⟨h2, relL_nil⟩⟩⟩), relL_nil⟩
    refine (run_hooks ends.env_ok (W := W) (vs := [.int .i64 x, .int .i64 y, .int .i64 z]) (ends.cells0_lt τ) (ends.cells0_lt2 τ) hT ends.seq_ok (seqK_ok ends.K) ha hrun).mono ?_
    rintro e W' ⟨r, r', ρ', m', rfl, hr, hq, ho⟩
    exact ⟨by rw [isTrueK_true hq hr], ho⟩
  have o1 : (AVal.opq 21).rel (startE ends.env.ng [.int .i64 x, .int .i64 y, .int .i64 z]) (.int .i64 y) := opq_rel (i := 1) rfl rfl
  have o2 : (AVal.opq 22).rel (startE ends.env.ng [.int .i64 x, .int .i64 y, .int .i64 z]) (.int .i64 z) := opq_rel (i := 2) rfl rfl
  by_cases c1 : x < 0
  · exact key _ _ _ (rng_rel (i := 0) rfl hx.1 (by omega)) o1 o2 (ends.run_fuel τ)
  have r0 : (AVal.rng .i64 0 9223372036854775807 20).rel (startE ends.env.ng [.int .i64 x, .int .i64 y, .int .i64 z]) (.int .i64 x) := rng_rel (i := 0) rfl (by omega) hx.2
  by_cases c2 : y < 0
  · exact key _ _ _ r0 (rng_rel (i := 1) rfl hy.1 (by omega)) o2 (ends.run_depth τ)
  by_cases c3 : z < 0
  · exact key _ _ _ r0 (rng_rel (i := 1) rfl (by omega) hy.2) (rng_rel (i := 2) rfl hz.1 (by omega)) (ends.run_room τ)
  by_cases c4 : 65536 < y
  · exact key _ _ _ r0 (rng_rel (i := 1) rfl (by omega) hy.2) (rng_rel (i := 2) rfl (by omega) hz.2) (ends.run_depth2 τ)
  by_cases c5 : 262144 < z
  · exact key _ _ _ r0 (rng_rel (i := 1) rfl (by omega) (by omega)) (rng_rel (i := 2) rfl (by omega) hz.2) (ends.run_room2 τ)
  · exact key _ _ _ r0 (rng_rel (i := 1) rfl (by omega) (by omega)) (rng_rel (i := 2) rfl (by omega) (by omega)) (ends.run_may τ)

set_option maxRecDepth 100000 in
theorem contract (H : Type) (enc : TypeId × Value → H) (W : World) (base : Nat) (args : Array Value) (ds gs : List (DataW H)) (before : List MemPlace)
    (hval : ∀ (j : Nat) t v, Tryz.f3.params[j]? = some t → args[j]? = some v → Value.okWide Tryz.prog W .any base t v)
    (hW : DataW.Whole enc Tryz.prog Tryz.f3.params.toList Rows.engineBoundsSpec.vars false W args.toList ds gs before) (hL : laidMetH Tryz.prog Rows.engineBoundsRow.laid W) :
    Calls Tryz.prog 3 args W fun e W' => ∃ v, e = .returned v ∧ Rows.engineBoundsSpec.post enc Tryz.prog Tryz.f3 false true false false W args v W' := by
  have hW' := hW
  have hlt := hW.lt
  obtain ⟨p, q, hA0, hV, rfl, hfz, hnd⟩ := hW
  have hA : DataW.TrodAll enc Tryz.prog W 0 (fun _ => true) true Tryz.f3.params.toList args.toList ds p := hA0
  rw [Tryz.params3] at hA hval
  obtain ⟨v0, d0, rfl, rfl, h0⟩ := trodAll_one hA
  obtain ⟨rfl, rfl⟩ := trodVars_none hV
  obtain ⟨x, y, z, rfl, hx, hy, hz⟩ := open_bounds (hval 0 23 v0 rfl rfl)
  clear hA0
  simp only [List.append_nil] at hW' hlt
  refine (walk hL hx hy hz).mono fun e W' ⟨he, ho⟩ => ?_
  subst he
  refine ⟨_, rfl, post_of_old (pa := p) (pv := []) hW' (fun _ _ _ => trodAll_mk1 (shut_bool Tryz.underlying4 _)) (fun sp hsp => ?_) (fun _ _ => rfl) (by simp) ho (ok_one (by kernel_rfl) rfl (okWide_bool_mk Tryz.underlying4 _))⟩
  exact trodAll_mk1 (WideElems.Trod_stays laidOut (by kernel_rfl) (by decide) h0 (fun x hx => ho.same (hlt x hx)) (fun x hx => hsp x hx))

end Go.Proofs.YtnklododmdplmaaGreatDoor.engineBounds
