/- 'jacquardlaw26.EngineNil' returns true for all arguments, and these read as before: the call's contract. Conditions: the row's own. -/
import Derived.Test.YtnklododmdplmaaGreatDoorRows
import Derived.Test.YtnklododmdplmaaGreatDoorEndRunNil
import Derived.ProofKit
import Derived.LaidMore
import Derived.OpenShut
import Derived.Test.YtnklododmdplmaaGreatDoorEndOut
namespace Go.Proofs.YtnklododmdplmaaGreatDoor.engineNil
open Go.ChangeShapes Go.WideShapes Go.ChangeAt Go.RowKit Go.Ev

theorem own : ownKnob Tryz.prog.godebug = none := by kernel_rfl
theorem laidOut : laidOutB Tryz.prog = true := ends.laidOut
theorem handles : (Rows.engineNilRow.laid.filter fun x => x.2.handleName?.isSome) = [("errors.errorType", ends.errorData)] := by kernel_rfl

def actTypes : List Nat := [3, 9, 9, 37, 38, 39, 40, 41, 42, 43, 4, 44, 45, 46, 49, 50, 51, 3, 4, 9, 50, 50]
theorem typesA : Tryz.prog.cellTypes Tryz.prog.depth 55 = some actTypes := by kernel_rfl
theorem cellsA : Tryz.prog.cellsOf 55 = 22 := by kernel_rfl
theorem plainA : (actTypes.zipIdx.all fun p => p.2 == 10 || p.2 == 18 || (match Tryz.prog.underlying p.1 with
    | some d => opqD d
    | none => false)) = true := by kernel_rfl

set_option maxRecDepth 100000 in
theorem open_act {W : World} {b : Nat} {v : Value} (h : Value.okWide Tryz.prog W .any b 55 v) :
    ∃ (cs : Array Value) (s t : Bool), v = .agg cs ∧ relL (startE ends.env.ng cs.toList) (slotsBut ends.env.ng 22 [(10, s), (18, t)]) cs.toList ∧ cs.toList.length = 22 := by
  obtain ⟨cs, rfl, hsz, hc⟩ := open_cells Tryz.underlying55 cellsA typesA rfl h
  have flag (i : Nat) (hi : i < 22) (ht : actTypes[i]? = some 4) : ∃ q, cs[i]? = some (.bool q) := by
    obtain ⟨u, h1, h2⟩ := hc i cs[i] (Array.getElem?_eq_getElem (by omega))
    obtain rfl := Option.some.inj (ht.symm.trans h1)
    obtain ⟨q, hq⟩ := cell_bool Tryz.underlying4 h2
    exact ⟨q, by rw [Array.getElem?_eq_getElem (by omega), hq]⟩
  obtain ⟨s, hs⟩ := flag 10 (by decide) rfl
  obtain ⟨t, ht⟩ := flag 18 (by decide) rfl
  refine ⟨cs, s, t, rfl, slots_rel hsz fun i x hx => ?_, by simpa using hsz⟩
  obtain ⟨u, h1, h2⟩ := hc i x hx
  by_cases h10 : i = 10
  · subst h10
    rw [hs] at hx
    exact (Option.some.inj hx).symm
  · by_cases h18 : i = 18
    · subst h18
      rw [ht] at hx
      exact (Option.some.inj hx).symm
    · have hn : ([(10, s), (18, t)] : List (Nat × Bool)).find? (fun p => p.1 == i) = none := by
        have e1 : (10 == i) = false := beq_eq_false_iff_ne.2 (Ne.symm h10)
        have e2 : (18 == i) = false := beq_eq_false_iff_ne.2 (Ne.symm h18)
        simp only [List.find?, e1, e2]
      rw [hn]
      have hp := List.all_eq_true.1 plainA (u, i) (List.mem_zipIdx_iff_getElem?.2 h1)
      simp only [Bool.or_eq_true, beq_iff_eq, h10, h18, false_or] at hp
      split at hp
      · rename_i d hd
        exact cell_opq hd hp h2
      · cases hp

set_option maxRecDepth 100000 in
theorem open_flag {W : World} {b : Nat} {v : Value} (h : Value.okWide Tryz.prog W .any b 4 v) : ∃ z, v = .bool z :=
  cell_bool Tryz.underlying4 (wide_cell Tryz.underlying4 rfl h)

/-- The call. -/
theorem walk {W : World} (hL : laidMetH Tryz.prog Rows.engineNilRow.laid W) {cs : Array Value} {s t z : Bool} (hc : relL (startE ends.env.ng cs.toList) (slotsBut ends.env.ng 22 [(10, s), (18, t)]) cs.toList) (hn : cs.toList.length = 22) :
    Calls Tryz.prog 4 #[.agg cs, .bool z] W fun e W' => e = .returned (.bool true) ∧ Old W W' := by
  obtain ⟨τ, hT⟩ := ends.start_at hL handles cs.toList
  have hrun : callKH ends.env 100000 [67] (seqK ends.K) 100 4 [.agg (slotsBut ends.env.ng 22 [(10, s), (18, t)]), .bool z] (startK (ends.env.ng + cs.toList.length) (ends.cells0 τ)) isTrueK = true := by
    rw [hn]
    cases s <;> cases t <;> cases z
    · exact ends.run_false_false_false τ
    · exact ends.run_false_false_true τ
    · exact ends.run_false_true_false τ
    · exact ends.run_false_true_true τ
    · exact ends.run_true_false_false τ
    · exact ends.run_true_false_true τ
    · exact ends.run_true_true_false τ
    · exact ends.run_true_true_true τ
  have ha : relL (startE ends.env.ng cs.toList) [.agg (slotsBut ends.env.ng 22 [(10, s), (18, t)]), .bool z] [Value.agg cs, .bool z] :=
    relL_cons.2 ⟨agg_rel hc, relL_cons.2 ⟨bool_rel, relL_nil⟩⟩
  refine (run_hooks ends.env_ok (W := W) (vs := cs.toList) (ends.cells0_lt τ) (ends.cells0_lt2 τ) hT ends.seq_ok (seqK_ok ends.K) ha hrun).mono ?_
  rintro e W' ⟨r, r', ρ', m', rfl, hr, hq, ho⟩
  exact ⟨by rw [isTrueK_true hq hr], ho⟩

set_option maxRecDepth 100000 in
theorem contract (H : Type) (enc : TypeId × Value → H) (W : World) (base : Nat) (args : Array Value) (ds gs : List (DataW H)) (before : List MemPlace)
    (hval : ∀ (j : Nat) t v, Tryz.f4.params[j]? = some t → args[j]? = some v → Value.okWide Tryz.prog W .any base t v)
    (hW : DataW.Whole enc Tryz.prog Tryz.f4.params.toList Rows.engineNilSpec.vars false W args.toList ds gs before) (hL : laidMetH Tryz.prog Rows.engineNilRow.laid W) :
    Calls Tryz.prog 4 args W fun e W' => ∃ v, e = .returned v ∧ Rows.engineNilSpec.post enc Tryz.prog Tryz.f4 false true false false W args v W' := by
  have hW' := hW
  have hlt := hW.lt
  obtain ⟨p, q, hA0, hV, rfl, hfz, hnd⟩ := hW
  have hA : DataW.TrodAll enc Tryz.prog W 0 (fun _ => true) true Tryz.f4.params.toList args.toList ds p := hA0
  rw [Tryz.params4] at hA hval
  obtain ⟨v0, v1, d0, d1, p0, p1, rfl, rfl, rfl, h0, h1⟩ := trodAll_two hA
  obtain ⟨rfl, rfl⟩ := trodVars_none hV
  obtain ⟨cs, s, t, rfl, hc, hn⟩ := open_act (hval 0 55 v0 rfl rfl)
  obtain ⟨z, rfl⟩ := open_flag (hval 1 4 v1 rfl rfl)
  clear hA0
  simp only [List.append_nil] at hW' hlt
  refine (walk hL hc hn).mono fun e W' ⟨he, ho⟩ => ?_
  subst he
  refine ⟨_, rfl, post_of_old (pa := p0 ++ p1) (pv := []) hW' (fun _ _ _ => trodAll_mk1 (shut_bool Tryz.underlying4 _)) (fun sp hsp => ?_) (fun _ _ => rfl) (by simp) ho (ok_one (by kernel_rfl) rfl (okWide_bool_mk Tryz.underlying4 _))⟩
  exact trodAll_mk2 (WideElems.Trod_stays laidOut (by kernel_rfl) (by decide) h0 (fun x hx => ho.same (hlt x (by simp [hx]))) (fun x hx => hsp x (by simp [hx])))
    (WideElems.Trod_stays laidOut (by kernel_rfl) (by decide) h1 (fun x hx => ho.same (hlt x (by simp [hx]))) (fun x hx => hsp x (by simp [hx])))

end Go.Proofs.YtnklododmdplmaaGreatDoor.engineNil
