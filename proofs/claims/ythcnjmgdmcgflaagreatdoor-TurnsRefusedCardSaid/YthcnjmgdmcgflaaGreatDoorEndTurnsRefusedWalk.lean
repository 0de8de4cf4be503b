/- 'jacquardlaw27.TurnsRefused' returns true for all arguments, and these read as before: the call's contract. Conditions: the row's own. -/
import Derived.Test.YthcnjmgdmcgflaaGreatDoorRows
import Derived.Test.YthcnjmgdmcgflaaGreatDoorEndRunTurns
import Derived.Test.YthcnjmgdmcgflaaGreatDoorEndWorksTurns
import Derived.ProofKit
import Derived.LaidMore
import Derived.OpenShut
import Derived.Test.YthcnjmgdmcgflaaGreatDoorEndOut
namespace Go.Proofs.YthcnjmgdmcgflaaGreatDoor.turnsRefused
open Go.ChangeShapes Go.WideShapes Go.ChangeAt Go.RowKit Go.Ev

theorem own : ownKnob Tryz.prog.godebug = none := by kernel_rfl
theorem laidOut : laidOutB Tryz.prog = true := ends.laidOut

theorem atSpace : Rows.turnsRefusedRow.laid[0]? = some ("strings.asciiSpace", Lib.tabData .u8 ends.space) := by kernel_rfl
theorem atSums : Rows.turnsRefusedRow.laid[12]? = some ("jacquard/plain.sums", Lib.tabData .u8 ends.sums) := by kernel_rfl
theorem atWidths : Rows.turnsRefusedRow.laid[5]? = some ("jacquard/ints.widths", Lib.tabData .i64 ends.widths) := by kernel_rfl

theorem tables {W : World} (h : laidMetH Tryz.prog Rows.turnsRefusedRow.laid W) : ∃ τ, ends.Tabs W τ := by
  rw [MakeChecks.laidMetH_plain _ _ _ (by kernel_rfl)] at h
  exact ends.tables h (List.mem_of_getElem? atSpace) (List.mem_of_getElem? atSums) (List.mem_of_getElem? atWidths)

set_option maxRecDepth 100000 in
theorem open_int {W : World} {b : Nat} {v : Value} (h : Value.okWide Tryz.prog W .any b 3 v) : ∃ n, v = .int .i64 n ∧ -9223372036854775808 ≤ n ∧ n ≤ 9223372036854775807 :=
  cell_int Tryz.underlying3 (wide_cell Tryz.underlying3 rfl h)

set_option maxRecDepth 100000 in
theorem open_flag {W : World} {b : Nat} {v : Value} (h : Value.okWide Tryz.prog W .any b 4 v) : ∃ z, v = .bool z :=
  cell_bool Tryz.underlying4 (wide_cell Tryz.underlying4 rfl h)

/-- The call. -/
theorem walk {W : World} (hL : laidMetH Tryz.prog Rows.turnsRefusedRow.laid W) {n w f : Int} {z : Bool} (hn : -9223372036854775808 ≤ n ∧ n ≤ 9223372036854775807) (hw : -9223372036854775808 ≤ w ∧ w ≤ 9223372036854775807) (hf : -9223372036854775808 ≤ f ∧ f ≤ 9223372036854775807) :
    Calls Tryz.prog 4 #[.int .i64 n, .int .i64 w, .int .i64 f, .bool z] W fun e W' => e = .returned (.bool true) ∧ Old W W' := by
  obtain ⟨τ, hT⟩ := tables hL
  have key (l : List AVal) (ha : relL (startE ends.env.ng [.int .i64 n, .int .i64 w, .int .i64 f]) l [Value.int .i64 n, .int .i64 w, .int .i64 f, .bool z])
      (hrun : callKS ends.env 100000 [20] ends.tabs 100 4 l (startK (ends.env.ng + 3) (typed ends.tabs τ)) isTrueK = true) :
      Calls Tryz.prog 4 #[.int .i64 n, .int .i64 w, .int .i64 f, .bool z] W fun e W' => e = .returned (.bool true) ∧ Old W W' := by
    refine (run_sums ends.env_ok (W := W) (vs := [.int .i64 n, .int .i64 w, .int .i64 f]) (T := ends.tabs) ends.tabs_lt ends.tabs_lt2 (ends.tabs_at hT) ends.sum_works ha hrun).mono ?_
    rintro e W' ⟨x, x', ρ', m', rfl, hx, hq, ho⟩
    exact ⟨by rw [isTrueK_true hq hx], ho⟩
  have four {a b c : AVal} (h0 : a.rel (startE ends.env.ng [.int .i64 n, .int .i64 w, .int .i64 f]) (.int .i64 n)) (h1 : b.rel (startE ends.env.ng [.int .i64 n, .int .i64 w, .int .i64 f]) (.int .i64 w)) (h2 : c.rel (startE ends.env.ng [.int .i64 n, .int .i64 w, .int .i64 f]) (.int .i64 f)) :
      relL (startE ends.env.ng [.int .i64 n, .int .i64 w, .int .i64 f]) [a, b, c, .bool z] [Value.int .i64 n, .int .i64 w, .int .i64 f, .bool z] :=
    relL_cons.2 ⟨h0, relL_cons.2 ⟨h1, relL_cons.2 ⟨h2, relL_cons.2 ⟨bool_rel, relL_nil⟩⟩⟩⟩
  have w0 : w ≤ 0 → (AVal.rng .i64 (-9223372036854775808) 0 19).rel (startE ends.env.ng [.int .i64 n, .int .i64 w, .int .i64 f]) (.int .i64 w) := fun h => rng_rel (i := 1) rfl hw.1 h
  have w1 : 9 ≤ w → (AVal.rng .i64 9 9223372036854775807 19).rel (startE ends.env.ng [.int .i64 n, .int .i64 w, .int .i64 f]) (.int .i64 w) := fun h => rng_rel (i := 1) rfl h hw.2
  have w2 : 1 ≤ w ∧ w ≤ 8 → (AVal.rng .i64 1 8 19).rel (startE ends.env.ng [.int .i64 n, .int .i64 w, .int .i64 f]) (.int .i64 w) := fun h => rng_rel (i := 1) rfl h.1 h.2
  have fo : (AVal.opq 20).rel (startE ends.env.ng [.int .i64 n, .int .i64 w, .int .i64 f]) (.int .i64 f) := opq_rel (i := 2) rfl rfl
  have f0 : f < 0 → (AVal.rng .i64 (-9223372036854775808) (-1) 20).rel (startE ends.env.ng [.int .i64 n, .int .i64 w, .int .i64 f]) (.int .i64 f) := fun h => rng_rel (i := 2) rfl hf.1 (by omega)
  have f1 : 0 ≤ f → (AVal.rng .i64 0 9223372036854775807 20).rel (startE ends.env.ng [.int .i64 n, .int .i64 w, .int .i64 f]) (.int .i64 f) := fun h => rng_rel (i := 2) rfl h hf.2
  have all (a : AVal) (ha : a.rel (startE ends.env.ng [.int .i64 n, .int .i64 w, .int .i64 f]) (.int .i64 n))
      (r : ∀ z : Bool, callKS ends.env 100000 [20] ends.tabs 100 4 [a, .rng .i64 (-9223372036854775808) 0 19, .opq 20, .bool z] (startK (ends.env.ng + 3) (typed ends.tabs τ)) isTrueK = true ∧
        callKS ends.env 100000 [20] ends.tabs 100 4 [a, .rng .i64 9 9223372036854775807 19, .opq 20, .bool z] (startK (ends.env.ng + 3) (typed ends.tabs τ)) isTrueK = true ∧
        callKS ends.env 100000 [20] ends.tabs 100 4 [a, .rng .i64 1 8 19, .rng .i64 (-9223372036854775808) (-1) 20, .bool z] (startK (ends.env.ng + 3) (typed ends.tabs τ)) isTrueK = true ∧
        callKS ends.env 100000 [20] ends.tabs 100 4 [a, .rng .i64 1 8 19, .rng .i64 0 9223372036854775807 20, .bool z] (startK (ends.env.ng + 3) (typed ends.tabs τ)) isTrueK = true) :
      Calls Tryz.prog 4 #[.int .i64 n, .int .i64 w, .int .i64 f, .bool z] W fun e W' => e = .returned (.bool true) ∧ Old W W' := by
    obtain ⟨r0, r1, r2, r3⟩ := r z
    obtain hw0 | hw0 | hw0 : w ≤ 0 ∨ 9 ≤ w ∨ (1 ≤ w ∧ w ≤ 8) := by omega
    · exact key _ (four ha (w0 hw0) fo) r0
    · exact key _ (four ha (w1 hw0) fo) r1
    · obtain hf0 | hf0 : f < 0 ∨ 0 ≤ f := by omega
      · exact key _ (four ha (w2 hw0) (f0 hf0)) r2
      · exact key _ (four ha (w2 hw0) (f1 hf0)) r3
  obtain hn0 | rfl | hn0 : n < 0 ∨ n = 0 ∨ 0 < n := by omega
  · refine all (.rng .i64 (-9223372036854775808) (-1) 18) (rng_rel (i := 0) rfl hn.1 (by omega)) fun z => ?_
    cases z
    · exact ⟨ends.run_n0_w0_false τ, ends.run_n0_w1_false τ, ends.run_n0_w2_false τ, ends.run_n0_w3_false τ⟩
    · exact ⟨ends.run_n0_w0_true τ, ends.run_n0_w1_true τ, ends.run_n0_w2_true τ, ends.run_n0_w3_true τ⟩
  · refine all (.int .i64 0) int_rel fun z => ?_
    cases z
    · exact ⟨ends.run_n1_w0_false τ, ends.run_n1_w1_false τ, ends.run_n1_w2_false τ, ends.run_n1_w3_false τ⟩
    · exact ⟨ends.run_n1_w0_true τ, ends.run_n1_w1_true τ, ends.run_n1_w2_true τ, ends.run_n1_w3_true τ⟩
  · refine all (.rng .i64 1 9223372036854775807 18) (rng_rel (i := 0) rfl (by omega) hn.2) fun z => ?_
    cases z
    · exact ⟨ends.run_n2_w0_false τ, ends.run_n2_w1_false τ, ends.run_n2_w2_false τ, ends.run_n2_w3_false τ⟩
    · exact ⟨ends.run_n2_w0_true τ, ends.run_n2_w1_true τ, ends.run_n2_w2_true τ, ends.run_n2_w3_true τ⟩

set_option maxRecDepth 100000 in
theorem contract (H : Type) (enc : TypeId × Value → H) (W : World) (base : Nat) (args : Array Value) (ds gs : List (DataW H)) (before : List MemPlace)
    (hval : ∀ (j : Nat) t v, Tryz.f4.params[j]? = some t → args[j]? = some v → Value.okWide Tryz.prog W .any base t v)
    (hW : DataW.Whole enc Tryz.prog Tryz.f4.params.toList Rows.turnsRefusedSpec.vars false W args.toList ds gs before) (hL : laidMetH Tryz.prog Rows.turnsRefusedRow.laid W) :
    Calls Tryz.prog 4 args W fun e W' => ∃ v, e = .returned v ∧ Rows.turnsRefusedSpec.post enc Tryz.prog Tryz.f4 false true false false W args v W' := by
  have hW' := hW
  have hlt := hW.lt
  obtain ⟨p, q, hA0, hV, rfl, hfz, hnd⟩ := hW
  have hA : DataW.TrodAll enc Tryz.prog W 0 (fun _ => true) true Tryz.f4.params.toList args.toList ds p := hA0
  rw [Tryz.params4] at hA hval
  obtain ⟨v0, v1, v2, v3, d0, d1, d2, d3, p0, p1, p2, p3, rfl, rfl, rfl, h0, h1, h2, h3⟩ := trodAll_four hA
  obtain ⟨rfl, rfl⟩ := trodVars_none hV
  obtain ⟨n, rfl, hn⟩ := open_int (hval 0 3 v0 rfl rfl)
  obtain ⟨w, rfl, hw⟩ := open_int (hval 1 3 v1 rfl rfl)
  obtain ⟨f, rfl, hf⟩ := open_int (hval 2 3 v2 rfl rfl)
  obtain ⟨z, rfl⟩ := open_flag (hval 3 4 v3 rfl rfl)
  clear hA0
  simp only [List.append_nil] at hW' hlt
  refine (walk hL hn hw hf).mono fun e W' ⟨he, ho⟩ => ?_
  subst he
  refine ⟨_, rfl, post_of_old (pa := p0 ++ (p1 ++ (p2 ++ p3))) (pv := []) hW' (fun _ _ _ => trodAll_mk1 (shut_bool Tryz.underlying4 _)) (fun sp hsp => ?_) (fun _ _ => rfl) (by simp) ho (ok_one (by kernel_rfl) rfl (okWide_bool_mk Tryz.underlying4 _))⟩
  exact trodAll_mk4 (WideElems.Trod_stays laidOut (by kernel_rfl) (by decide) h0 (fun x hx => ho.same (hlt x (by simp [hx]))) (fun x hx => hsp x (by simp [hx])))
    (WideElems.Trod_stays laidOut (by kernel_rfl) (by decide) h1 (fun x hx => ho.same (hlt x (by simp [hx]))) (fun x hx => hsp x (by simp [hx])))
    (WideElems.Trod_stays laidOut (by kernel_rfl) (by decide) h2 (fun x hx => ho.same (hlt x (by simp [hx]))) (fun x hx => hsp x (by simp [hx])))
    (WideElems.Trod_stays laidOut (by kernel_rfl) (by decide) h3 (fun x hx => ho.same (hlt x (by simp [hx]))) (fun x hx => hsp x (by simp [hx])))

end Go.Proofs.YthcnjmgdmcgflaaGreatDoor.turnsRefused
