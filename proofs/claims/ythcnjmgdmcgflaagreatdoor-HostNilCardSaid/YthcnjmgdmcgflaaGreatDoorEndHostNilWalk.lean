/- 'jacquardlaw25.HostNil' returns true for all arguments, and these read as before: the call's contract. Conditions: the row's own. -/
import Derived.Test.YthcnjmgdmcgflaaGreatDoorRows
import Derived.Test.YthcnjmgdmcgflaaGreatDoorEndRunHost
import Derived.Test.YthcnjmgdmcgflaaGreatDoorEndLivesHost
import Derived.ProofKit
import Derived.LaidMore
import Derived.OpenShut
import Derived.Test.YthcnjmgdmcgflaaGreatDoorEndOut
namespace Go.Proofs.YthcnjmgdmcgflaaGreatDoor.hostNil
open Go.ChangeShapes Go.WideShapes Go.ChangeAt Go.RowKit Go.Ev

theorem own : ownKnob Tryz.prog.godebug = none := by kernel_rfl
theorem laidOut : laidOutB Tryz.prog = true := ends.laidOut

theorem atSpace : Rows.hostNilRow.laid[0]? = some ("strings.asciiSpace", Lib.tabData .u8 ends.space) := by kernel_rfl
theorem atSums : Rows.hostNilRow.laid[12]? = some ("jacquard/plain.sums", Lib.tabData .u8 ends.sums) := by kernel_rfl
theorem atWidths : Rows.hostNilRow.laid[5]? = some ("jacquard/ints.widths", Lib.tabData .i64 ends.widths) := by kernel_rfl

theorem tables {W : World} (h : laidMetH Tryz.prog Rows.hostNilRow.laid W) : ∃ τ, ends.Tabs W τ := by
  rw [MakeChecks.laidMetH_plain _ _ _ (by kernel_rfl)] at h
  exact ends.tables h (List.mem_of_getElem? atSpace) (List.mem_of_getElem? atSums) (List.mem_of_getElem? atWidths)

theorem typesB : Tryz.prog.cellTypes Tryz.prog.depth 24 = some [3, 3, 3] := by kernel_rfl
theorem cellsB : Tryz.prog.cellsOf 24 = 3 := by kernel_rfl

set_option maxRecDepth 100000 in
theorem open_bounds {W : World} {b : Nat} {v : Value} (h : Value.okWide Tryz.prog W .any b 24 v) : ∃ x y z, v = .agg #[.int .i64 x, .int .i64 y, .int .i64 z] :=
  let ⟨x, y, z, h, _⟩ := open_three Tryz.underlying24 cellsB typesB Tryz.underlying3 h
  ⟨x, y, z, h⟩

set_option maxRecDepth 100000 in
theorem open_int {W : World} {b : Nat} {v : Value} (h : Value.okWide Tryz.prog W .any b 3 v) : ∃ n, v = .int .i64 n :=
  let ⟨n, h, _⟩ := cell_int Tryz.underlying3 (wide_cell Tryz.underlying3 rfl h)
  ⟨n, h⟩

set_option maxRecDepth 100000 in
theorem open_list {W : World} {b : Nat} {v : Value} (h : Value.okWide Tryz.prog W .any b 22 v) : okOpq v = true :=
  cell_slice Tryz.underlying22 (wide_cell Tryz.underlying22 rfl h)

set_option maxRecDepth 100000 in
theorem open_flag {W : World} {b : Nat} {v : Value} (h : Value.okWide Tryz.prog W .any b 4 v) : ∃ z, v = .bool z :=
  cell_bool Tryz.underlying4 (wide_cell Tryz.underlying4 rfl h)

/-- The call. -/
theorem walk {W : World} (hL : laidMetH Tryz.prog Rows.hostNilRow.laid W) {n x y c : Int} {l : Value} {z : Bool} (hl : okOpq l = true) :
    Calls Tryz.prog 3 #[.int .i64 n, l, .agg #[.int .i64 x, .int .i64 y, .int .i64 c], .bool z] W fun e W' => e = .returned (.bool true) ∧ Old W W' := by
  obtain ⟨τ, hT⟩ := tables hL
  have hrun : callKS ends.env 100000 [11] ends.tabs 100 3 [.opq 18, .opq 19, .agg [.opq 20, .opq 21, .opq 22], .bool z] (startK (ends.env.ng + 5) (typed ends.tabs τ)) isTrueK = true := by
    cases z
    · exact ends.run_host_false τ
    · exact ends.run_host_true τ
  have ha : relL (startE ends.env.ng [.int .i64 n, l, .int .i64 x, .int .i64 y, .int .i64 c]) [.opq 18, .opq 19, .agg [.opq 20, .opq 21, .opq 22], .bool z] [Value.int .i64 n, l, .agg #[.int .i64 x, .int .i64 y, .int .i64 c], .bool z] :=
    relL_cons.2 ⟨opq_rel (i := 0) rfl rfl, relL_cons.2 ⟨opq_rel (i := 1) rfl hl, relL_cons.2 ⟨agg_rel (l := [.int .i64 x, .int .i64 y, .int .i64 c]) (relL_cons.2 ⟨opq_rel (i := 2) rfl rfl, relL_cons.2 ⟨opq_rel (i := 3) rfl rfl, relL_cons.2 ⟨opq_rel (i := 4) rfl rfl, relL_nil⟩⟩⟩), relL_cons.2 ⟨bool_rel, relL_nil⟩⟩⟩⟩
  refine (run_sums ends.env_ok (W := W) (vs := [.int .i64 n, l, .int .i64 x, .int .i64 y, .int .i64 c]) (T := ends.tabs) ends.tabs_lt ends.tabs_lt2 (ends.tabs_at hT) ends.sum_lives ha hrun).mono ?_
  rintro e W' ⟨x, x', ρ', m', rfl, hx, hq, ho⟩
  exact ⟨by rw [isTrueK_true hq hx], ho⟩

set_option maxRecDepth 100000 in
theorem contract (H : Type) (enc : TypeId × Value → H) (W : World) (base : Nat) (args : Array Value) (ds gs : List (DataW H)) (before : List MemPlace)
    (hval : ∀ (j : Nat) t v, Tryz.f3.params[j]? = some t → args[j]? = some v → Value.okWide Tryz.prog W .any base t v)
    (hW : DataW.Whole enc Tryz.prog Tryz.f3.params.toList Rows.hostNilSpec.vars false W args.toList ds gs before) (hL : laidMetH Tryz.prog Rows.hostNilRow.laid W) :
    Calls Tryz.prog 3 args W fun e W' => ∃ v, e = .returned v ∧ Rows.hostNilSpec.post enc Tryz.prog Tryz.f3 false true false false W args v W' := by
  have hW' := hW
  have hlt := hW.lt
  obtain ⟨p, q, hA0, hV, rfl, hfz, hnd⟩ := hW
  have hA : DataW.TrodAll enc Tryz.prog W 0 (fun _ => true) true Tryz.f3.params.toList args.toList ds p := hA0
  rw [Tryz.params3] at hA hval
  obtain ⟨v0, v1, v2, v3, d0, d1, d2, d3, p0, p1, p2, p3, rfl, rfl, rfl, h0, h1, h2, h3⟩ := trodAll_four hA
  obtain ⟨rfl, rfl⟩ := trodVars_none hV
  obtain ⟨n, rfl⟩ := open_int (hval 0 3 v0 rfl rfl)
  have hl := open_list (hval 1 22 v1 rfl rfl)
  obtain ⟨x, y, c, rfl⟩ := open_bounds (hval 2 24 v2 rfl rfl)
  obtain ⟨z, rfl⟩ := open_flag (hval 3 4 v3 rfl rfl)
  clear hA0
  simp only [List.append_nil] at hW' hlt
  refine (walk hL hl).mono fun e W' ⟨he, ho⟩ => ?_
  subst he
  refine ⟨_, rfl, post_of_old (pa := p0 ++ (p1 ++ (p2 ++ p3))) (pv := []) hW' (fun _ _ _ => trodAll_mk1 (shut_bool Tryz.underlying4 _)) (fun sp hsp => ?_) (fun _ _ => rfl) (by simp) ho (ok_one (by kernel_rfl) rfl (okWide_bool_mk Tryz.underlying4 _))⟩
  exact trodAll_mk4 (WideElems.Trod_stays laidOut (by kernel_rfl) (by decide) h0 (fun x hx => ho.same (hlt x (by simp [hx]))) (fun x hx => hsp x (by simp [hx])))
    (WideElems.Trod_stays laidOut (by kernel_rfl) (by decide) h1 (fun x hx => ho.same (hlt x (by simp [hx]))) (fun x hx => hsp x (by simp [hx])))
    (WideElems.Trod_stays laidOut (by kernel_rfl) (by decide) h2 (fun x hx => ho.same (hlt x (by simp [hx]))) (fun x hx => hsp x (by simp [hx])))
    (WideElems.Trod_stays laidOut (by kernel_rfl) (by decide) h3 (fun x hx => ho.same (hlt x (by simp [hx]))) (fun x hx => hsp x (by simp [hx])))

end Go.Proofs.YthcnjmgdmcgflaaGreatDoor.hostNil
