/- 'jacquardlaw24.ExecNil' returns true for every call and both flags, and its arguments read as before: the call's contract. Conditions: the row's own. -/
import Derived.Test.YtaakjjddlbdicaaGreatDoorRows
import Derived.Test.YtaakjjddlbdicaaGreatDoorEndRunTrue
import Derived.Test.YtaakjjddlbdicaaGreatDoorEndRunFalse
import Derived.ProofKit
import Derived.LaidMore
import Derived.OpenShut
namespace Go.Proofs.YtaakjjddlbdicaaGreatDoor.execNil
open Go.ChangeShapes Go.WideShapes Go.ChangeAt Go.RowKit Go.Ev

theorem own : ownKnob Tryz.prog.godebug = none := by kernel_rfl
theorem laidOut : laidOutB Tryz.prog = true := by kernel_rfl

/-! what the row's list gives -/

theorem laid_at {P : Program} {W : World} : ∀ {l : List (String × DataW Unit)} {ps : List MemPlace}, DataW.LaidVars P W l ps → ∀ {n : String} {d : DataW Unit}, (n, d) ∈ l →
    ∃ g t cs fuel p, P.globalNamed n = some g ∧ (P.globals[g]?).map (·.type) = some t ∧ W.var? P n = some cs ∧ DataW.trod (fun _ => ()) P W 0 (fun _ => true) false fuel t cs.toList = some (d, p) ∧ ∀ x ∈ MemPlace.row ⟨g, 0, none⟩ cs.size, x ∈ ps
  | [], ps, _, n, d, hm => by cases hm
  | (n0, d0) :: l, ps, h, n, d, hm => by
    obtain ⟨g, t, cs, fuel, p, q, h1, h2, h3, h4, h5, rfl⟩ := h
    rcases List.mem_cons.1 hm with he | hm
    · obtain ⟨rfl, rfl⟩ := Prod.mk.inj he
      exact ⟨g, t, cs, fuel, p, h1, h2, h3, h4, fun x hx => List.mem_append_left _ (List.mem_append_left _ hx)⟩
    · obtain ⟨g', t', cs', fuel', p', e1, e2, e3, e4, e5⟩ := laid_at h5 hm
      exact ⟨g', t', cs', fuel', p', e1, e2, e3, e4, fun x hx => List.mem_append_right _ (e5 x hx)⟩

theorem tab_at {P : Program} {W : World} {l : List (String × DataW Unit)} {name : String} {k : IntKind} {zs : List Int} {g t e n : Nat} (h : laidMet P l W) (hm : (name, Lib.tabData k zs) ∈ l)
    (hg : P.globalNamed name = some g) (hty : (P.globals[g]?).map (·.type) = some t) (ht : P.underlying t = some (.array n e)) (he : P.underlying e = some (.int k)) (hce : P.cellsOf e = 1) (hct : P.cellsOf t = n) (hz : 0 < zs.length) :
    ∃ u, TabAt W g u k zs := by
  obtain ⟨ps, hv, _, hc⟩ := h
  obtain ⟨g', t', cs, fuel, p, h1, h2, h3, h4, h5⟩ := laid_at hv hm
  obtain rfl := Option.some.inj (hg.symm.trans h1)
  obtain rfl := Option.some.inj (hty.symm.trans h2)
  have hcs := Lib.cells_of_tab ht he hce hct h4
  have hsz : cs.size = zs.length := by
    have := congrArg List.length hcs
    simpa using this
  obtain ⟨c, u, hu⟩ := (hc g 0 (h5 _ (by
    simp only [MemPlace.row, List.mem_map, List.mem_range]
    exact ⟨0, by omega, rfl⟩))).1
  refine ⟨u, ?_⟩
  unfold World.var? at h3
  rw [hg] at h3
  simp only [Option.bind_some, hu, Option.some.injEq] at h3
  unfold TabAt
  rw [hu]
  have : c = (zs.map (Value.int k)).toArray := by
    apply Array.ext'
    rw [h3, hcs]
  rw [this]

theorem at13 : Rows.execNilRow.laid[0]? = some ("strings.asciiSpace", Lib.tabData .u8 space) := by kernel_rfl
theorem at8 : Rows.execNilRow.laid[12]? = some ("jacquard/plain.sums", Lib.tabData .u8 sums) := by kernel_rfl
theorem at11 : Rows.execNilRow.laid[5]? = some ("jacquard/ints.widths", Lib.tabData .i64 widths) := by kernel_rfl

theorem tables {W : World} (h : laidMetH Tryz.prog Rows.execNilRow.laid W) : ∃ u v w, TabAt W 13 u .u8 space ∧ TabAt W 8 v .u8 sums ∧ TabAt W 11 w .i64 widths := by
  rw [MakeChecks.laidMetH_plain _ _ _ (by kernel_rfl)] at h
  obtain ⟨u, hu⟩ := tab_at (g := 13) (t := 602) (e := 5) (n := 256) h (List.mem_of_getElem? at13) (by kernel_rfl) (by kernel_rfl) (by kernel_rfl) (by kernel_rfl) (by kernel_rfl) (by kernel_rfl) (of_decide_eq_true (by kernel_rfl))
  obtain ⟨v, hv⟩ := tab_at (g := 8) (t := 445) (e := 411) (n := 15) h (List.mem_of_getElem? at8) (by kernel_rfl) (by kernel_rfl) (by kernel_rfl) (by kernel_rfl) (by kernel_rfl) (by kernel_rfl) (of_decide_eq_true (by kernel_rfl))
  obtain ⟨w, hw⟩ := tab_at (g := 11) (t := 578) (e := 3) (n := 4) h (List.mem_of_getElem? at11) (by kernel_rfl) (by kernel_rfl) (by kernel_rfl) (by kernel_rfl) (by kernel_rfl) (by kernel_rfl) (of_decide_eq_true (by kernel_rfl))
  exact ⟨u, v, w, hu, hv, hw⟩

/-! the cells of the argument -/

theorem cell_int {P : Program} {W : World} {b t : Nat} {k : IntKind} {v : Value} (hu : P.underlying t = some (.int k)) (h : Cell.okWide P W .any b t v) : okOpq v = true := by
  cases v <;> first | rfl | (simp [Cell.okWide, Cell.ok, hu] at h; done)
theorem cell_slice {P : Program} {W : World} {b t e : Nat} {v : Value} (hu : P.underlying t = some (.slice e)) (h : Cell.okWide P W .any b t v) : okOpq v = true := by
  cases v <;> first | rfl | (simp [Cell.okWide, Cell.ok, hu] at h; done)
theorem cell_bool {P : Program} {W : World} {b t : Nat} {v : Value} (hu : P.underlying t = some .bool) (h : Cell.okWide P W .any b t v) : ∃ q, v = .bool q := by
  cases v <;> first | exact ⟨_, rfl⟩ | (simp [Cell.okWide, Cell.ok, hu] at h; done)

theorem types27 : Tryz.prog.cellTypes Tryz.prog.depth 27 = some [3, 22, 4, 3, 3, 3, 25] := by kernel_rfl

theorem cells27 : Tryz.prog.cellsOf 27 = 7 := by kernel_rfl

theorem open_seven {P : Program} {W : World} {b t ti ts tb tr : Nat} {v : Value} {fs : Array Field} {k : IntKind} {e1 e2 : Nat} (hu : P.underlying t = some (.struct fs)) (h7 : P.cellsOf t = 7) (hty : P.cellTypes P.depth t = some [ti, ts, tb, ti, ti, ti, tr])
    (hi : P.underlying ti = some (.int k)) (hs : P.underlying ts = some (.slice e1)) (hb : P.underlying tb = some .bool) (hr : P.underlying tr = some (.slice e2)) (h : Value.okWide P W .any b t v) :
    ∃ (a0 a1 a3 a4 a5 a6 : Value) (q : Bool), v = .agg #[a0, a1, .bool q, a3, a4, a5, a6] ∧ okOpq a0 = true ∧ okOpq a1 = true ∧ okOpq a3 = true ∧ okOpq a4 = true ∧ okOpq a5 = true ∧ okOpq a6 = true := by
  unfold Value.okWide at h
  rw [hu] at h
  obtain ⟨cs, rfl, hsz, l, hl, _, hc⟩ := h
  have hl' : l = [ti, ts, tb, ti, ti, ti, tr] := (Option.some.inj (hty.symm.trans hl)).symm
  subst hl'
  rw [h7] at hsz
  obtain ⟨l⟩ := cs
  match l, hsz with
  | [a0, a1, a2, a3, a4, a5, a6], _ =>
    have get (i : Nat) (x : Value) (u : Nat) (hx : (#[a0, a1, a2, a3, a4, a5, a6] : Array Value)[i]? = some x) (hu : ([ti, ts, tb, ti, ti, ti, tr] : List Nat)[i % 7]? = some u) : Cell.okWide P W .any b u x := by
      obtain ⟨u', h1, h2⟩ := hc i x hx
      have : u' = u := Option.some.inj (h1.symm.trans hu)
      subst this
      exact h2
    obtain ⟨q, rfl⟩ := cell_bool hb (get 2 a2 tb rfl rfl)
    exact ⟨a0, a1, a3, a4, a5, a6, q, rfl, cell_int hi (get 0 a0 ti rfl rfl), cell_slice hs (get 1 a1 ts rfl rfl), cell_int hi (get 3 a3 ti rfl rfl), cell_int hi (get 4 a4 ti rfl rfl), cell_int hi (get 5 a5 ti rfl rfl), cell_slice hr (get 6 a6 tr rfl rfl)⟩

set_option maxRecDepth 100000 in
theorem open_call {W : World} {b : Nat} {v : Value} (h : Value.okWide Tryz.prog W .any b 27 v) :
    ∃ (a0 a1 a3 a4 a5 a6 : Value) (q : Bool), v = .agg #[a0, a1, .bool q, a3, a4, a5, a6] ∧ okOpq a0 = true ∧ okOpq a1 = true ∧ okOpq a3 = true ∧ okOpq a4 = true ∧ okOpq a5 = true ∧ okOpq a6 = true :=
  open_seven Tryz.underlying27 cells27 types27 Tryz.underlying3 Tryz.underlying22 Tryz.underlying4 Tryz.underlying25 h

/-- The call. -/
theorem walk {W : World} (hL : laidMetH Tryz.prog Rows.execNilRow.laid W) {a0 a1 a3 a4 a5 a6 : Value} {q z : Bool} (h0 : okOpq a0 = true) (h1 : okOpq a1 = true) (h3 : okOpq a3 = true) (h4 : okOpq a4 = true) (h5 : okOpq a5 = true) (h6 : okOpq a6 = true) :
    Calls Tryz.prog 3 #[.agg #[a0, a1, .bool q, a3, a4, a5, a6], .bool z] W fun e W' => e = .returned (.bool true) ∧ Old W W' := by
  obtain ⟨u, v, w, t13, t8, t11⟩ := tables hL
  have hmem : ∀ x ∈ tabs u v w, x = (13, tabV .u8 space, u) ∨ x = (8, tabV .u8 sums, v) ∨ x = (11, tabV .i64 widths, w) := fun x hx => by
    simpa [tabs] using hx
  have hlt : ∀ x ∈ tabs u v w, x.1 < 18 := fun x hx => by
    rcases hmem x hx with rfl | rfl | rfl
    · exact show (13 : Nat) < 18 by decide
    · exact show (8 : Nat) < 18 by decide
    · exact show (11 : Nat) < 18 by decide
  have hrun : callK env 100000 100 3 [.agg [.opq a0, .opq a1, .bool q, .opq a3, .opq a4, .opq a5, .opq a6], .bool z] (startK env.ng (tabs u v w)) isTrue = true := by
    cases z
    · exact run_false u v w a0 a1 a3 a4 a5 a6 q
    · exact run_true u v w a0 a1 a3 a4 a5 a6 q
  have ha : relL (startE env.ng) [.agg [.opq a0, .opq a1, .bool q, .opq a3, .opq a4, .opq a5, .opq a6], .bool z] (#[Value.agg #[a0, a1, .bool q, a3, a4, a5, a6], .bool z] : Array Value).toList := by
    simp [relL, AVal.rel, h0, h1, h3, h4, h5, h6]
  refine (run_closed env_ok (W := W) (l := tabs u v w) hlt (fun x hx => Nat.lt_trans (hlt x hx) (by decide)) (fun x hx => ?_) ha hrun).mono ?_
  · rcases hmem x hx with rfl | rfl | rfl
    · exact ⟨.u8, space, rfl, t13⟩
    · exact ⟨.u8, sums, rfl, t8⟩
    · exact ⟨.i64, widths, rfl, t11⟩
  · rintro e W' ⟨x, x', ρ', m', rfl, hx, hq, ho⟩
    refine ⟨?_, ho⟩
    cases x with
    | bool b =>
      simp only [isTrue] at hq
      subst hq
      rw [rel_bool'] at hx
      rw [hx]
    | _ => simp [isTrue] at hq

set_option maxRecDepth 100000 in
theorem contract (H : Type) (enc : TypeId × Value → H) (W : World) (base : Nat) (args : Array Value) (ds gs : List (DataW H)) (before : List MemPlace)
    (hval : ∀ (j : Nat) t v, Tryz.f3.params[j]? = some t → args[j]? = some v → Value.okWide Tryz.prog W .any base t v)
    (hW : DataW.Whole enc Tryz.prog Tryz.f3.params.toList Rows.execNilSpec.vars false W args.toList ds gs before) (hL : laidMetH Tryz.prog Rows.execNilRow.laid W) :
    Calls Tryz.prog 3 args W fun e W' => ∃ v, e = .returned v ∧ Rows.execNilSpec.post enc Tryz.prog Tryz.f3 false true false false W args v W' := by
  have hW' := hW
  have hlt := hW.lt
  obtain ⟨p, q, hA0, hV, rfl, hfz, hnd⟩ := hW
  have hA : DataW.TrodAll enc Tryz.prog W 0 (fun _ => true) true Tryz.f3.params.toList args.toList ds p := hA0
  rw [Tryz.params3] at hA hval
  obtain ⟨v0, v1, d0, d1, p0, p1, rfl, rfl, rfl, h0, h1⟩ := trodAll_two hA
  obtain ⟨rfl, rfl⟩ := trodVars_none hV
  obtain ⟨z, rfl, rfl, rfl⟩ := open_bool Tryz.underlying4 (hval 1 4 v1 rfl rfl) h1
  obtain ⟨a0, a1, a3, a4, a5, a6, q, rfl, k0, k1, k3, k4, k5, k6⟩ := open_call (hval 0 27 v0 rfl rfl)
  clear hA0
  simp only [List.append_nil] at hW' hlt
  refine (walk hL k0 k1 k3 k4 k5 k6).mono fun e W' ⟨he, ho⟩ => ?_
  subst he
  refine ⟨_, rfl, post_of_old (pa := p0 ++ []) (pv := []) hW' (fun _ _ _ => trodAll_mk1 (shut_bool Tryz.underlying4 _)) (fun sp hsp => ?_) (fun _ _ => rfl) (by simp) ho (ok_one (by kernel_rfl) rfl (okWide_bool_mk Tryz.underlying4 _))⟩
  exact trodAll_mk2 (WideElems.Trod_stays laidOut (by kernel_rfl) (by decide) h0 (fun x hx => ho.same (hlt x hx)) (fun x hx => hsp x hx)) (shut_bool Tryz.underlying4 _)

end Go.Proofs.YtaakjjddlbdicaaGreatDoor.execNil
