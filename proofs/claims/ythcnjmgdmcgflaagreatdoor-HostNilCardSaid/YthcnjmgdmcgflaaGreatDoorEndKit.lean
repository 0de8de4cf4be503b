/- What the row's list gives of the tables, and what a read argument's cells are: for any program. No conditions. -/
import Derived.Test.YthcnjmgdmcgflaaGreatDoorEvSum
import Derived.ProofKit
import Derived.LaidMore
namespace Go.Ev
open Go.ChangeShapes Go.WideShapes Go.ChangeAt Go.RowKit

theorem laid_at {P : Program} {W : World} : ∀ {l : List (String × DataW Unit)} {ps : List MemPlace}, DataW.LaidVars P W l ps → ∀ {n : String} {d : DataW Unit}, (n, d) ∈ l →
    ∃ g t cs fuel p, P.globalNamed n = some g ∧ (P.globals[g]?).map (·.type) = some t ∧ W.var? P n = some cs ∧ DataW.trod (fun _ => ()) P W 0 (fun _ => true) false fuel t cs.toList = some (d, p) ∧ ∀ x ∈ MemPlace.row ⟨g, 0, none⟩ cs.size, x ∈ ps
  | [], ps, _, n, d, hm => by cases hm
  | (n0, d0) :: l, ps, h, n, d, hm => by
    obtain ⟨g, t, cs, fuel, p, q, h1, h2, h3, h4, h5, rfl⟩ := h
    rcases List.mem_cons.1 hm with he | hm
    · obtain ⟨rfl, rfl⟩ := Prod.mk.inj he
      exact ⟨g, t, cs, fuel, p, h1, h2, h3, h4, fun x hx => List.mem_append_left _ (List.mem_append_left _ hx)⟩
    · obtain ⟨g', t', cs', fuel', p', e1, e2, e3, e4, e5⟩ := laid_at h5 hm
      exact ⟨g', t', cs', fuel', p', e1, e2, e3, e4, fun x hx => List.mem_append_right _ (e5 x hx)⟩

theorem tab_at {P : Program} {W : World} {l : List (String × DataW Unit)} {name : String} {k : IntKind} {zs : List Int} {g t e n : Nat} (h : laidMet P l W) (hm : (name, Lib.tabData k zs) ∈ l)
    (hg : P.globalNamed name = some g) (hty : (P.globals[g]?).map (·.type) = some t) (ht : P.underlying t = some (.array n e)) (he : P.underlying e = some (.int k)) (hce : P.cellsOf e = 1) (hct : P.cellsOf t = n) (hz : 0 < zs.length) :
    ∃ u, TabAt W g u k zs := by
  obtain ⟨ps, hv, _, hc⟩ := h
  obtain ⟨g', t', cs, fuel, p, h1, h2, h3, h4, h5⟩ := laid_at hv hm
  obtain rfl := Option.some.inj (hg.symm.trans h1)
  obtain rfl := Option.some.inj (hty.symm.trans h2)
  have hcs := Lib.cells_of_tab ht he hce hct h4
  have hsz : cs.size = zs.length := by
    have := congrArg List.length hcs
    simpa using this
  obtain ⟨c, u, hu⟩ := (hc g 0 (h5 _ (by
    simp only [MemPlace.row, List.mem_map, List.mem_range]
    exact ⟨0, by omega, rfl⟩))).1
  refine ⟨u, ?_⟩
  unfold World.var? at h3
  rw [hg] at h3
  simp only [Option.bind_some, hu, Option.some.injEq] at h3
  unfold TabAt
  rw [hu]
  have : c = (zs.map (Value.int k)).toArray := by
    apply Array.ext'
    rw [h3, hcs]
  rw [this]

/-! the cells of the arguments -/

theorem cell_int {P : Program} {W : World} {b t : Nat} {k : IntKind} {v : Value} (hu : P.underlying t = some (.int k)) (h : Cell.okWide P W .any b t v) : ∃ n, v = .int k n ∧ k.min ≤ n ∧ n ≤ k.max := by
  cases v <;> simp [Cell.okWide, Cell.ok, hu] at h
  obtain ⟨rfl, h⟩ := h
  exact ⟨_, rfl, h⟩
theorem cell_slice {P : Program} {W : World} {b t e : Nat} {v : Value} (hu : P.underlying t = some (.slice e)) (h : Cell.okWide P W .any b t v) : okOpq v = true := by
  cases v <;> first | rfl | (simp [Cell.okWide, Cell.ok, hu] at h; done)
theorem cell_bool {P : Program} {W : World} {b t : Nat} {v : Value} (hu : P.underlying t = some .bool) (h : Cell.okWide P W .any b t v) : ∃ q, v = .bool q := by
  cases v <;> first | exact ⟨_, rfl⟩ | (simp [Cell.okWide, Cell.ok, hu] at h; done)

theorem wide_cell {P : Program} {W : World} {b t : Nat} {v : Value} {d : TypeDesc} (hu : P.underlying t = some d) (hd : isAggD d = false) (h : Value.okWide P W .any b t v) : Cell.okWide P W .any b t v := by
  unfold Value.okWide at h
  rw [hu] at h
  cases d <;> first | exact h | (simp [isAggD] at hd; done)

theorem open_three {P : Program} {W : World} {b t ti : Nat} {v : Value} {fs : Array Field} {k : IntKind} (hu : P.underlying t = some (.struct fs)) (h3 : P.cellsOf t = 3) (hty : P.cellTypes P.depth t = some [ti, ti, ti])
    (hi : P.underlying ti = some (.int k)) (h : Value.okWide P W .any b t v) :
    ∃ x y z, v = .agg #[.int k x, .int k y, .int k z] ∧ (k.min ≤ x ∧ x ≤ k.max) ∧ (k.min ≤ y ∧ y ≤ k.max) ∧ (k.min ≤ z ∧ z ≤ k.max) := by
  unfold Value.okWide at h
  rw [hu] at h
  obtain ⟨cs, rfl, hsz, l, hl, _, hc⟩ := h
  have hl' : l = [ti, ti, ti] := (Option.some.inj (hty.symm.trans hl)).symm
  subst hl'
  rw [h3] at hsz
  obtain ⟨l⟩ := cs
  match l, hsz with
  | [a0, a1, a2], _ =>
    have get (i : Nat) (x : Value) (u : Nat) (hx : (#[a0, a1, a2] : Array Value)[i]? = some x) (hu : ([ti, ti, ti] : List Nat)[i % 3]? = some u) : Cell.okWide P W .any b u x := by
      obtain ⟨u', h1, h2⟩ := hc i x hx
      have : u' = u := Option.some.inj (h1.symm.trans hu)
      subst this
      exact h2
    obtain ⟨x, rfl, hx⟩ := cell_int hi (get 0 a0 ti rfl rfl)
    obtain ⟨y, rfl, hy⟩ := cell_int hi (get 1 a1 ti rfl rfl)
    obtain ⟨z, rfl, hz⟩ := cell_int hi (get 2 a2 ti rfl rfl)
    exact ⟨x, y, z, rfl, hx, hy, hz⟩

theorem opq_rel {ng : Nat} {vs : List Value} {i : Nat} {v : Value} (h : vs[i]? = some v) (ho : okOpq v = true) : (AVal.opq (ng + i)).rel (startE ng vs) v := by
  simp only [AVal.rel]
  exact ⟨_, slot h, rfl, ho⟩

theorem rng_rel {ng : Nat} {vs : List Value} {i : Nat} {k : IntKind} {lo hi x : Int} (h : vs[i]? = some (.int k x)) (h1 : lo ≤ x) (h2 : x ≤ hi) : (AVal.rng k lo hi (ng + i)).rel (startE ng vs) (.int k x) := by
  simp only [AVal.rel]
  exact ⟨_, x, slot h, rfl, rfl, h1, h2⟩

theorem int_rel {ρ : Emb} {k : IntKind} {x : Int} : (AVal.int k x).rel ρ (.int k x) := by simp [AVal.rel]
theorem bool_rel {ρ : Emb} {b : Bool} : (AVal.bool b).rel ρ (.bool b) := by simp [AVal.rel]
theorem agg_rel {ρ : Emb} {a : List AVal} {l : List Value} (h : relL ρ a l) : (AVal.agg a).rel ρ (.agg l.toArray) := by
  simp only [AVal.rel]
  exact ⟨_, rfl, by simpa using h⟩

/-- it is true -/
theorem isTrueK_true {v : AVal} {m : MK} {ρ : Emb} {v' : Value} (h : isTrueK v m = true) (hr : v.rel ρ v') : v' = .bool true := by
  obtain ⟨b, rfl, rfl⟩ := onBool_true h
  simpa [AVal.rel] using hr

end Go.Ev
