/- What the row's list gives of the tables, and what a read argument's cells are: for any program. No conditions. -/
import Derived.Test.YtnklododmdplmaaGreatDoorEvEng
import Derived.ProofKit
import Derived.LaidMore
import Derived.LaidHandle
import Derived.Lay
namespace Go.Ev
open Go.ChangeShapes Go.WideShapes Go.ChangeAt Go.RowKit

theorem laid_at {P : Program} {W : World} : ∀ {l : List (String × DataW Unit)} {ps : List MemPlace}, DataW.LaidVars P W l ps → ∀ {n : String} {d : DataW Unit}, (n, d) ∈ l →
    ∃ g t cs fuel p, P.globalNamed n = some g ∧ (P.globals[g]?).map (·.type) = some t ∧ W.var? P n = some cs ∧ DataW.trod (fun _ => ()) P W 0 (fun _ => true) false fuel t cs.toList = some (d, p) ∧ ∀ x ∈ MemPlace.row ⟨g, 0, none⟩ cs.size, x ∈ ps
  | [], ps, _, n, d, hm => by cases hm
  | (n0, d0) :: l, ps, h, n, d, hm => by
    obtain ⟨g, t, cs, fuel, p, q, h1, h2, h3, h4, h5, rfl⟩ := h
    rcases List.mem_cons.1 hm with he | hm
    · obtain ⟨rfl, rfl⟩ := Prod.mk.inj he
      exact ⟨g, t, cs, fuel, p, h1, h2, h3, h4, fun x hx => List.mem_append_left _ (List.mem_append_left _ hx)⟩
    · obtain ⟨g', t', cs', fuel', p', e1, e2, e3, e4, e5⟩ := laid_at h5 hm
      exact ⟨g', t', cs', fuel', p', e1, e2, e3, e4, fun x hx => List.mem_append_right _ (e5 x hx)⟩

theorem tab_at {P : Program} {W : World} {l : List (String × DataW Unit)} {name : String} {k : IntKind} {zs : List Int} {g t e n : Nat} (h : laidMet P l W) (hm : (name, Lib.tabData k zs) ∈ l)
    (hg : P.globalNamed name = some g) (hty : (P.globals[g]?).map (·.type) = some t) (ht : P.underlying t = some (.array n e)) (he : P.underlying e = some (.int k)) (hce : P.cellsOf e = 1) (hct : P.cellsOf t = n) (hz : 0 < zs.length) :
    ∃ u, TabAt W g u k zs := by
  obtain ⟨ps, hv, _, hc⟩ := h
  obtain ⟨g', t', cs, fuel, p, h1, h2, h3, h4, h5⟩ := laid_at hv hm
  obtain rfl := Option.some.inj (hg.symm.trans h1)
  obtain rfl := Option.some.inj (hty.symm.trans h2)
  have hcs := Lib.cells_of_tab ht he hce hct h4
  have hsz : cs.size = zs.length := by
    have := congrArg List.length hcs
    simpa using this
  obtain ⟨c, u, hu⟩ := (hc g 0 (h5 _ (by
    simp only [MemPlace.row, List.mem_map, List.mem_range]
    exact ⟨0, by omega, rfl⟩))).1
  refine ⟨u, ?_⟩
  unfold World.var? at h3
  rw [hg] at h3
  simp only [Option.bind_some, hu, Option.some.injEq] at h3
  unfold TabAt
  rw [hu]
  have : c = (zs.map (Value.int k)).toArray := by
    apply Array.ext'
    rw [h3, hcs]
  rw [this]

/-! the cells of the arguments -/

theorem cell_int {P : Program} {W : World} {b t : Nat} {k : IntKind} {v : Value} (hu : P.underlying t = some (.int k)) (h : Cell.okWide P W .any b t v) : ∃ n, v = .int k n ∧ k.min ≤ n ∧ n ≤ k.max := by
  cases v <;> simp [Cell.okWide, Cell.ok, hu] at h
  obtain ⟨rfl, h⟩ := h
  exact ⟨_, rfl, h⟩
theorem cell_slice {P : Program} {W : World} {b t e : Nat} {v : Value} (hu : P.underlying t = some (.slice e)) (h : Cell.okWide P W .any b t v) : okOpq v = true := by
  cases v <;> first | rfl | (simp [Cell.okWide, Cell.ok, hu] at h; done)
theorem cell_bool {P : Program} {W : World} {b t : Nat} {v : Value} (hu : P.underlying t = some .bool) (h : Cell.okWide P W .any b t v) : ∃ q, v = .bool q := by
  cases v <;> first | exact ⟨_, rfl⟩ | (simp [Cell.okWide, Cell.ok, hu] at h; done)

theorem wide_cell {P : Program} {W : World} {b t : Nat} {v : Value} {d : TypeDesc} (hu : P.underlying t = some d) (hd : isAggD d = false) (h : Value.okWide P W .any b t v) : Cell.okWide P W .any b t v := by
  unfold Value.okWide at h
  rw [hu] at h
  cases d <;> first | exact h | (simp [isAggD] at hd; done)

theorem open_three {P : Program} {W : World} {b t ti : Nat} {v : Value} {fs : Array Field} {k : IntKind} (hu : P.underlying t = some (.struct fs)) (h3 : P.cellsOf t = 3) (hty : P.cellTypes P.depth t = some [ti, ti, ti])
    (hi : P.underlying ti = some (.int k)) (h : Value.okWide P W .any b t v) :
    ∃ x y z, v = .agg #[.int k x, .int k y, .int k z] ∧ (k.min ≤ x ∧ x ≤ k.max) ∧ (k.min ≤ y ∧ y ≤ k.max) ∧ (k.min ≤ z ∧ z ≤ k.max) := by
  unfold Value.okWide at h
  rw [hu] at h
  obtain ⟨cs, rfl, hsz, l, hl, _, hc⟩ := h
  have hl' : l = [ti, ti, ti] := (Option.some.inj (hty.symm.trans hl)).symm
  subst hl'
  rw [h3] at hsz
  obtain ⟨l⟩ := cs
  match l, hsz with
  | [a0, a1, a2], _ =>
    have get (i : Nat) (x : Value) (u : Nat) (hx : (#[a0, a1, a2] : Array Value)[i]? = some x) (hu : ([ti, ti, ti] : List Nat)[i % 3]? = some u) : Cell.okWide P W .any b u x := by
      obtain ⟨u', h1, h2⟩ := hc i x hx
      have : u' = u := Option.some.inj (h1.symm.trans hu)
      subst this
      exact h2
    obtain ⟨x, rfl, hx⟩ := cell_int hi (get 0 a0 ti rfl rfl)
    obtain ⟨y, rfl, hy⟩ := cell_int hi (get 1 a1 ti rfl rfl)
    obtain ⟨z, rfl, hz⟩ := cell_int hi (get 2 a2 ti rfl rfl)
    exact ⟨x, y, z, rfl, hx, hy, hz⟩

theorem opq_rel {ng : Nat} {vs : List Value} {i : Nat} {v : Value} (h : vs[i]? = some v) (ho : okOpq v = true) : (AVal.opq (ng + i)).rel (startE ng vs) v := by
  simp only [AVal.rel]
  exact ⟨_, slot h, rfl, ho⟩

theorem rng_rel {ng : Nat} {vs : List Value} {i : Nat} {k : IntKind} {lo hi x : Int} (h : vs[i]? = some (.int k x)) (h1 : lo ≤ x) (h2 : x ≤ hi) : (AVal.rng k lo hi (ng + i)).rel (startE ng vs) (.int k x) := by
  simp only [AVal.rel]
  exact ⟨_, x, slot h, rfl, rfl, h1, h2⟩

theorem int_rel {ρ : Emb} {k : IntKind} {x : Int} : (AVal.int k x).rel ρ (.int k x) := by simp [AVal.rel]
theorem bool_rel {ρ : Emb} {b : Bool} : (AVal.bool b).rel ρ (.bool b) := by simp [AVal.rel]
theorem agg_rel {ρ : Emb} {a : List AVal} {l : List Value} (h : relL ρ a l) : (AVal.agg a).rel ρ (.agg l.toArray) := by
  simp only [AVal.rel]
  exact ⟨_, rfl, by simpa using h⟩

/-- it is true -/
theorem isTrueK_true {v : AVal} {m : MK} {ρ : Emb} {v' : Value} (h : isTrueK v m = true) (hr : v.rel ρ v') : v' = .bool true := by
  obtain ⟨b, rfl, rfl⟩ := onBool_true h
  simpa [AVal.rel] using hr

/-! more cells -/

def opqD : TypeDesc → Bool
  | .int _ | .string | .slice _ => true
  | _ => false

theorem cell_opq {P : Program} {W : World} {b t : Nat} {v : Value} {d : TypeDesc} (hu : P.underlying t = some d) (hd : opqD d = true) (h : Cell.okWide P W .any b t v) : okOpq v = true := by
  cases d <;> simp [opqD] at hd <;> cases v <;> first | rfl | (simp [Cell.okWide, Cell.ok, hu] at h; done)

theorem open_cells {P : Program} {W : World} {b t : Nat} {v : Value} {fs : Array Field} {n : Nat} {ts : List Nat} (hu : P.underlying t = some (.struct fs)) (hn : P.cellsOf t = n) (hty : P.cellTypes P.depth t = some ts) (hl : ts.length = n)
    (h : Value.okWide P W .any b t v) : ∃ cs : Array Value, v = .agg cs ∧ cs.size = n ∧ ∀ (i : Nat) (x : Value), cs[i]? = some x → ∃ u, ts[i]? = some u ∧ Cell.okWide P W .any b u x := by
  unfold Value.okWide at h
  rw [hu] at h
  obtain ⟨cs, rfl, hsz, l, hl', _, hc⟩ := h
  have hll : l = ts := (Option.some.inj (hty.symm.trans hl')).symm
  subst hll
  rw [hn] at hsz
  refine ⟨cs, rfl, hsz, fun i x hx => ?_⟩
  obtain ⟨u, h1, h2⟩ := hc i x hx
  have hi : i < n := by
    have := (Array.getElem?_eq_some_iff.1 hx).1
    omega
  have hmod : i % l.length = i := Nat.mod_eq_of_lt (by omega)
  rw [hmod] at h1
  exact ⟨u, h1, h2⟩

/-- the slots of a struct's cells, but for its bools -/
def slotsBut (ng n : Nat) (bs : List (Nat × Bool)) : List AVal := (List.range n).map fun i => match bs.find? (fun p => p.1 == i) with
  | some p => .bool p.2
  | none => .opq (ng + i)

theorem slots_rel {ng : Nat} {cs : Array Value} {n : Nat} {bs : List (Nat × Bool)} (hn : cs.size = n)
    (ho : ∀ (i : Nat) (x : Value), cs[i]? = some x → (match bs.find? (fun p => p.1 == i) with
      | some p => x = .bool p.2
      | none => okOpq x = true)) : relL (startE ng cs.toList) (slotsBut ng n bs) cs.toList := by
  refine relL_of_get (by simp [slotsBut, hn]) fun i a ha => ?_
  unfold slotsBut at ha
  rw [List.getElem?_map, Option.map_eq_some_iff] at ha
  obtain ⟨j, hj, rfl⟩ := ha
  have hji : j = i := by
    rw [List.getElem?_range] at hj
    · exact (Option.some.inj hj).symm
    · have := (List.getElem?_eq_some_iff.1 hj).1
      simp at this
      exact this
  subst hji
  have hlt : j < cs.size := by
    have := (List.getElem?_eq_some_iff.1 hj).1
    simp at this
    omega
  have hx : cs[j]? = some cs[j] := Array.getElem?_eq_getElem hlt
  refine ⟨cs[j], by rw [Array.getElem?_toList]; exact hx, ?_⟩
  have := ho j _ hx
  split
  · rename_i p hp
    rw [hp] at this
    rw [this]
    exact bool_rel
  · rename_i hp
    rw [hp] at this
    exact opq_rel (by rw [Array.getElem?_toList]; exact hx) this

/-! the variable that holds a type's handle -/

theorem handle_met {P : Program} {l : List (String × DataW Unit)} {x : String × DataW Unit} {W : World} (h : laidMetH P l W) (hf : (l.filter fun x => x.2.handleName?.isSome) = [x]) : handlesMet P [x] W := by
  unfold laidMetH at h
  rw [hf] at h
  exact h.2

theorem handle_at {P : Program} {l : List (String × DataW Unit)} {v : String} {d : DataW Unit} {W : World} {nm : List UInt8} {rt t g : Nat} (h : laidMetH P l W) (hf : (l.filter fun x => x.2.handleName?.isSome) = [(v, d)])
    (hd : d.funcsIn?.isNone = true) (hn : d.handleName? = some nm) (hr : (P.cutTypes.find? (·.1 == "internal/reflectlite.rtype")).map (·.2) = some rt)
    (hrow : ((List.range P.types.size).filter fun t => P.rowNamed t nm) = [t]) (hg : P.globalNamed v = some g) :
    ∃ e fr, W.heap[g]? = some (.cells #[.iface rt (.agg #[typeHandle P t])] e fr) := by
  have h1 := handle_met h hf (v, d) (List.mem_singleton.2 rfl)
  have hd' : d.funcsIn? = none := Option.isNone_iff_eq_none.1 hd
  simp only [hd'] at h1
  obtain ⟨name, u, ty, e1, e2, e3, e4, e5⟩ := h1
  obtain rfl := Option.some.inj (hn.symm.trans e1)
  obtain rfl := Option.some.inj (hr.symm.trans e2)
  have hm : ty ∈ (List.range P.types.size).filter fun t => P.rowNamed t nm := List.mem_filter.2 ⟨List.mem_range.2 e3, e4⟩
  rw [hrow] at hm
  obtain rfl := List.mem_singleton.1 hm
  unfold World.var? at e5
  rw [hg] at e5
  simp only [Option.bind_some] at e5
  split at e5
  · rename_i c e fr hq
    injection e5 with e5
    subst e5
    exact ⟨e, fr, hq⟩
  · cases e5

/-- the witness: a world in which the plain variables are laid over another one -/
theorem laid_over {P : Program} {w0 : World} {l : List (String × DataW Unit)} (args : Array Value) (hf : w0.layFits P l [] = true) (hi : w0.layIfaces P l (w0.layVars P l) = true) :
    laidMet P l ((w0.layVars P l).forCall (fun _ _ => 0) ⟨#[], args, []⟩).memory := by
  have e1 : (l.filter fun x => (l.map (·.1)).contains x.1) = l := List.filter_eq_self.2 fun x hx => List.contains_iff_mem.2 (List.mem_map.2 ⟨x, hx, rfl⟩)
  have e2 : (l.filter fun x => !(l.map (·.1)).contains x.1) = [] := List.filter_eq_nil_iff.2 fun x hx => by rw [List.contains_iff_mem.2 (List.mem_map.2 ⟨x, hx, rfl⟩)]; simp
  have h : laidMet P l (w0.layVars P l) := laidMet_layVars (w0 := w0) (l.map (·.1)) [] (by rw [e1]) (by rw [e1]; exact hf) (by rw [e1]; exact hi) (by rw [e2]; exact LaidIn.none)
  exact h.of_heap (by simp [World.memory, World.forCall, Input.heap])

end Go.Ev
