/- A part of the proof that an evaluator of the machine's code is sound (EvEff). No conditions. -/
import Derived.Test.YtnklododmdplmaaGreatDoorEvFresh
namespace Go.Ev

/-! writing into a row -/

/-- the row behind the stores -/
def putRow (cs : Array Value) (off : Nat) : List Value → Array Value
  | [] => cs
  | v :: vs => putRow (cs.setIfInBounds off v) (off + 1) vs

theorem putRow_size : ∀ (vs : List Value) (cs : Array Value) (off : Nat), (putRow cs off vs).size = cs.size
  | [], _, _ => rfl
  | v :: vs, cs, off => by simp only [putRow]; rw [putRow_size vs]; simp

theorem setBlock_same (w : World) (c : Nat) (o : Obj) (h : w.heap[c]? = some o) : { w with heap := w.heap.setIfInBounds c o } = w := by
  have hlt := (Array.getElem?_eq_some_iff.1 h).1
  have : w.heap.setIfInBounds c o = w.heap := by
    apply Array.ext
    · simp
    · intro i h1 h2
      by_cases hi : c = i
      · subst hi; simp; exact ((Array.getElem?_eq_some_iff.1 h).2).symm
      · rw [Array.getElem_setIfInBounds_ne _ hi]
  rw [this]

theorem setCell_block (w : World) (c off e : Nat) (cs : Array Value) (fr : Nat × Nat) (v : Value) (h : w.heap[c]? = some (.cells cs e fr)) : w.setCell ⟨c, off, none⟩ v = { w with heap := w.heap.setIfInBounds c (.cells (cs.setIfInBounds off v) e fr) } := by
  have hlt := (Array.getElem?_eq_some_iff.1 h).1
  have hget := (Array.getElem?_eq_some_iff.1 h).2
  simp only [World.setCell]
  congr 1
  apply Array.ext
  · simp
  · intro i h1 h2
    rw [Array.getElem_modify]
    by_cases hi : c = i
    · subst hi; simp [hget]
    · rw [if_neg hi, Array.getElem_setIfInBounds_ne _ hi]

theorem run_storeCells (P : Program) (c b e : Nat) (fr : Nat × Nat) : ∀ (vs : List Value) (k : Nat) (cs : Array Value) (w : World), w.heap[c]? = some (.cells cs e fr) → b + k + vs.length ≤ cs.size → (∀ i, i < cs.size → ¬ (fr.1 ≤ i ∧ i < fr.2)) → (∀ v ∈ vs, v.oneCell' = true) →
    (storeCells ⟨c, b, none⟩ vs k).run P w = .ok () { w with heap := w.heap.setIfInBounds c (.cells (putRow cs (b + k) vs) e fr) }
  | [], k, cs, w, h, _, _, _ => by
    simp only [storeCells, Sem.run_pure, putRow]
    rw [setBlock_same w c _ h]
  | v :: vs, k, cs, w, h, hlen, hfr, hone => by
    simp only [List.length_cons] at hlen
    have hlt := (Array.getElem?_eq_some_iff.1 h).1
    have hcell : w.cell? (Addr.add ⟨c, b, none⟩ k) = some (cs[b + k]'(by omega)) := by
      rw [addr_add_off]
      simp only [World.cell?, h]
      simp
    have hf : w.frozen? (Addr.add ⟨c, b, none⟩ k) = false := by
      rw [addr_add_off]
      simp only [World.frozen?, h]
      have := hfr (b + k) (by omega)
      simpa using this
    simp only [storeCells, Sem.run_bind, run_store P w _ v .plain (hone v (by simp)), hcell, hf, Bool.false_eq_true, if_false, Result.andThen_ok]
    rw [addr_add_off, setCell_block w c (b + k) e cs fr v h]
    have hnew : ({ w with heap := w.heap.setIfInBounds c (.cells (cs.setIfInBounds (b + k) v) e fr) } : World).heap[c]? = some (.cells (cs.setIfInBounds (b + k) v) e fr) := by
      simp [hlt]
    rw [run_storeCells P c b e fr vs (k + 1) (cs.setIfInBounds (b + k) v) _ hnew (by simp; omega) (by simpa using hfr) (fun u hu => hone u (by simp [hu]))]
    simp only [putRow, Nat.add_assoc]
    congr 2
    simp

theorem isCell_one {ρ : Emb} {x : AVal} {v : Value} (h : x.rel ρ v) (hc : x.isCell = true) : v.oneCell' = true := by
  cases x with
  | agg a => simp [AVal.isCell] at hc
  | tuple a => simp [AVal.isCell] at hc
  | ptr p => cases p with
    | none => simp only [AVal.rel] at h; subst h; rfl
    | some p => simp only [AVal.rel] at h; obtain ⟨_, _, rfl⟩ := h; rfl
  | slice p _ _ _ => cases p with
    | none => simp only [AVal.rel] at h; subst h; rfl
    | some p => simp only [AVal.rel] at h; obtain ⟨_, _, rfl⟩ := h; rfl
  | map p => cases p with
    | none => simp only [AVal.rel] at h; subst h; rfl
    | some p => simp only [AVal.rel] at h; obtain ⟨_, _, rfl⟩ := h; rfl
  | func f a b => simp only [AVal.rel] at h; obtain ⟨_, _, rfl, _⟩ := h; rfl
  | iface t y => simp only [AVal.rel] at h; obtain ⟨_, rfl, _⟩ := h; rfl
  | str s => rw [rel_str] at h; obtain ⟨_, rfl, _⟩ := h; rfl
  | opq y => simp only [AVal.rel] at h; obtain ⟨_, _, _, h⟩ := h; cases v <;> first | rfl | (simp [okOpq] at h; done)
  | rng k lo hi y => simp only [AVal.rel] at h; obtain ⟨_, _, _, _, rfl, _⟩ := h; rfl
  | emp => simp only [AVal.rel] at h; obtain ⟨_, _, rfl⟩ := h; rfl
  | _ => simp only [AVal.rel] at h; subst h; rfl

theorem cells_one {ρ : Emb} : ∀ {xs : List AVal} {vs : List Value}, relL ρ xs vs → xs.all AVal.isCell = true → ∀ v ∈ vs, v.oneCell' = true
  | [], vs, h, _, v, hv => by simp only [relL] at h; subst h; cases hv
  | x :: xs, vs, h, ha, v, hv => by
    simp only [relL] at h
    obtain ⟨y, ys, rfl, h1, h2⟩ := h
    simp only [List.all_cons, Bool.and_eq_true] at ha
    rcases List.mem_cons.1 hv with rfl | hv
    · exact isCell_one h1 ha.1
    · exact cells_one h2 ha.2 v hv

/-- the abstract row and the row -/
theorem putRow_rel {ρ : Emb} (sh : Nat) : ∀ (xs : List AVal) (vs : List Value) (off : Nat) (c : List AVal) (c' : Array Value), relL ρ xs vs → off + xs.length ≤ c.length → sh + c.length ≤ c'.size → (∀ i x, c[i]? = some x → ∃ y, c'[sh + i]? = some y ∧ x.rel ρ y) →
    ∀ i x, (setSeg c off xs)[i]? = some x → ∃ y, (putRow c' (sh + off) vs)[sh + i]? = some y ∧ x.rel ρ y
  | [], vs, off, c, c', h, _, _, hc, i, x, hx => by
    simp only [relL] at h; subst h
    exact hc i x hx
  | u :: xs, vs, off, c, c', h, hl, hs, hc, i, x, hx => by
    simp only [relL] at h
    obtain ⟨y, ys, rfl, h1, h2⟩ := h
    simp only [List.length_cons] at hl
    simp only [setSeg] at hx
    simp only [putRow, Nat.add_assoc]
    refine putRow_rel sh xs ys (off + 1) _ _ h2 (by simp; omega) (by simp; omega) (fun j z hz => ?_) i x hx
    rw [List.getElem?_set] at hz
    by_cases hj : off = j
    · subst hj
      rw [if_pos rfl, if_pos (by omega)] at hz
      injection hz with hz; subst hz
      refine ⟨y, ?_, h1⟩
      rw [Array.getElem?_setIfInBounds_self]
      simp; omega
    · rw [if_neg hj] at hz
      obtain ⟨v, hv, hr⟩ := hc j z hz
      exact ⟨v, by rw [Array.getElem?_setIfInBounds_ne (by omega)]; exact hv, hr⟩

section
variable {E : Env} {P : Program} {ρ : Emb}

/-- An object is put in the place of another one. -/
theorem Trans.of_put {M : Mem} {w : World} {b : Nat} {o o' : AObj} {l : Loc} {ob' : Obj} (hr : Rel E ρ M w) (hg : M.get b = some o) (hw : o.wr = true) (hl : ρ b = some l) (hrel : o'.rel ρ l ob') :
    Trans E ρ M w ρ (M.put b o') { w with heap := w.heap.setIfInBounds l.c ob' } := by
  have hbn := hr.lt b o hg
  obtain ⟨l2, ob, h1, h2, h3⟩ := hr.heap b o hg
  rw [hl] at h1
  injection h1 with h1
  subst h1
  have hlt : l.c < w.heap.size := lt_of_get h2
  have hget (c : Nat) (hc : c ≠ l.c) : (w.heap.setIfInBounds l.c ob')[c]? = w.heap[c]? := Array.getElem?_setIfInBounds_ne (fun e => hc e.symm)
  have hold : ∀ b' o2, (M.put b o').get b' = some o2 → ∃ o3, M.get b' = some o3 ∧ (o2.wr = true → o3.wr = true) := by
    intro b' o2 h
    rw [Mem.get_put] at h
    by_cases hb : b' = b
    · subst hb; exact ⟨o, hg, fun _ => hw⟩
    · rw [if_neg hb] at h; exact ⟨o2, h, id⟩
  refine ⟨Nat.le_refl _, fun _ _ => rfl, ⟨hr.glob, hr.ngle, ?_, ?_, ?_⟩, fun c hc hW => ?_, by simp, ?_, ?_, rfl, rfl, rfl⟩
  · intro b' o2 h
    obtain ⟨o3, h4, _⟩ := hold b' o2 h
    exact hr.lt b' o3 h4
  · intro b' o2 h
    rw [Mem.get_put] at h
    by_cases hb : b' = b
    · subst hb
      rw [if_pos rfl] at h; injection h with h; subst h
      exact ⟨l, ob', hl, by simp [hlt], hrel⟩
    · rw [if_neg hb] at h
      obtain ⟨l3, ob3, h4, h5, h6⟩ := hr.heap b' o2 h
      refine ⟨l3, ob3, h4, ?_, h6⟩
      rw [hget _ (fun e => hb (hr.inj b' b o2 o l3 l h hg h4 hl e))]
      exact h5
  · intro b1 b2 o1 o2 l1 l2 h4 h5 h6 h7 hc
    obtain ⟨o3, h8, _⟩ := hold b1 o1 h4
    obtain ⟨o4, h9, _⟩ := hold b2 o2 h5
    exact hr.inj b1 b2 o3 o4 l1 l2 h8 h9 h6 h7 hc
  · exact hget c (fun e => hW ⟨b, o, l, hg, hw, hl, e.symm⟩)
  · rintro c ⟨b', o2, l2, h4, h5, h6, h7⟩
    obtain ⟨o3, h8, h9⟩ := hold b' o2 h4
    exact .inl ⟨b', o3, l2, h8, h9 h5, h6, h7⟩
  · rintro c ⟨b', o2, l2, h4, h6, h7⟩
    obtain ⟨o3, h8, _⟩ := hold b' o2 h4
    exact .inl ⟨b', o3, l2, h8, h6, h7⟩

/-- A store of cells. -/
theorem putCells_sound {M M' : Mem} {w : World} {b off : Nat} {xs : List AVal} {vs : List Value} {l : Loc} (hr : Rel E ρ M w) (h : putCells M b off xs = some M') (hl : ρ b = some l) (hx : relL ρ xs vs) :
    ∃ w', (storeCells ⟨l.c, l.sh + off, none⟩ vs).run P w = .ok () w' ∧ Trans E ρ M w ρ M' w' := by
  unfold putCells at h
  cases hg : M.get b with
  | none => simp [hg] at h
  | some o =>
    cases o with
    | cells c e opn ro =>
      cases ro with
      | true => simp [hg] at h
      | false =>
        simp only [hg] at h
        cases hb : (Nat.ble (off + xs.length) c.length && xs.all AVal.isCell) with
        | false => simp [hb] at h
        | true =>
          simp only [hb, cond_true, Option.some.injEq] at h
          subst h
          simp only [Bool.and_eq_true] at hb
          have hle := of_ble hb.1
          obtain ⟨l2, ob, h1, h2, h3⟩ := hr.heap b _ hg
          rw [hl] at h1
          injection h1 with h1
          subst h1
          obtain ⟨c', fr, rfl, hs, hc, hf, hz⟩ := h3
          have hlen := relL_length hx
          have hrun := run_storeCells P l.c (l.sh + off) e fr vs 0 c' w h2 (by omega) (hf rfl).out (cells_one hx hb.2)
          refine ⟨_, hrun, Trans.of_put hr hg rfl hl ?_⟩
          rw [Nat.add_zero]
          refine ⟨_, fr, rfl, by rw [setSeg_length, putRow_size]; exact hs, putRow_rel l.sh xs vs off c c' hx hle hs hc, by rw [putRow_size]; exact hf, (fun s hs' => by rw [setSeg_length, putRow_size]; exact hz.1 s hs'), hz.2⟩
    | map es k => simp [hg] at h
    | strIter s p => simp [hg] at h

end
end Go.Ev
