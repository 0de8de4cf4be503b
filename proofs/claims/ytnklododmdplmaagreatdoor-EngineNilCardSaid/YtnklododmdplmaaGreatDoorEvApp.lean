/- A part of the proof that an evaluator of the machine's code is sound (EvApp). No conditions. -/
import Derived.Test.YtnklododmdplmaaGreatDoorEvMap
namespace Go.Ev

section
variable {E : Env} {P : Program} {ρ : Emb}

/-- A block is dropped. -/
theorem Rel.kill {M : Mem} {w : World} (hr : Rel E ρ M w) (b : Nat) : Rel E ρ (M.kill b) w := by
  have hold : ∀ b' o, (M.kill b).get b' = some o → M.get b' = some o := by
    intro b' o h
    rw [Mem.get_kill] at h
    by_cases hb : b' = b
    · rw [if_pos hb] at h; cases h
    · rwa [if_neg hb] at h
  exact ⟨hr.glob, hr.ngle, fun b' o h => hr.lt b' o (hold b' o h), fun b' o h => hr.heap b' o (hold b' o h), fun b1 b2 o1 o2 l1 l2 h1 h2 => hr.inj b1 b2 o1 o2 l1 l2 (hold _ _ h1) (hold _ _ h2)⟩

theorem Trans.of_kill {M : Mem} {w : World} (hr : Rel E ρ M w) (b : Nat) : Trans E ρ M w ρ (M.kill b) w := by
  have hold : ∀ b' o, (M.kill b).get b' = some o → M.get b' = some o := by
    intro b' o h
    rw [Mem.get_kill] at h
    by_cases hb : b' = b
    · rw [if_pos hb] at h; cases h
    · rwa [if_neg hb] at h
  exact ⟨Nat.le_refl _, fun _ _ => rfl, hr.kill b, fun _ _ _ => rfl, Nat.le_refl _, fun c ⟨b', o, l, h1, h2, h3, h4⟩ => .inl ⟨b', o, l, hold _ _ h1, h2, h3, h4⟩, fun c ⟨b', o, l, h1, h3, h4⟩ => .inl ⟨b', o, l, hold _ _ h1, h3, h4⟩, rfl, rfl, rfl⟩

/-- A block is dropped, and a new one takes its place in the heap. -/
theorem Trans.of_move {M : Mem} {w : World} {b : Nat} {o o' : AObj} {l l' : Loc} {ob' : Obj} (hr : Rel E ρ M w) (hn : ρ M.next = none) (hg : M.get b = some o) (hw : o.wr = true) (hl : ρ b = some l) (hc : l'.c = l.c) (hrel : o'.rel (ρ.with M.next l') l' ob') :
    Trans E ρ M w (ρ.with M.next l') ((M.kill b).add o') { w with heap := w.heap.setIfInBounds l.c ob' } := by
  have hle := Emb.with_le (l := l') hn
  obtain ⟨l2, ob, h1, h2, h3⟩ := hr.heap b o hg
  rw [hl] at h1
  injection h1 with h1
  subst h1
  have hlt : l.c < w.heap.size := lt_of_get h2
  have hget (c : Nat) (hc : c ≠ l.c) : (w.heap.setIfInBounds l.c ob')[c]? = w.heap[c]? := Array.getElem?_setIfInBounds_ne (fun e => hc e.symm)
  have hold : ∀ b' o2, ((M.kill b).add o').get b' = some o2 → (b' = M.next ∧ o2 = o') ∨ (b' ≠ M.next ∧ b' ≠ b ∧ M.get b' = some o2) := by
    intro b' o2 h
    rw [Mem.get_add, show (M.kill b).next = M.next from rfl] at h
    by_cases hb : b' = M.next
    · rw [if_pos hb] at h; injection h with h; exact .inl ⟨hb, h.symm⟩
    · rw [if_neg hb, Mem.get_kill] at h
      by_cases hb2 : b' = b
      · rw [if_pos hb2] at h; cases h
      · rw [if_neg hb2] at h; exact .inr ⟨hb, hb2, h⟩
  have hw1 : (ρ.with M.next l') M.next = some l' := by simp [Emb.with]
  have hw2 (i : Nat) (hi : i ≠ M.next) : (ρ.with M.next l') i = ρ i := by simp [Emb.with, hi]
  refine ⟨by simp [Mem.add, Mem.kill], fun i hi => ?_, ⟨fun g hg => ?_, ?_, ?_, ?_, ?_⟩, fun c hc hW => ?_, by simp, ?_, ?_, rfl, rfl, rfl⟩
  · exact hw2 i (fun e => hi (by subst e; simp [Mem.add, Mem.kill]))
  · obtain ⟨x, hx⟩ := hr.glob g hg
    exact ⟨x, hle _ _ hx⟩
  · have := hr.ngle; simp only [Mem.add, Mem.kill]; omega
  · intro b' o2 h
    rcases hold b' o2 h with ⟨rfl, _⟩ | ⟨_, _, h4⟩
    · simp [Mem.add, Mem.kill]
    · have := hr.lt b' o2 h4; simp only [Mem.add, Mem.kill]; omega
  · intro b' o2 h
    rcases hold b' o2 h with ⟨rfl, rfl⟩ | ⟨h5, h6, h4⟩
    · exact ⟨l', ob', hw1, by rw [hc]; simp [hlt], hrel⟩
    · obtain ⟨l3, ob3, h7, h8, h9⟩ := hr.heap b' o2 h4
      refine ⟨l3, ob3, hle _ _ h7, ?_, AObj.rel_mono hle h9⟩
      rw [hget _ (fun e => h6 (hr.inj b' b o2 o l3 l h4 hg h7 hl e))]
      exact h8
  · intro b1 b2 o1 o2 l1 l2 h4 h5 h6 h7 he
    rcases hold b1 o1 h4 with ⟨rfl, rfl⟩ | ⟨a1, a2, a3⟩ <;> rcases hold b2 o2 h5 with ⟨rfl, rfl⟩ | ⟨c1, c2, c3⟩
    · rfl
    · rw [hw1] at h6; injection h6 with h6; subst h6
      rw [hw2 _ c1] at h7
      exact absurd (hr.inj b2 b o2 o l2 l c3 hg h7 hl (by rw [← he, hc])) c2
    · rw [hw1] at h7; injection h7 with h7; subst h7
      rw [hw2 _ a1] at h6
      exact absurd (hr.inj b1 b o1 o l1 l a3 hg h6 hl (by rw [he, hc])) a2
    · rw [hw2 _ a1] at h6; rw [hw2 _ c1] at h7
      exact hr.inj b1 b2 o1 o2 l1 l2 a3 c3 h6 h7 he
  · exact hget c (fun e => hW ⟨b, o, l, hg, hw, hl, e.symm⟩)
  · rintro c ⟨b', o2, l2, h4, h5, h6, h7⟩
    rcases hold b' o2 h4 with ⟨rfl, rfl⟩ | ⟨a1, a2, a3⟩
    · rw [hw1] at h6; injection h6 with h6; subst h6
      exact .inl ⟨b, o, l, hg, hw, hl, by rw [← h7, hc]⟩
    · rw [hw2 _ a1] at h6
      exact .inl ⟨b', o2, l2, a3, h5, h6, h7⟩
  · rintro c ⟨b', o2, l2, h4, h6, h7⟩
    rcases hold b' o2 h4 with ⟨rfl, rfl⟩ | ⟨a1, a2, a3⟩
    · rw [hw1] at h6; injection h6 with h6; subst h6
      exact .inl ⟨b, o, l, hg, hl, by rw [← h7, hc]⟩
    · rw [hw2 _ a1] at h6
      exact .inl ⟨b', o2, l2, a3, h6, h7⟩

theorem lenOf_sound {w : World} {x : AVal} {x' : Value} {n : Nat} (hx : x.rel ρ x') (h : lenOf x = some n) : (Builtin.lenOf x').run P w = .ok n w := by
  unfold lenOf at h
  split at h
  · rename_i a k c o
    injection h with h; subst h
    cases a with
    | none => simp only [AVal.rel] at hx; subst hx; rfl
    | some a => simp only [AVal.rel] at hx; obtain ⟨l, _, rfl⟩ := hx; rfl
  · rename_i s
    injection h with h; subst h
    rw [rel_str] at hx
    obtain ⟨b, rfl, rfl⟩ := hx
    rw [bytesNat_length]; rfl
  · injection h with h; subst h
    simp only [AVal.rel] at hx
    obtain ⟨a, k, rfl⟩ := hx
    rfl
  · cases h

theorem firstCells_sound {M : Mem} {w : World} (hl : LookRel ρ M.get w) {x : AVal} {x' : Value} {s n : Nat} {cs : List AVal} (hx : x.rel ρ x') (h : firstCells M s n x = some cs) :
    ∃ vs : List Value, (Builtin.firstCells s n x').run P w = .ok vs.toArray w ∧ relL ρ cs vs := by
  unfold firstCells at h
  split at h
  · rename_i b off k c o
    simp only [AVal.rel] at hx
    obtain ⟨l, hρ, rfl⟩ := hx
    obtain ⟨vs, h1, h2, h3, h4⟩ := cells_read hl h hρ
    exact ⟨vs, run_firstCells_some w s n _ k _ vs h1 h4, h3⟩
  · rename_i k c o
    injection h with h; subst h
    simp only [AVal.rel] at hx; subst hx
    exact ⟨[], run_firstCells_none w s n k c, relL_nil⟩
  · rename_i l
    injection h with h; subst h
    rw [rel_str] at hx
    obtain ⟨b, rfl, rfl⟩ := hx
    refine ⟨((b.extract 0 n).data.map fun b => Value.int .u8 b.toNat).toList, by rw [Array.toArray_toList]; rfl, ?_⟩
    have e : (b.extract 0 n).data.toList = b.data.toList.take n := by simp
    rw [Array.toList_map, e]
    have : ∀ (l : List UInt8), relL ρ ((l.map UInt8.toNat).map fun c => AVal.int .u8 (c : Nat)) (l.map fun b => Value.int .u8 b.toNat) := by
      intro l
      induction l with
      | nil => exact relL_nil
      | cons a l ih => exact relL_cons.2 ⟨by simp [AVal.rel], ih⟩
    have h2 := this (b.data.toList.take n)
    simp only [bytesNat, ← List.map_take] at *
    exact h2
  · cases hn : Nat.beq n 0 with
    | false => simp [hn] at h
    | true =>
      simp only [hn, cond_true, Option.some.injEq] at h
      subst h
      have hn := of_beq hn
      subst hn
      simp only [AVal.rel] at hx
      obtain ⟨a, k, rfl⟩ := hx
      refine ⟨[], ?_, relL_nil⟩
      show (loadCells a (0 * s)).run P w = _
      rw [Nat.zero_mul]
      rfl
  · cases h

theorem zeroCells_size (z : Array Value) (n : Nat) : (Builtin.zeroCells z n).size = n * z.size := by simp [Builtin.zeroCells]

theorem cut_append (need old e x : Nat) : need ≤ (Question.appendCap need old e).cut x := Nat.le_add_right _ _

/-- what the growing of a row comes to -/
theorem run_grow {w : World} (ok : EnvOk E P) {t tx e : TypeId} {dx : TypeDesc} {i : TypeInfo} {z : Value} (hu : E.under t = some (.slice e)) (hx : E.under tx = some dx) (hdx : ∀ k, dx ≠ .int k) (hi : E.info e = some i) (hz : i.zero = some z)
    {ts : Array TypeId} {ty : TypeId} (ht0 : ts[0]? = some t) (ht1 : ts[1]? = some tx) {base : Option Addr} {len cap n : Nat} {x' : Value} {old new : List Value}
    (hn : (Builtin.lenOf x').run P w = .ok n w) (hg : cap < len + n) (h1 : len + n ≤ 1000000) (h2 : i.bytes ≤ 100000)
    (hold : (Builtin.firstCells i.size len (.slice base len cap)).run P w.drew = .ok old.toArray w.drew) (hnew : (Builtin.firstCells i.size n x').run P w.drew = .ok new.toArray w.drew) :
    (Builtin.append_ ts ty #[.slice base len cap, x']).run P w = .ok (.slice (some ⟨w.heap.size, 0, none⟩) (len + n) (grownCap w (len + n) cap e))
        (w.drew.alloc (.cells (old.toArray ++ new.toArray ++ Builtin.zeroCells z.cells (grownCap w (len + n) cap e - (len + n))) e)) := by
  have hc : ¬ (len + n ≤ cap) := by omega
  have hm : IntKind.i64.max = 9223372036854775807 := by decide
  have h63 : ¬ (((len + n : Nat) : Int) > IntKind.i64.max ∧ (False ∨ i.bytes = 0)) := by rw [hm]; omega
  have h48 : ¬ (Builtin.nextslicecap (len + n) cap * i.bytes > 2 ^ 48) := by
    have h3 := growslice_fits (bytes := i.bytes) hg (by
      calc (len + n) * i.bytes ≤ 1000000 * 100000 := Nat.mul_le_mul h1 h2
        _ ≤ _ := by omega)
    omega
  have hch : (choose (.appendCap (len + n) cap e)).run P w = .ok (grownCap w (len + n) cap e) w.drew := rfl
  have hsz : ∀ w, (sizeOf e).run P w = .ok i.size w := fun w => run_size ok (by simp [Env.size, hi])
  have hti : ∀ w, (typeInfo e).run P w = .ok i w := fun w => run_info ok hi
  have hzv : ∀ w, (zeroValue e).run P w = .ok z w := fun w => by simp [zeroValue, run_info ok hi, hz]
  unfold Builtin.append_
  simp only [ht0, ht1, List.getElem?_toArray, List.getElem?_cons_zero, List.getElem?_cons_succ]
  simp only [Sem.run_bind, run_under ok hu, Result.andThen_ok, hsz, run_under ok hx, Sem.run_pure]
  cases dx with
  | int k => exact absurd rfl (hdx k)
  | _ =>
    simp only [Bool.false_eq_true, if_false, Sem.run_bind, hn, Result.andThen_ok, if_neg hc, hti]
    rw [if_neg h63]
    simp only [Sem.run_bind, hti, Result.andThen_ok, if_neg h48, hch, run_askRoom, hold, Bool.not_false, if_true, hnew, hzv, newRow, run_newObj, Sem.run_pure]
    rfl


theorem run_inplace {w w' : World} (ok : EnvOk E P) {t tx e : TypeId} {dx : TypeDesc} {sz : Nat} (hu : E.under t = some (.slice e)) (hx : E.under tx = some dx) (hdx : ∀ k, dx ≠ .int k) (hsz : E.size e = some sz)
    {ts : Array TypeId} {ty : TypeId} (ht0 : ts[0]? = some t) (ht1 : ts[1]? = some tx) {base : Option Addr} {len cap n : Nat} {x' : Value} {new : List Value}
    (hn : (Builtin.lenOf x').run P w = .ok n w) (hg : len + n ≤ cap) (hnew : (Builtin.firstCells sz n x').run P w = .ok new.toArray w)
    (hst : match base with
      | none => w' = w
      | some a => (storeCells (a.add (len * sz)) new).run P w = .ok () w') :
    (Builtin.append_ ts ty #[.slice base len cap, x']).run P w = .ok (.slice base (len + n) cap) w' := by
  have hs := fun w => run_size (P := P) (w := w) ok hsz
  unfold Builtin.append_
  simp only [ht0, ht1, List.getElem?_toArray, List.getElem?_cons_zero, List.getElem?_cons_succ]
  simp only [Sem.run_bind, run_under ok hu, Result.andThen_ok, hs, run_under ok hx, Sem.run_pure]
  cases dx with
  | int k => exact absurd rfl (hdx k)
  | _ =>
    simp only [Bool.false_eq_true, if_false, Sem.run_bind, hn, Result.andThen_ok, if_pos hg, Bool.not_false, if_true, hnew]
    cases base with
    | none => simp only at hst; subst hst; rfl
    | some a => simp only at hst ⊢; simp only [Sem.run_bind, hst, Result.andThen_ok, Sem.run_pure]

theorem LookRel.same {g : Nat → Option AObj} {w w' : World} (h : LookRel ρ g w) (hh : w'.heap = w.heap) : LookRel ρ g w' := fun b ob l h1 h2 => by rw [hh]; exact h b ob l h1 h2

theorem run_storeAll {w : World} {c b e : Nat} {fr : Nat × Nat} {vs : List Value} {cs : Array Value} (h : w.heap[c]? = some (.cells cs e fr)) (h1 : b + vs.length ≤ cs.size) (h2 : ∀ i, i < cs.size → ¬ (fr.1 ≤ i ∧ i < fr.2)) (h3 : ∀ v ∈ vs, v.oneCell' = true) :
    (storeCells ⟨c, b, none⟩ vs).run P w = .ok () { w with heap := w.heap.setIfInBounds c (.cells (putRow cs b vs) e fr) } := by
  have := run_storeCells P c b e fr vs 0 cs w h (by omega) h2 h3
  rwa [Nat.add_zero] at this

/-- the cells of a grown block -/
theorem grown_rel {ρ' : Emb} {c s e k : Nat} {cs : List AVal} {vs : List Value} {rest : Array Value} (h : relL ρ' cs vs) (hr : rest.size = k * s) :
    (AObj.cells cs e (some s) false).rel ρ' ⟨c, 0, k, dv⟩ (.cells (vs.toArray ++ rest) e) := by
  have hl := relL_length h
  refine ⟨_, (0, 0), rfl, by simp; omega, fun i x hx => ?_, (fun _ => .inl rfl), (fun s' hs' => ?_), fun hs' => by cases hs'⟩
  · obtain ⟨v, hv, hrel⟩ := relL_get h i x hx
    refine ⟨v, ?_, hrel⟩
    have hlt := (List.getElem?_eq_some_iff.1 hv).1
    rw [Nat.zero_add, Array.getElem?_append_left (by simpa using hlt)]
    simpa using hv
  · injection hs' with hs'; subst hs'
    simp [hr, hl]

/-- a row after the stores behind what is kept -/
theorem putRow_kept : ∀ (vs : List Value) (cs : Array Value) (off i : Nat), i < off → (putRow cs off vs)[i]? = cs[i]?
  | [], _, _, _, _ => rfl
  | v :: vs, cs, off, i, h => by
    simp only [putRow]
    rw [putRow_kept vs _ (off + 1) i (by omega), Array.getElem?_setIfInBounds_ne (by omega)]

theorem putRow_new : ∀ (vs : List Value) (cs : Array Value) (off j : Nat) (v : Value), off + vs.length ≤ cs.size → vs[j]? = some v → (putRow cs off vs)[off + j]? = some v
  | [], _, _, j, v, _, h => by simp at h
  | u :: vs, cs, off, 0, v, hs, h => by
    simp at h; subst h
    simp only [putRow, Nat.add_zero]
    rw [putRow_kept vs _ (off + 1) off (by omega), Array.getElem?_setIfInBounds_self]
    simp only [List.length_cons] at hs
    simp; omega
  | u :: vs, cs, off, j + 1, v, hs, h => by
    simp only [putRow]
    rw [show off + (j + 1) = (off + 1) + j by omega]
    simp only [List.length_cons] at hs
    exact putRow_new vs _ (off + 1) j v (by simp; omega) (by simpa using h)

theorem zeroFits_spec {i : TypeInfo} (h : zeroFits i = true) : ∃ z, i.zero = some z ∧ z.cells.size = i.size := by
  unfold zeroFits at h
  split at h
  · rename_i z hz; exact ⟨z, hz, of_beq h⟩
  · cases h

theorem grownCap_ge (w : World) (need old : Nat) (e : TypeId) : need ≤ grownCap w need old e := Nat.le_add_right _ _

theorem inplaceW_sound (ok : EnvOk E P) {M M' : Mem} {w : World} (hr : Rel E ρ M w) {t tx e : TypeId} {dx : TypeDesc} {sz : Nat} (hu : E.under t = some (.slice e)) (hdx : E.under tx = some dx) (hint : ∀ k, dx ≠ .int k) (hesz : E.size e = some sz)
    {ts : Array TypeId} {ty : TypeId} (ht0 : ts[0]? = some t) (ht1 : ts[1]? = some tx) {base : Option (Nat × Nat)} {len cap n : Nat} {opn : Bool} {sv xv : Value} {new : List AVal} {nv : List Value} {v : AVal}
    (hs : (AVal.slice base len cap opn).rel ρ sv) (hlx : (Builtin.lenOf xv).run P w = .ok n w) (hle : len + n ≤ cap) (hnr : (Builtin.firstCells sz n xv).run P w = .ok nv.toArray w) (hnrel : relL ρ new nv)
    (h : inplaceW M sz (len + n) n base len cap opn new = some (v, M')) :
    ∃ v' w', (Builtin.append_ ts ty #[sv, xv]).run P w = .ok v' w' ∧ v.rel ρ v' ∧ Trans E ρ M w ρ M' w' := by
  unfold inplaceW at h
  cases base with
  | none =>
    simp only [AVal.rel] at hs; subst hs
    cases hn0 : Nat.beq n 0 with
    | false => simp [hn0] at h
    | true =>
      simp only [hn0, cond_true, Option.some.injEq, Prod.mk.injEq] at h
      obtain ⟨rfl, rfl⟩ := h
      exact ⟨_, w, run_inplace ok hu hdx hint hesz ht0 ht1 hlx hle hnr rfl, by simp [AVal.rel], Trans.refl hr⟩
  | some p =>
    obtain ⟨b, off⟩ := p
    simp only [Option.map_eq_some_iff, Prod.mk.injEq] at h
    obtain ⟨M₁, hp, rfl, rfl⟩ := h
    simp only [AVal.rel] at hs
    obtain ⟨l, hρ, rfl⟩ := hs
    obtain ⟨w', hst, htr⟩ := putCells_sound (P := P) hr hp hρ hnrel
    refine ⟨_, w', run_inplace ok hu hdx hint hesz ht0 ht1 hlx (by omega) hnr (w' := w') ?_, ?_, htr⟩
    · simp only [addr_add_off]
      rw [Nat.add_assoc]; exact hst
    · simp only [AVal.rel]; exact ⟨l, hρ, rfl⟩

theorem growW_sound (ok : EnvOk E P) {M M' : Mem} {w : World} (hr : Rel E ρ M w) (hf : Free ρ M M') {t tx e : TypeId} {dx : TypeDesc} {i : TypeInfo} {z : Value} (hu : E.under t = some (.slice e)) (hdx : E.under tx = some dx) (hint : ∀ k, dx ≠ .int k) (hi : E.info e = some i)
    (hz : i.zero = some z) (hzs : z.cells.size = i.size)
    {ts : Array TypeId} {ty : TypeId} (ht0 : ts[0]? = some t) (ht1 : ts[1]? = some tx) {base : Option (Nat × Nat)} {len cap n : Nat} {opn : Bool} {x : AVal} {sv xv : Value} {new : List AVal} {v : AVal}
    (hs : (AVal.slice base len cap opn).rel ρ sv) (hx : x.rel ρ xv) (hn : lenOf x = some n) (hgt : cap < len + n) (q1 : len + n ≤ 1000000) (q2 : i.bytes ≤ 100000) (hnew : firstCells M i.size n x = some new) (q3 : new.all AVal.isCell = true) (hnl : new.length = n * i.size)
    (h : growW M e i.size (len + n) base len cap opn new = some (v, M')) :
    ∃ ρ' v' w', (Builtin.append_ ts ty #[sv, xv]).run P w = .ok v' w' ∧ v.rel ρ' v' ∧ Trans E ρ M w ρ' M' w' := by
  have hesz : E.size e = some i.size := by simp [Env.size, hi]
  have hlx := lenOf_sound (P := P) (w := w) hx hn
  obtain ⟨nv, hnr, hnrel⟩ := firstCells_sound (P := P) (LookRel.of_rel hr) hx hnew
  have hnvl := relL_length hnrel
  have sliceRel (ρ' : Emb) (xe k : Nat) (hk : k = len + n + xe) (hb : ρ' M.next = some ⟨w.heap.size, 0, xe, dv⟩) : (AVal.slice (some (M.next, 0)) (len + n) (len + n) true).rel ρ' (.slice (some ⟨w.heap.size, 0, none⟩) (len + n) k) := by
    simp only [AVal.rel]; exact ⟨_, hb, by simp [hk]⟩
  obtain ⟨nv2, hnr2, hnrel2⟩ := firstCells_sound (P := P) (w := w.drew) ((LookRel.of_rel hr).same rfl) hx hnew
  unfold growW at h
  cases base with
  | none =>
    simp only [AVal.rel] at hs; subst hs
    simp only [Option.some.injEq, Prod.mk.injEq] at h
    obtain ⟨rfl, rfl⟩ := h
    have hrun := run_grow ok hu hdx hint hi hz (ty := ty) ht0 ht1 (base := none) hlx hgt q1 q2 (old := []) (run_firstCells_none _ _ _ _ _) hnr2
    have hge := grownCap_ge w (len + n) cap e
    have hle := Emb.with_le (l := ⟨w.heap.size, 0, grownCap w (len + n) cap e - (len + n), dv⟩) (hf M.next (Nat.le_refl _) (by simp [Mem.add]))
    refine ⟨ρ.with M.next ⟨w.heap.size, 0, grownCap w (len + n) cap e - (len + n), dv⟩, _, _, hrun, sliceRel _ (grownCap w (len + n) cap e - (len + n)) _ (by omega) (by simp [Emb.with]), Trans.of_fresh hr hf rfl rfl rfl rfl ?_⟩
    simpa using grown_rel (relL_mono hle _ _ hnrel2) (by rw [zeroCells_size, hzs])
  | some p =>
    obtain ⟨b, off⟩ := p
    simp only [AVal.rel] at hs
    obtain ⟨l, hρ, rfl⟩ := hs
    simp only at h
    cases hold : getCells M.get b off (len * i.size) with
    | none => simp [hold] at h
    | some old =>
      simp only [hold] at h
      obtain ⟨ov, o1, o2, o3, o4⟩ := cells_read ((LookRel.of_rel hr).same (w' := w.drew) rfl) hold hρ
      have hor (c : Nat) := run_firstCells_some (P := P) w.drew i.size len ⟨l.c, l.sh + off, none⟩ len c ov o1 o4
      cases opn with
      | false =>
        simp only [cond_false, Option.some.injEq, Prod.mk.injEq] at h
        obtain ⟨rfl, rfl⟩ := h
        simp only [cond_false, Nat.add_zero]
        have hrun := run_grow ok hu hdx hint hi hz (ty := ty) ht0 ht1 (base := some ⟨l.c, l.sh + off, none⟩) hlx hgt q1 q2 (hor cap) hnr2
        have hge := grownCap_ge w (len + n) cap e
        have hle := Emb.with_le (l := ⟨w.heap.size, 0, grownCap w (len + n) cap e - (len + n), dv⟩) (hf M.next (Nat.le_refl _) (by simp [Mem.add]))
        refine ⟨ρ.with M.next ⟨w.heap.size, 0, grownCap w (len + n) cap e - (len + n), dv⟩, _, _, hrun, sliceRel _ (grownCap w (len + n) cap e - (len + n)) _ (by omega) (by simp [Emb.with]), Trans.of_fresh hr hf rfl rfl rfl rfl ?_⟩
        simpa using grown_rel (relL_mono hle _ _ (relL_append o3 hnrel2)) (by rw [zeroCells_size, hzs])
      | true =>
        simp only [cond_true] at h ⊢
        cases hg : M.get b with
        | none => simp [hg] at h
        | some ob =>
          cases ob with
          | map es k => simp [hg] at h
          | strIter s p => simp [hg] at h
          | cells c eb op ro =>
            cases op with
            | none => simp [hg] at h
            | some s' =>
              cases ro with
              | true => simp [hg] at h
              | false =>
                simp only [hg] at h
                cases hb3 : (Nat.beq s' i.size && Nat.beq eb e && Nat.beq c.length (off + cap * i.size)) with
                | false => simp [hb3] at h
                | true =>
                  simp only [hb3, cond_true, Option.some.injEq, Prod.mk.injEq] at h
                  obtain ⟨rfl, rfl⟩ := h
                  simp only [Bool.and_eq_true] at hb3
                  have e2 := of_beq hb3.1.1
                  have e4 := of_beq hb3.1.2
                  have e3 := of_beq hb3.2
                  subst e2; subst e4
                  have hn0 : ρ M.next = none := hf M.next (Nat.le_refl _) (by simp [Mem.add, Mem.kill])
                  by_cases hfit : len + n ≤ cap + l.xe
                  · -- in the place of the old block
                    obtain ⟨l2, o, m1, m2, m3⟩ := hr.heap b _ hg
                    rw [hρ] at m1; injection m1 with m1; subst m1
                    obtain ⟨c', fr, rfl, hsz, hcc, hfr, hop⟩ := m3
                    have hsize := hop.1 _ rfl
                    have hmul : (len + n) * i.size ≤ (cap + l.xe) * i.size := Nat.mul_le_mul_right _ hfit
                    rw [Nat.add_mul, Nat.add_mul] at hmul
                    have hst := run_storeAll (P := P) (b := l.sh + off + len * i.size) m2 (vs := nv) (by omega) (hfr rfl).out (cells_one hnrel q3)
                    have hle := Emb.with_le (l := ⟨l.c, l.sh + off, cap + l.xe - (len + n), dv⟩) hn0
                    refine ⟨_, _, _, run_inplace ok hu hdx hint hesz ht0 ht1 hlx (base := some ⟨l.c, l.sh + off, none⟩) (cap := cap + l.xe) hfit hnr (by simp only [addr_add_off]; exact hst), ?_, Trans.of_move hr hn0 hg rfl hρ (l' := ⟨l.c, l.sh + off, cap + l.xe - (len + n), dv⟩) rfl ?_⟩
                    · simp only [AVal.rel]
                      refine ⟨⟨l.c, l.sh + off, cap + l.xe - (len + n), dv⟩, by simp [Emb.with], ?_⟩
                      simp only [cond_true, Nat.add_zero]
                      congr 1
                      omega
                    · have hol : old.length = len * i.size := o2
                      have hsub : (cap + l.xe - (len + n)) * i.size = cap * i.size + l.xe * i.size - (len * i.size + n * i.size) := by
                        rw [Nat.sub_mul, Nat.add_mul, Nat.add_mul]
                      have hln : len * i.size + n * i.size = (len + n) * i.size := (Nat.add_mul _ _ _).symm
                      refine ⟨putRow c' (l.sh + off + len * i.size) nv, fr, rfl, ?_, fun j y hy => ?_, ?_, (fun s hs => ?_), fun hs => by cases hs⟩
                      · rw [putRow_size, List.length_append, hol, hnl]
                        simp only; omega
                      · rw [List.getElem?_append] at hy
                        by_cases hj : j < old.length
                        · rw [if_pos hj] at hy
                          simp only
                          rw [putRow_kept nv c' _ _ (by omega)]
                          obtain ⟨u, hu1, hu2⟩ := relL_get o3 j y hy
                          have := o4 j u hu1
                          rw [addr_add_off] at this
                          unfold World.cell? at this
                          simp only [World.drew, m2] at this
                          exact ⟨u, by simpa using this, AVal.rel_mono hle _ _ hu2⟩
                        · rw [if_neg hj] at hy
                          obtain ⟨u, hu1, hu2⟩ := relL_get hnrel _ y hy
                          refine ⟨u, ?_, AVal.rel_mono hle _ _ hu2⟩
                          simp only
                          have := putRow_new nv c' (l.sh + off + len * i.size) (j - old.length) u (by omega) hu1
                          rw [← this]
                          congr 1
                          omega
                      · rw [putRow_size]; exact hfr
                      · injection hs with hs; subst hs
                        rw [putRow_size, List.length_append, hol, hnl, hsub]
                        simp only; omega
                  · have hgt2 : cap + l.xe < len + n := by omega
                    have hrun := run_grow ok hu hdx hint hi hz (ty := ty) ht0 ht1 (base := some ⟨l.c, l.sh + off, none⟩) hlx hgt2 q1 q2 (hor _) hnr2
                    have hge := grownCap_ge w (len + n) (cap + l.xe) eb
                    have hle := Emb.with_le (l := ⟨w.heap.size, 0, grownCap w (len + n) (cap + l.xe) eb - (len + n), dv⟩) hn0
                    have hf2 : Free ρ (M.kill b) ((M.kill b).add (.cells (old ++ new) eb (some i.size) false)) := hf
                    refine ⟨ρ.with M.next ⟨w.heap.size, 0, grownCap w (len + n) (cap + l.xe) eb - (len + n), dv⟩, _, _, hrun, sliceRel _ (grownCap w (len + n) (cap + l.xe) eb - (len + n)) _ (by omega) (by simp [Emb.with]), (Trans.of_kill hr b).trans (Trans.of_fresh (hr.kill b) hf2 rfl rfl rfl rfl ?_)⟩
                    simpa [Mem.kill] using grown_rel (relL_mono hle _ _ (relL_append o3 hnrel2)) (by rw [zeroCells_size, hzs])

theorem append_sound (ok : EnvOk E P) {M M' : Mem} {w : World} (hr : Rel E ρ M w) (hf : Free ρ M M') {ts : Array TypeId} {ty : TypeId} {args : List AVal} {args' : Array Value} {v : AVal} (ha : relL ρ args args'.toList) (h : appendV E M ts.toList args = some (v, M')) :
    ∃ ρ' v' w', (Builtin.append_ ts ty args').run P w = .ok v' w' ∧ v.rel ρ' v' ∧ Trans E ρ M w ρ' M' w' := by
  unfold appendV at h
  split at h
  · rename_i t tx trest base len cap opn x hts
    have ht0 : ts[0]? = some t := by rw [← Array.getElem?_toList, hts]; rfl
    have ht1 : ts[1]? = some tx := by rw [← Array.getElem?_toList, hts]; rfl
    simp only [relL] at ha
    obtain ⟨sv, l1, e1, hs, xv, l2, rfl, hx, rfl⟩ := ha
    have hargs : args' = #[sv, xv] := by
      apply Array.ext'; simpa using e1
    subst hargs
    split at h
    · rename_i e dx hu hdx
      cases hid : isIntD dx with
      | true => simp [hid] at h
      | false =>
        simp only [hid, cond_false] at h
        have hint : ∀ k, dx ≠ .int k := by rintro k rfl; simp [isIntD] at hid
        split at h
        · rename_i i n hi hn
          unfold appendW at h
          split at h
          · cases h
          · rename_i new hnew
            cases hb : (Nat.beq new.length (n * i.size) && !Nat.beq i.size 0) with
            | false => simp [hb] at h
            | true =>
              simp only [hb, cond_true] at h
              simp only [Bool.and_eq_true] at hb
              have hnl := of_beq hb.1
              have hlx := lenOf_sound (P := P) (w := w) hx hn
              have hesz : E.size e = some i.size := by simp [Env.size, hi]
              obtain ⟨nv, hnr, hnrel⟩ := firstCells_sound (P := P) (LookRel.of_rel hr) hx hnew
              cases hc : Nat.ble (len + n) cap with
              | true =>
                simp only [hc, cond_true] at h
                obtain ⟨v', w', h1, h2, h3⟩ := inplaceW_sound ok hr hu hdx hint hesz (ty := ty) ht0 ht1 hs hlx (of_ble hc) hnr hnrel h
                exact ⟨ρ, v', w', h1, h2, h3⟩
              | false =>
                simp only [hc, cond_false] at h
                have hgt : cap < len + n := by
                  apply Nat.lt_of_not_le
                  intro hle
                  have := Nat.ble_eq_true_of_le hle
                  rw [hc] at this; cases this
                cases hb2 : (Nat.ble (len + n) 1000000 && Nat.ble i.bytes 100000 && new.all AVal.isCell && zeroFits i) with
                | false => simp [hb2] at h
                | true =>
                  simp only [hb2, cond_true] at h
                  simp only [Bool.and_eq_true] at hb2
                  obtain ⟨⟨⟨q1, q2⟩, q3⟩, q4⟩ := hb2
                  obtain ⟨z, hz, hzs⟩ := zeroFits_spec q4
                  exact growW_sound ok hr hf hu hdx hint hi hz hzs ht0 ht1 hs hx hn hgt (of_ble q1) (of_ble q2) hnew q3 hnl h
        · cases h
    · cases h
  · rename_i t tx trest x hts
    have ht0 : ts[0]? = some t := by rw [← Array.getElem?_toList, hts]; rfl
    have ht1 : ts[1]? = some tx := by rw [← Array.getElem?_toList, hts]; rfl
    simp only [relL] at ha
    obtain ⟨sv, l1, e1, hs, xv, l2, rfl, hx, rfl⟩ := ha
    have hargs : args' = #[sv, xv] := by
      apply Array.ext'; simpa using e1
    subst hargs
    split at h
    · rename_i e dx hu hdx
      cases hid : isIntD dx with
      | true => simp [hid] at h
      | false =>
        simp only [hid, cond_false] at h
        have hint : ∀ k, dx ≠ .int k := by rintro k rfl; simp [isIntD] at hid
        split at h
        · rename_i i n hi hn
          split at h
          · rename_i hnew
            cases hn0 : Nat.beq n 0 with
            | false => simp [hn0] at h
            | true =>
              simp only [hn0, cond_true, Option.some.injEq, Prod.mk.injEq] at h
              obtain ⟨rfl, rfl⟩ := h
              have hn0 := of_beq hn0
              subst hn0
              have hlx := lenOf_sound (P := P) (w := w) hx hn
              have hesz : E.size e = some i.size := by simp [Env.size, hi]
              obtain ⟨nv, hnr, hnrel⟩ := firstCells_sound (P := P) (LookRel.of_rel hr) hx hnew
              simp only [relL] at hnrel
              subst hnrel
              simp only [AVal.rel] at hs
              obtain ⟨a, k, rfl⟩ := hs
              refine ⟨ρ, .slice (some a) (0 + 0) k, w, run_inplace ok hu hdx hint hesz ht0 ht1 hlx (Nat.zero_le _) hnr ?_, ?_, Trans.refl hr⟩
              · rfl
              · simp only [AVal.rel]; exact ⟨a, k, rfl⟩
          · cases h
        · cases h
    · cases h
  · cases h

theorem copy_sound (ok : EnvOk E P) {M M' : Mem} {w : World} (hr : Rel E ρ M w) {ts : Array TypeId} {ty : TypeId} {args : List AVal} {args' : Array Value} {v : AVal} (ha : relL ρ args args'.toList) (h : copyV E M ts.toList args = some (v, M')) :
    ∃ v' w', (Builtin.copy_ ts ty args').run P w = .ok v' w' ∧ v.rel ρ v' ∧ Trans E ρ M w ρ M' w' := by
  unfold copyV at h
  split at h
  · rename_i t trest base dlen cap opn x hts
    have ht0 : ts[0]? = some t := by rw [← Array.getElem?_toList, hts]; rfl
    simp only [relL] at ha
    obtain ⟨sv, l1, e1, hs, xv, l2, rfl, hx, rfl⟩ := ha
    have hargs : args' = #[sv, xv] := by
      apply Array.ext'; simpa using e1
    subst hargs
    split at h
    · rename_i e m hu hm
      split at h
      · rename_i s hsz
        simp only at h
        split at h
        · rename_i cs hcs
          have hlx := lenOf_sound (P := P) (w := w) hx hm
          obtain ⟨nv, hnr, hnrel⟩ := firstCells_sound (P := P) (LookRel.of_rel hr) hx hcs
          split at h
          · simp only [AVal.rel] at hs; subst hs
            simp only [Option.some.injEq, Prod.mk.injEq] at h
            obtain ⟨rfl, rfl⟩ := h
            refine ⟨goInt (Nat.min m dlen), w, ?_, by simp [AVal.rel, goInt], Trans.refl hr⟩
            unfold Builtin.copy_
            simp only [ht0, List.getElem?_toArray, List.getElem?_cons_zero, List.getElem?_cons_succ, Sem.run_bind, run_under ok hu, Result.andThen_ok, hlx, run_size ok hsz, hnr, Sem.run_pure]
          · rename_i b off
            simp only [Option.map_eq_some_iff, Prod.mk.injEq] at h
            obtain ⟨M₁, hp, rfl, rfl⟩ := h
            simp only [AVal.rel] at hs
            obtain ⟨l, hρ, rfl⟩ := hs
            obtain ⟨w', hst, htr⟩ := putCells_sound (P := P) hr hp hρ hnrel
            refine ⟨goInt (Nat.min m dlen), w', ?_, by simp [AVal.rel, goInt], htr⟩
            unfold Builtin.copy_
            simp only [ht0, List.getElem?_toArray, List.getElem?_cons_zero, List.getElem?_cons_succ, Sem.run_bind, run_under ok hu, Result.andThen_ok, hlx, run_size ok hsz, hnr, hst, Sem.run_pure]
        · cases h
      · cases h
    · cases h
  · cases h

end
end Go.Ev
