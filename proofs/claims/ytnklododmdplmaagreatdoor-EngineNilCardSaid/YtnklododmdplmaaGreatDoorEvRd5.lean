/- A part of the proof that an evaluator of the machine's code is sound (EvRd5). No conditions. -/
import Derived.Test.YtnklododmdplmaaGreatDoorEvRd4
namespace Go.Ev

/-! parts that are laid into a row -/

theorem seg_sound {ρ : Emb} (off : Nat) : ∀ (xs : List AVal) (vs : List Value) (k : Nat) (cs : List AVal) (cs' : Array Value), relL ρ xs vs → relL ρ cs cs'.toList →
    relL ρ (setSeg cs (off + k) xs) ((vs.zipIdx k).foldl (fun c x => c.setIfInBounds (off + x.2) x.1) cs').toList
  | [], vs, k, cs, cs', h, hc => by
    simp only [relL] at h; subst h
    simpa [setSeg] using hc
  | x :: xs, vs, k, cs, cs', h, hc => by
    simp only [relL] at h
    obtain ⟨y, ys, rfl, h1, h2⟩ := h
    simp only [setSeg, List.zipIdx_cons, List.foldl_cons]
    refine seg_sound off xs ys (k + 1) _ _ h2 ?_
    rw [Array.toList_setIfInBounds]
    exact relL_set h1 _ hc

theorem setSeg_length : ∀ (xs cs : List AVal) (off : Nat), (setSeg cs off xs).length = cs.length
  | [], cs, off => rfl
  | x :: xs, cs, off => by simp only [setSeg]; rw [setSeg_length xs]; simp

def relP (ρ : Emb) : List (Nat × AVal) → List (Nat × Value) → Prop
  | [], l => l = []
  | x :: xs, l => ∃ y ys, l = y :: ys ∧ x.1 = y.1 ∧ x.2.rel ρ y.2 ∧ relP ρ xs ys

theorem fill_sound {ρ : Emb} {place : Nat → Option (Nat × Nat)} : ∀ (ps : List (Nat × AVal)) (qs : List (Nat × Value)) (cs cs2 : List AVal) (cs' : Array Value), relP ρ ps qs → relL ρ cs cs'.toList → fillF place cs ps = some cs2 →
    ∃ cs2', Instr.fill place cs' qs = some cs2' ∧ relL ρ cs2 cs2'.toList
  | [], qs, cs, cs2, cs', hp, hc, h => by
    simp only [relP] at hp; subst hp
    simp only [fillF, Option.some.injEq] at h; subst h
    exact ⟨cs', rfl, hc⟩
  | (i, v) :: ps, qs, cs, cs2, cs', hp, hc, h => by
    simp only [relP] at hp
    obtain ⟨⟨j, y⟩, ys, rfl, h1, h2, h3⟩ := hp
    simp only at h1 h2; subst h1
    simp only [fillF] at h
    simp only [Instr.fill]
    cases hpl : place i with
    | none => simp [hpl] at h
    | some p =>
      obtain ⟨off, size⟩ := p
      simp only [hpl] at h ⊢
      cases hb : (Nat.beq v.cells.length size && Nat.ble (off + v.cells.length) cs.length) with
      | false => simp [hb] at h
      | true =>
        simp only [hb, cond_true] at h
        simp only [Bool.and_eq_true] at hb
        have hsz := of_beq hb.1
        have hle := of_ble hb.2
        have hcells := rel_cells h2
        have hlen := relL_length hcells
        have hlc := relL_length hc
        have hlen' : v.cells.length = y.cells.size := by simpa using hlen
        have hlc' : cs.length = cs'.size := by simpa using hlc
        have hcond : ¬ ((y.cells.size ≠ size || decide (off + y.cells.size > cs'.size)) = true) := by
          simp; omega
        rw [if_neg hcond]
        refine fill_sound ps ys _ cs2 _ h3 ?_ h
        have := seg_sound off v.cells y.cells.toList 0 cs cs' hcells hc
        rw [Nat.add_zero] at this
        have e : (y.cells.zipIdx.foldl (fun c x => c.setIfInBounds (off + x.2) x.1) cs') = ((y.cells.toList.zipIdx 0).foldl (fun c x => c.setIfInBounds (off + x.2) x.1) cs') := by
          rw [← Array.foldl_toList, Array.toList_zipIdx]
        have e' : (y.cells.zipIdx.foldl (fun cs (x : Value × Nat) => match x with | (c, j) => cs.setIfInBounds (off + j) c) cs') = (y.cells.zipIdx.foldl (fun c x => c.setIfInBounds (off + x.2) x.1) cs') := rfl
        rw [← e] at this
        exact this

section
variable {E : Env} {P : Program} (ok : EnvOk E P) {w : World} {ρ : Emb}

theorem optMap_mapM {α β : Type} (f : α → Option β) : ∀ (l : List α) (r : List β), optMap f l = some r → l.mapM f = some r
  | [], r, h => by simp [optMap] at h; subst h; rfl
  | x :: xs, r, h => by
    simp only [optMap] at h
    cases hx : f x with
    | none => simp [hx] at h
    | some y =>
      cases hy : optMap f xs with
      | none => simp [hx, hy] at h
      | some ys =>
        simp [hx, hy] at h; subst h
        simp [List.mapM_cons, hx, optMap_mapM f xs ys hy]

theorem optMap_congr {α β : Type} (f g : α → Option β) (h : ∀ x y, f x = some y → g x = some y) : ∀ (l : List α) (r : List β), optMap f l = some r → optMap g l = some r
  | [], r, hr => by simpa [optMap] using hr
  | x :: xs, r, hr => by
    simp only [optMap] at hr ⊢
    cases hx : f x with
    | none => simp [hx] at hr
    | some y =>
      cases hy : optMap f xs with
      | none => simp [hx, hy] at hr
      | some ys =>
        simp only [hx, hy] at hr
        rw [h x y hx, optMap_congr f g h xs ys hy]
        exact hr

theorem evParts_rel {F : Fr} {a : Act} : ∀ (ps : List (Nat × Operand)) (l : List (Nat × AVal)), (∀ p ∈ ps, ∀ v, ev E F p.2 = some v → v.rel ρ (a.eval p.2)) → evParts E F ps = some l → relP ρ l (ps.map fun p => (p.1, a.eval p.2))
  | [], l, _, h => by simp [evParts, optMap] at h; subst h; simp [relP]
  | p :: ps, l, he, h => by
    simp only [evParts, optMap] at h
    cases hx : ev E F p.2 with
    | none => simp [hx] at h
    | some v =>
      simp only [hx, Option.map_some] at h
      cases hy : optMap (fun p : Nat × Operand => (ev E F p.2).map fun v => (p.1, v)) ps with
      | none => simp [hy] at h
      | some ys =>
        simp only [hy, Option.some.injEq] at h
        subst h
        simp only [relP, List.map_cons]
        exact ⟨_, _, rfl, rfl, he p (by simp) v hx, evParts_rel ps ys (fun q hq => he q (by simp [hq])) hy⟩

include ok

omit ok in
theorem zero_rel {t : Nat} {z : AVal} (h : E.zero t = some z) : ∃ i z', E.info t = some i ∧ i.zero = some z' ∧ ∀ ρ, z.rel ρ z' := by
  unfold Env.zero at h
  cases hi : E.info t with
  | none => simp [hi] at h
  | some i =>
    simp only [hi] at h
    cases hz : i.zero with
    | none => simp [hz] at h
    | some v =>
      simp only [hz] at h
      exact ⟨i, v, rfl, hz, fun ρ => ofVal_rel 3 v z h⟩

theorem build_sound {t : Nat} {parts : List (Nat × AVal)} {parts' : Array (Nat × Value)} {v : AVal} (hp : relP ρ parts parts'.toList) (h : buildV E t parts = some v) : ∃ v', (Instr.build t parts').run P w = .ok v' w ∧ v.rel ρ v' := by
  unfold buildV at h
  cases hz : E.zero t with
  | none => simp [hz] at h
  | some z =>
    obtain ⟨it, z', hi, hz', hzr⟩ := zero_rel hz
    have hzr := hzr ρ
    cases hu : E.under t with
    | none => simp [hz, hu] at h
    | some d =>
      have hu' := under_eq ok hu
      have hi' := ok.info t it hi
      cases d <;> try (simp [hz, hu] at h; done)
      case array n e =>
        simp only [hz, hu] at h
        cases hs : E.size e with
        | none => simp [hs] at h
        | some s =>
          simp only [hs, Option.map_eq_some_iff] at h
          obtain ⟨cs2, hf, rfl⟩ := h
          obtain ⟨cs2', hf', hr⟩ := fill_sound parts parts'.toList z.cells cs2 z'.cells hp (rel_cells hzr) hf
          unfold Env.size at hs
          rw [Option.map_eq_some_iff] at hs
          obtain ⟨ie, hie, rfl⟩ := hs
          refine ⟨.agg cs2', run_build w t parts' cs2' ?_, by simp only [AVal.rel]; exact ⟨_, rfl, hr⟩⟩
          unfold Program.built
          simp only [hi', hu', hz', ok.info e ie hie]
          exact hf'
      case struct fs =>
        simp only [hz, hu] at h
        cases hpl : optMap (fun f : Field => (E.size f.type).map fun s => (f.offset, s)) fs.toList with
        | none => simp [hpl] at h
        | some places =>
          simp only [hpl, Option.map_eq_some_iff] at h
          obtain ⟨cs2, hf, rfl⟩ := h
          obtain ⟨cs2', hf', hr⟩ := fill_sound parts parts'.toList z.cells cs2 z'.cells hp (rel_cells hzr) hf
          have hpl' : fs.toList.mapM (fun f => (P.info? f.type).map fun i => (f.offset, i.size)) = some places := by
            refine optMap_mapM _ _ _ (optMap_congr _ _ (fun f y hy => ?_) _ _ hpl)
            rw [Option.map_eq_some_iff] at hy
            obtain ⟨s, hs, rfl⟩ := hy
            unfold Env.size at hs
            rw [Option.map_eq_some_iff] at hs
            obtain ⟨ie, hie, rfl⟩ := hs
            simp [ok.info _ _ hie]
          refine ⟨.agg cs2', run_build w t parts' cs2' ?_, by simp only [AVal.rel]; exact ⟨_, rfl, hr⟩⟩
          unfold Program.built
          simp only [hi', hu', hz', hpl']
          simpa using hf'

/-! maps -/

omit ok in
theorem sameKey_sound {kd : TypeDesc} {a b : AVal} {a' b' : Value} {r : Bool} (ha : a.rel ρ a') (hb : b.rel ρ b') (h : sameKey kd a b = some r) : Instr.sameNow kd a' b' = some r := by
  unfold sameKey at h
  split at h
  · rw [rel_int] at ha hb; subst ha; subst hb
    split at h
    · rename_i hk; subst hk
      simpa [Instr.sameNow] using h
    · cases h
  · rw [rel_str] at ha hb
    obtain ⟨s, rfl, rfl⟩ := ha
    obtain ⟨s', rfl, rfl⟩ := hb
    simp only [Option.some.injEq] at h
    simp only [Instr.sameNow, Option.some.injEq]
    rw [← h, listEq_bytes, beq_toListBytes, ByteArray_toList, ByteArray_toList]
  · rw [rel_bool'] at ha hb; subst ha; subst hb
    simpa [Instr.sameNow] using h
  · cases h

omit ok in
theorem findE_sound {kd : TypeDesc} {k : AVal} {k' : Value} (hk : k.rel ρ k') : ∀ (es : List Entry) (ms : List MapEntry) (i : Nat) (r : Option (Nat × AVal)), relEs ρ es ms → findE kd k es i = some r →
    ∃ r', Instr.findNow kd k' ms i = some r' ∧ match r with
      | none => r' = none
      | some (j, v) => ∃ v', r' = some (j, v') ∧ v.rel ρ v' ∧ i ≤ j ∧ ∃ e m, es[j - i]? = some e ∧ ms[j - i]? = some m ∧ relE ρ e m ∧ v = e.val ∧ v' = m.val
  | [], ms, i, r, hr, h => by
    simp only [relEs] at hr; subst hr
    simp only [findE, Option.some.injEq] at h; subst h
    exact ⟨none, rfl, rfl⟩
  | e :: es, ms, i, r, hr, h => by
    simp only [relEs] at hr
    obtain ⟨m, ms', rfl, h1, h2⟩ := hr
    simp only [findE] at h
    simp only [Instr.findNow]
    cases hs : sameKey kd k e.key with
    | none => simp [hs] at h
    | some b =>
      rw [sameKey_sound hk h1.1 hs]
      cases b with
      | true =>
        simp only [hs, Option.some.injEq] at h; subst h
        exact ⟨_, rfl, m.val, rfl, h1.2.1, Nat.le_refl _, e, m, by simp, by simp, h1, rfl, rfl⟩
      | false =>
        simp only [hs] at h
        obtain ⟨r', h3, h4⟩ := findE_sound hk es ms' (i + 1) r h2 h
        refine ⟨r', h3, ?_⟩
        cases r with
        | none => exact h4
        | some p =>
          obtain ⟨j, v⟩ := p
          obtain ⟨v', e1, e2, e3, e', m', e4, e5, e6⟩ := h4
          refine ⟨v', e1, e2, by omega, e', m', ?_, ?_, e6⟩
          · rw [show j - i = (j - (i + 1)) + 1 by omega]; simpa using e4
          · rw [show j - i = (j - (i + 1)) + 1 by omega]; simpa using e5

theorem checkKey_sound {kt : Nat} {kd : TypeDesc} (hu : E.under kt = some kd) (hp : plainKey kd = true) (b : Bool) (k' : Value) : (Instr.checkKey b 10000 kt k').run P w = .ok () w := by
  unfold Instr.checkKey
  simp only [Sem.run_bind, run_under ok hu, Result.andThen_ok]
  cases kd <;> simp [plainKey] at hp <;> rfl

theorem lookup_sound {g : Nat → Option AObj} (hl : LookRel ρ g w) {t : Nat} {x k : AVal} {x' k' : Value} {b : Bool} {v : AVal} (hx : x.rel ρ x') (hk : k.rel ρ k') (h : lookupV E g t x k b = some v) : ∃ v', (Instr.lookup t x' k' b).run P w = .ok v' w ∧ v.rel ρ v' := by
  unfold lookupV at h
  split at h
  · rename_i kt et hu
    cases hk2 : E.under kt with
    | none => simp [hk2] at h
    | some kd =>
      simp only [hk2] at h
      cases hp : plainKey kd with
      | false => simp [hp] at h
      | true =>
        simp only [hp, cond_true] at h
        -- the entries
        have hes : ∃ es ms, entriesOf g x = some es ∧ relEs ρ es (Array.toList ms) ∧ (x' = .map none ∧ ms = #[] ∨ ∃ c ck, x' = .map (some c) ∧ w.heap[c]? = some (.map ms ck)) := by
          cases x with
          | map r =>
            cases r with
            | none =>
              simp only [AVal.rel] at hx; subst hx
              exact ⟨[], #[], rfl, by simp [relEs], .inl ⟨rfl, rfl⟩⟩
            | some r =>
              simp only [AVal.rel] at hx
              obtain ⟨l, hρ, rfl⟩ := hx
              cases hg : g r with
              | none => simp [entriesOf, hg] at h
              | some ob =>
                cases ob with
                | map es ck =>
                  obtain ⟨o, ho, ms, rfl, hr⟩ := hl r _ l hg hρ
                  exact ⟨es, ms, by simp [entriesOf, hg], hr, .inr ⟨l.c, ck, rfl, ho⟩⟩
                | cells _ _ _ _ => simp [entriesOf, hg] at h
                | strIter _ _ => simp [entriesOf, hg] at h
          | _ => simp [entriesOf] at h
        obtain ⟨es, ms, h1, h2, h3⟩ := hes
        rw [h1] at h
        simp only at h
        have hrun : (Instr.lookup t x' k' b).run P w = ((do
            Instr.checkKey ms.isEmpty 10000 kt k'
            let (v, ok) ← match ← Instr.findKey kt k' ms.toList with
              | some (_, v) => pure (v, true)
              | none => pure (← zeroValue et, false)
            pure (if b then .tuple #[v, .bool ok] else v) : Sem Value)).run P w := by
          unfold Instr.lookup
          simp only [Sem.run_bind, run_under ok hu, Result.andThen_ok]
          rcases h3 with ⟨rfl, rfl⟩ | ⟨c, ck, rfl, hc⟩
          · simp only [Sem.run_bind, Sem.run_pure, Result.andThen_ok]; rfl
          · have hg : (getObj c).run P w = .ok (.map ms ck) w := by simp [getObj, Sem.run, hc]
            simp only [Sem.run_bind, hg, Sem.run_pure, Result.andThen_ok]; rfl
        rw [hrun]
        simp only [Sem.run_bind, checkKey_sound ok hk2 hp, Result.andThen_ok]
        cases hf : findE kd k es 0 with
        | none => simp [hf] at h
        | some r =>
          obtain ⟨r', hf', hr⟩ := findE_sound hk es ms.toList 0 r h2 hf
          have hfk : (Instr.findKey kt k' ms.toList).run P w = .ok r' w := by
            unfold Instr.findKey
            simp only [Sem.run_bind, run_under ok hk2, Result.andThen_ok, hf', Sem.run_pure]
          rw [hfk]
          simp only [Result.andThen_ok]
          cases r with
          | some p =>
            obtain ⟨j, u⟩ := p
            obtain ⟨u', rfl, hu', _⟩ := hr
            simp only [hf, Option.some.injEq] at h
            subst h
            refine ⟨_, rfl, ?_⟩
            cases b with
            | true => simp only [cond_true, if_true, AVal.rel]; exact ⟨_, rfl, relL_cons.2 ⟨hu', relL_cons.2 ⟨by simp [AVal.rel], relL_nil⟩⟩⟩
            | false => simpa using hu'
          | none =>
            simp only at hr
            subst hr
            simp only [hf] at h
            cases hz : E.zero et with
            | none => simp [hz] at h
            | some z =>
              simp only [hz, Option.some.injEq] at h
              subst h
              obtain ⟨z', hz1, hz2⟩ := run_zero ok (w := w) hz
              simp only [Sem.run_bind, hz1, Sem.run_pure, Result.andThen_ok]
              refine ⟨_, rfl, ?_⟩
              cases b with
              | true => simp only [cond_true, if_true, AVal.rel]; exact ⟨_, rfl, relL_cons.2 ⟨hz2 ρ, relL_cons.2 ⟨by simp [AVal.rel], relL_nil⟩⟩⟩
              | false => simpa using hz2 ρ
  · cases h

end
end Go.Ev
