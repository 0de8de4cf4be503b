/- A part of the proof that an evaluator of the machine's code is sound (EvMap). No conditions. -/
import Derived.Test.YtnklododmdplmaaGreatDoorEvEff
namespace Go.Ev

section
variable {E : Env} {P : Program} {ρ : Emb} {w : World}

theorem findNow_key {kd : TypeDesc} {k' : Value} : ∀ (ms : List MapEntry) (i j : Nat) (v : Value), Instr.findNow kd k' ms i = some (some (j, v)) → i ≤ j ∧ ∃ m, ms[j - i]? = some m ∧ Instr.sameNow kd k' m.key = some true
  | [], i, j, v, h => by simp [Instr.findNow] at h
  | m :: ms, i, j, v, h => by
    simp only [Instr.findNow] at h
    cases hs : Instr.sameNow kd k' m.key with
    | none => simp [hs] at h
    | some b =>
      cases b with
      | true =>
        simp only [hs, Option.some.injEq, Prod.mk.injEq] at h
        obtain ⟨rfl, _⟩ := h
        exact ⟨Nat.le_refl _, m, by simp, hs⟩
      | false =>
        simp only [hs] at h
        obtain ⟨h1, m', h2, h3⟩ := findNow_key ms (i + 1) j v h
        refine ⟨by omega, m', ?_, h3⟩
        rw [show j - i = (j - (i + 1)) + 1 by omega]
        simpa using h2

theorem run_stays {kd : TypeDesc} {a b : Value} (h : Instr.sameNow kd b a = some true) : (Instr.keyThatStays a b).run P w = .ok b w := by
  have hs : Instr.sameBits 10000 a b = true := by
    unfold Instr.sameNow at h
    split at h
    · split at h
      · rename_i hk; subst hk
        simp only [Option.some.injEq, beq_iff_eq] at h
        subst h
        simp [Instr.sameBits]
      · cases h
    · simp only [Option.some.injEq] at h
      rename_i s s'
      rw [beq_toListBytes] at h
      have h' : (s' == s) = true := by rw [beq_toListBytes, eq_of_beq h]; exact beq_self_eq_true _
      simpa [Instr.sameBits] using h'
    · simp only [Option.some.injEq, beq_iff_eq] at h
      subst h
      simp [Instr.sameBits]
    · cases h
  simp [Instr.keyThatStays, hs]

theorem relEs_length : ∀ {es : List Entry} {ms : List MapEntry}, relEs ρ es ms → es.length = ms.length
  | [], ms, h => by simp only [relEs] at h; subst h; rfl
  | e :: es, ms, h => by
    simp only [relEs] at h
    obtain ⟨m, ms', rfl, _, h2⟩ := h
    simp [relEs_length h2]

theorem relEs_get : ∀ {es : List Entry} {ms : List MapEntry}, relEs ρ es ms → ∀ (i : Nat) (e : Entry), es[i]? = some e → ∃ m, ms[i]? = some m ∧ relE ρ e m
  | [], ms, h, i, e, he => by simp at he
  | x :: es, ms, h, i, e, he => by
    simp only [relEs] at h
    obtain ⟨m, ms', rfl, h1, h2⟩ := h
    cases i with
    | zero => simp at he; subst he; exact ⟨m, rfl, h1⟩
    | succ i => simp at he; obtain ⟨m', h3, h4⟩ := relEs_get h2 i e he; exact ⟨m', by simpa using h3, h4⟩

theorem relEs_push : ∀ {es : List Entry} {ms : List MapEntry} {e : Entry} {m : MapEntry}, relEs ρ es ms → relE ρ e m → relEs ρ (es ++ [e]) (ms ++ [m])
  | [], ms, e, m, h, h' => by simp only [relEs] at h; subst h; simp only [List.nil_append, relEs]; exact ⟨m, [], rfl, h', rfl⟩
  | x :: es, ms, e, m, h, h' => by
    simp only [relEs] at h
    obtain ⟨y, ys, rfl, h1, h2⟩ := h
    simp only [List.cons_append, relEs]
    exact ⟨y, ys ++ [m], rfl, h1, relEs_push h2 h'⟩

theorem relEs_setVal {k v : AVal} {k' v' : Value} (hk : k.rel ρ k') (hv : v.rel ρ v') : ∀ (es : List Entry) (ms : List MapEntry) (i : Nat), relEs ρ es ms → relEs ρ (setVal es i k v) (ms.modify i fun e => { e with key := k', val := v' })
  | [], ms, i, h => by simp only [relEs] at h; subst h; simp [setVal, relEs]
  | e :: es, ms, 0, h => by
    simp only [relEs] at h
    obtain ⟨m, ms', rfl, h1, h2⟩ := h
    simp only [setVal, List.modify_zero_cons, relEs]
    exact ⟨_, _, rfl, ⟨hk, hv, h1.2.2⟩, h2⟩
  | e :: es, ms, i + 1, h => by
    simp only [relEs] at h
    obtain ⟨m, ms', rfl, h1, h2⟩ := h
    simp only [setVal, List.modify_succ_cons, relEs]
    exact ⟨_, _, rfl, h1, relEs_setVal hk hv es ms' i h2⟩

theorem relEs_setKey {k : AVal} {k' : Value} (hk : k.rel ρ k') : ∀ (es : List Entry) (ms : List MapEntry) (i : Nat) (e : Entry), es[i]? = some e → relEs ρ es ms → relEs ρ (setVal es i k e.val) (ms.modify i fun e => { e with key := k' })
  | [], ms, i, e, he, h => by simp at he
  | x :: es, ms, 0, e, he, h => by
    simp only [relEs] at h
    obtain ⟨m, ms', rfl, h1, h2⟩ := h
    simp at he; subst he
    simp only [setVal, List.modify_zero_cons, relEs]
    exact ⟨_, _, rfl, ⟨hk, h1.2.1, h1.2.2⟩, h2⟩
  | x :: es, ms, i + 1, e, he, h => by
    simp only [relEs] at h
    obtain ⟨m, ms', rfl, h1, h2⟩ := h
    simp only [setVal, List.modify_succ_cons, relEs]
    exact ⟨_, _, rfl, h1, relEs_setKey hk es ms' i e (by simpa using he) h2⟩

theorem relEs_setBorn {b : Nat} {v : AVal} {v' : Value} (hv : v.rel ρ v') : ∀ (es es' : List Entry) (ms : List MapEntry), setBorn es b v = some es' → relEs ρ es ms →
    ∃ i, ms.findIdx? (fun e => ((e.born : Nat) : Int) == (b : Int)) = some i ∧ relEs ρ es' (ms.modify i fun e => { e with val := v' })
  | [], es', ms, h, _ => by simp [setBorn] at h
  | e :: es, es', ms, h, hr => by
    simp only [relEs] at hr
    obtain ⟨m, ms', rfl, h1, h2⟩ := hr
    simp only [setBorn] at h
    have hb : m.born = e.born := h1.2.2.symm
    cases hq : Nat.beq e.born b with
    | true =>
      simp only [hq, cond_true, Option.some.injEq] at h
      subst h
      have := of_beq hq
      refine ⟨0, by simp [List.findIdx?_cons, hb, this], ?_⟩
      simp only [List.modify_zero_cons, relEs]
      exact ⟨_, _, rfl, ⟨h1.1, hv, h1.2.2⟩, h2⟩
    | false =>
      simp only [hq, cond_false, Option.map_eq_some_iff] at h
      obtain ⟨es2, h3, rfl⟩ := h
      obtain ⟨i, h4, h5⟩ := relEs_setBorn hv es es2 ms' h3 h2
      have hne : e.born ≠ b := fun h' => by rw [h'] at hq; simp at hq
      refine ⟨i + 1, ?_, ?_⟩
      · rw [List.findIdx?_cons]
        have : (((m.born : Nat) : Int) == (b : Int)) = false := by rw [hb]; simp; omega
        rw [this, h4]; simp
      · simp only [List.modify_succ_cons, relEs]
        exact ⟨_, _, rfl, h1, h5⟩

theorem run_getMap {c : Nat} {ms : Array MapEntry} {k : Nat} (h : w.heap[c]? = some (.map ms k)) : (getObj c).run P w = .ok (.map ms k) w := by simp [getObj, Sem.run, h]

theorem run_setMap {c : Nat} {ms : Array MapEntry} {k : Nat} {o' : Obj} (h : w.heap[c]? = some (.map ms k)) : (setObj c o').run P w = .ok () { w with heap := w.heap.setIfInBounds c o' } := by
  simp [setObj, Sem.run, h]

theorem run_getIter {c : Nat} {ms : ByteArray} {k : Nat} (h : w.heap[c]? = some (.stringIter ms k)) : (getObj c).run P w = .ok (.stringIter ms k) w := by simp [getObj, Sem.run, h]

theorem run_setIter {c : Nat} {ms : ByteArray} {k : Nat} {o' : Obj} (h : w.heap[c]? = some (.stringIter ms k)) : (setObj c o').run P w = .ok () { w with heap := w.heap.setIfInBounds c o' } := by
  simp [setObj, Sem.run, h]

/-- the map that is meant -/
theorem map_at {M : Mem} (hr : Rel E ρ M w) {r : Nat} {x' : Value} {es : List Entry} {ck : Nat} (hx : (AVal.map (some r)).rel ρ x') (hg : M.get r = some (.map es ck)) :
    ∃ l ms, ρ r = some l ∧ x' = .map (some l.c) ∧ w.heap[l.c]? = some (.map ms ck) ∧ relEs ρ es (Array.toList ms) := by
  simp only [AVal.rel] at hx
  obtain ⟨l, hρ, rfl⟩ := hx
  obtain ⟨l2, o, h1, h2, h3⟩ := hr.heap r _ hg
  rw [hρ] at h1; injection h1 with h1; subst h1
  obtain ⟨ms, rfl, h4⟩ := h3
  exact ⟨l, ms, hρ, rfl, h2, h4⟩

variable (ok : EnvOk E P)
include ok

theorem findKey_sound {kt : Nat} {kd : TypeDesc} {k : AVal} {k' : Value} {es : List Entry} {ms : List MapEntry} {r : Option (Nat × AVal)} (hk : k.rel ρ k') (hu : E.under kt = some kd) (hes : relEs ρ es ms) (hf : findE kd k es 0 = some r) :
    ∃ r', (Instr.findKey kt k' ms).run P w = .ok r' w ∧ match r with
      | none => r' = none
      | some (j, v) => ∃ v', r' = some (j, v') ∧ v.rel ρ v' ∧ ∃ e m, es[j]? = some e ∧ ms[j]? = some m ∧ relE ρ e m ∧ v = e.val ∧ v' = m.val ∧ Instr.sameNow kd k' m.key = some true := by
  obtain ⟨r', h1, h2⟩ := findE_sound hk es ms 0 r hes hf
  refine ⟨r', by unfold Instr.findKey; simp only [Sem.run_bind, run_under ok hu, Result.andThen_ok, h1, Sem.run_pure], ?_⟩
  cases r with
  | none => exact h2
  | some p =>
    obtain ⟨j, v⟩ := p
    obtain ⟨v', rfl, h3, _, e, m, h4, h5, h6, h7, h8⟩ := h2
    obtain ⟨_, m2, h9, h10⟩ := findNow_key ms 0 j v' h1
    rw [h5] at h9; injection h9 with h9; subst h9
    exact ⟨v', rfl, h3, e, m, by simpa using h4, by simpa using h5, h6, h7, h8, h10⟩

theorem mapPut_sound {M M' : Mem} (hr : Rel E ρ M w) {t : Nat} {x k v : AVal} {x' k' v' : Value} (hx : x.rel ρ x') (hk : k.rel ρ k') (hv : v.rel ρ v') (h : mapPut E M t x k v = some M') :
    ∃ w', (Instr.mapUpdate t x' k' v').run P w = .ok () w' ∧ Trans E ρ M w ρ M' w' := by
  unfold mapPut at h
  split at h
  · rename_i kt et r hu
    split at h
    · rename_i kd es ck hk2 hg
      cases hp : plainKey kd with
      | false => simp [hp] at h
      | true =>
        simp only [hp, cond_true] at h
        obtain ⟨l, ms, hρ, rfl, hh, hes⟩ := map_at hr hx hg
        cases hf : findE kd k es 0 with
        | none => simp [hf] at h
        | some q =>
          obtain ⟨r', hfk, hq⟩ := findKey_sound ok (w := w) hk hk2 hes hf
          cases q with
          | some p =>
            obtain ⟨j, u⟩ := p
            obtain ⟨u', rfl, _, e, m, _, h5, _, _, _, h10⟩ := hq
            simp only [hf, Option.some.injEq] at h
            subst h
            have h5' : ms[j]? = some m := by simpa using h5
            refine ⟨_, ?_, Trans.of_put hr hg rfl hρ (ob' := .map (ms.modify j fun e => { e with key := k', val := v' }) ck) ⟨_, rfl, ?_⟩⟩
            · simp only [Instr.mapUpdate, Sem.run_bind, run_under ok hu, Result.andThen_ok, run_getMap hh, checkKey_sound ok hk2 hp, hfk, h5', Option.map_some, Option.getD_some, run_stays h10, run_setMap hh]
            · rw [Array.toList_modify]
              exact relEs_setVal hk hv es ms.toList j hes
          | none =>
            simp only at hq
            subst hq
            simp only [hf, Option.some.injEq] at h
            subst h
            refine ⟨_, ?_, Trans.of_put hr hg rfl hρ (ob' := .map (ms.push { key := k', val := v', born := ck }) (ck + 1)) ⟨_, rfl, ?_⟩⟩
            · simp only [Instr.mapUpdate, Sem.run_bind, run_under ok hu, Result.andThen_ok, run_getMap hh, checkKey_sound ok hk2 hp, hfk, run_setMap hh]
            · rw [Array.toList_push]
              exact relEs_push hes ⟨hk, hv, rfl⟩
    · cases h
  · cases h

theorem mapEntry_sound {M M' : Mem} (hr : Rel E ρ M w) {t : Nat} {x k : AVal} {x' k' : Value} {v : AVal} (hx : x.rel ρ x') (hk : k.rel ρ k') (h : mapEntryV E M t x k = some (v, M')) :
    ∃ v' w', (Instr.mapEntry t x' k').run P w = .ok v' w' ∧ v.rel ρ v' ∧ Trans E ρ M w ρ M' w' := by
  unfold mapEntryV at h
  split at h
  · rename_i kt et r hu
    split at h
    · rename_i kd es ck z hk2 hg hz
      cases hp : plainKey kd with
      | false => simp [hp] at h
      | true =>
        simp only [hp, cond_true] at h
        obtain ⟨l, ms, hρ, rfl, hh, hes⟩ := map_at hr hx hg
        cases hf : findE kd k es 0 with
        | none => simp [hf] at h
        | some q =>
          obtain ⟨r', hfk, hq⟩ := findKey_sound ok (w := w) hk hk2 hes hf
          have tup (a : AVal) (a' : Value) (n : Int) (ha : a.rel ρ a') : (AVal.tuple [a, .int .i64 n]).rel ρ (.tuple #[a', goInt n]) := by
            simp only [AVal.rel]
            exact ⟨_, rfl, relL_cons.2 ⟨ha, relL_cons.2 ⟨by simp [AVal.rel, goInt], relL_nil⟩⟩⟩
          cases q with
          | some p =>
            obtain ⟨j, u⟩ := p
            obtain ⟨u', rfl, hu', e, m, h4, h5, h6, _, _, h10⟩ := hq
            simp only [hf, h4, Option.some.injEq, Prod.mk.injEq] at h
            obtain ⟨rfl, rfl⟩ := h
            have h5' : ms[j]? = some m := by simpa using h5
            refine ⟨.tuple #[u', goInt e.born], _, ?_, tup u u' _ hu', Trans.of_put hr hg rfl hρ (ob' := .map (ms.modify j fun e => { e with key := k' }) ck) ⟨_, rfl, ?_⟩⟩
            · simp only [Instr.mapEntry, Sem.run_bind, run_under ok hu, Result.andThen_ok, run_getMap hh, checkKey_sound ok hk2 hp, hfk, h5', Option.map_some, Option.getD_some, run_stays h10, run_setMap hh, Sem.run_pure, h6.2.2]
            · rw [Array.toList_modify]
              exact relEs_setKey hk es ms.toList j e h4 hes
          | none =>
            simp only at hq
            subst hq
            simp only [hf, Option.some.injEq, Prod.mk.injEq] at h
            obtain ⟨rfl, rfl⟩ := h
            obtain ⟨z', hz1, hz2⟩ := run_zero ok (w := w) hz
            refine ⟨.tuple #[z', goInt ck], _, ?_, tup z z' _ (hz2 ρ), Trans.of_put hr hg rfl hρ (ob' := .map (ms.push { key := k', val := z', born := ck }) (ck + 1)) ⟨_, rfl, ?_⟩⟩
            · simp only [Instr.mapEntry, Sem.run_bind, run_under ok hu, Result.andThen_ok, run_getMap hh, checkKey_sound ok hk2 hp, hfk, hz1, run_setMap hh, Sem.run_pure]
            · rw [Array.toList_push]
              exact relEs_push hes ⟨hk, hz2 ρ, rfl⟩
    · cases h
  · cases h

omit ok in
theorem entryStore_sound {M M' : Mem} (hr : Rel E ρ M w) {t : Nat} {x s v : AVal} {x' s' v' : Value} (hx : x.rel ρ x') (hs : s.rel ρ s') (hv : v.rel ρ v') (h : entryStoreV M x s v = some M') :
    ∃ w', (Instr.entryStore t x' s' v').run P w = .ok () w' ∧ Trans E ρ M w ρ M' w' := by
  unfold entryStoreV at h
  split at h
  · rename_i r kk b
    split at h
    · rename_i es ck hg
      split at h
      · rename_i hb
        simp only [Option.map_eq_some_iff] at h
        obtain ⟨es', h1, rfl⟩ := h
        obtain ⟨l, ms, hρ, rfl, hh, hes⟩ := map_at hr hx hg
        rw [rel_int] at hs; subst hs
        obtain ⟨i, h2, h3⟩ := relEs_setBorn hv es es' ms.toList h1 hes
        rw [Int.toNat_of_nonneg hb] at h2
        have h2' : ms.findIdx? (fun e => ((e.born : Nat) : Int) == b) = some i := by
          rw [← h2, List.findIdx?_toArray]
        refine ⟨_, ?_, Trans.of_put hr hg rfl hρ (ob' := .map (ms.modify i fun e => { e with val := v' }) ck) ⟨_, rfl, ?_⟩⟩
        · simp only [Instr.entryStore, Sem.run_bind, run_getMap hh, Result.andThen_ok, asInt, asIntOf, Sem.run_pure, h2', run_setMap hh]
        · rw [Array.toList_modify]
          exact h3
      · cases h
    · cases h
  · cases h

omit ok in
theorem next_sound {M M' : Mem} (hr : Rel E ρ M w) {F : Fr} {a : Act} {x : Operand} {b : Bool} {v : AVal} {t : Nat} (he : ∀ u, ev E F x = some u → u.rel ρ (a.eval x)) (h : nextOp E F M x b = some (v, M')) :
    ∃ v' w', (Instr.next (a.eval x) b t).run P w = .ok v' w' ∧ v.rel ρ v' ∧ Trans E ρ M w ρ M' w' := by
  unfold nextOp at h
  cases b with
  | false => simp at h
  | true =>
    simp only [cond_true] at h
    split at h
    · rename_i r hx
      split at h
      · rename_i s pos hg
        have hrx := he _ hx
        simp only [AVal.rel] at hrx
        obtain ⟨l, hρ, hv⟩ := hrx
        obtain ⟨l2, o, h1, h2, h3⟩ := hr.heap r _ hg
        rw [hρ] at h1; injection h1 with h1; subst h1
        obtain ⟨hsh, b0, rfl, rfl⟩ := h3
        have hv' : a.eval x = .pointer (some ⟨l.c, 0, none⟩) := by rw [hv, hsh]
        have hlen : (bytesNat b0).length = b0.size := bytesNat_length b0
        cases hc : (bytesNat b0)[pos]? with
        | none =>
          simp only [hc, Option.some.injEq, Prod.mk.injEq] at h
          obtain ⟨rfl, rfl⟩ := h
          have hge : ¬ pos < b0.size := by
            rw [List.getElem?_eq_none_iff] at hc; omega
          refine ⟨.tuple #[.bool false], w, ?_, by simp only [AVal.rel]; exact ⟨_, rfl, relL_cons.2 ⟨by simp [AVal.rel], relL_nil⟩⟩, Trans.refl hr⟩
          rw [hv']
          simp only [Instr.next, Sem.run_bind, run_getIter h2, Result.andThen_ok, hge, if_false, Sem.run_pure]
        | some c =>
          simp only [hc] at h
          cases hlt : Nat.blt c 128 with
          | false => simp [hlt] at h
          | true =>
            simp only [hlt, cond_true, Option.some.injEq, Prod.mk.injEq] at h
            obtain ⟨rfl, rfl⟩ := h
            have hc128 := of_blt hlt
            have hpos : pos < b0.size := by
              have := (List.getElem?_eq_some_iff.1 hc).1; omega
            have hget : (b0.get! (pos + 0)).toNat = c := by
              simp only [bytesNat, List.getElem?_map, Option.map_eq_some_iff] at hc
              obtain ⟨u, hu, rfl⟩ := hc
              have hu' : b0.data[pos]? = some u := by simpa using hu
              simp only [Nat.add_zero, ByteArray.get!]
              rw [getElem!_def, hu']
            have hdec : Utf8.decode b0 pos = (c, 1) := by
              unfold Utf8.decode
              simp only [hget]
              rw [if_pos hc128]
            refine ⟨.tuple #[.bool true, goInt pos, .int .i32 c], _, ?_, ?_, Trans.of_put hr hg rfl hρ (ob' := .stringIter b0 (pos + 1)) ⟨hsh, b0, rfl, rfl⟩⟩
            · rw [hv']
              simp only [Instr.next, Sem.run_bind, run_getIter h2, Result.andThen_ok, hpos, if_true, hdec, run_setIter h2, Sem.run_pure]
            · simp only [AVal.rel]
              exact ⟨_, rfl, relL_cons.2 ⟨by simp [AVal.rel], relL_cons.2 ⟨by simp [AVal.rel, goInt], relL_cons.2 ⟨by simp [AVal.rel], relL_nil⟩⟩⟩⟩
      · cases h
    · cases h

end
end Go.Ev
