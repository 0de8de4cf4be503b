/- A part of the proof that an evaluator of the machine's code is sound (EvRd6). No conditions. -/
import Derived.Test.YtnklododmdplmaaGreatDoorEvRd5
namespace Go.Ev

section
variable {E : Env} {P : Program} (ok : EnvOk E P) {w : World} {ρ : Emb}

theorem relO_evo {F : Fr} {a : Act} {x : Option Operand} {v : Option AVal} (he : ∀ y v, x = some y → ev E F y = some v → v.rel ρ (a.eval y)) (h : evo E F x = some v) : relO ρ v (x.map a.eval) := by
  cases x with
  | none => simp [evo] at h; subst h; trivial
  | some y =>
    simp only [evo, Option.map_eq_some_iff] at h
    obtain ⟨u, hu, rfl⟩ := h
    exact he y u rfl hu

theorem relL_evs {F : Fr} {a : Act} : ∀ (l : List Operand) (vs : List AVal), (∀ x ∈ l, ∀ v, ev E F x = some v → v.rel ρ (a.eval x)) → evs E F l = some vs → relL ρ vs (l.map a.eval)
  | [], vs, _, h => by simp [evs, optMap] at h; subst h; exact relL_nil
  | x :: xs, vs, he, h => by
    simp only [evs, optMap] at h
    cases hx : ev E F x with
    | none => simp [hx] at h
    | some v =>
      cases hy : optMap (ev E F) xs with
      | none => simp [hx, hy] at h
      | some ys =>
        simp only [hx, hy, Option.some.injEq] at h
        subst h
        exact relL_cons.2 ⟨he x (by simp) v hx, relL_evs xs ys (fun z hz => he z (by simp [hz])) hy⟩

theorem minmax_sound (mx : Bool) : ∀ (l : List AVal) (l' : List Value) (x : AVal) (x' : Value) (v : AVal), x.rel ρ x' → relL ρ l l' → minmax mx x l = some v →
    ∃ v', (l'.foldlM (if mx then Builtin.max2 else Builtin.min2) x').run P w = .ok v' w ∧ v.rel ρ v'
  | [], l', x, x', v, hx, hl, h => by
    simp only [relL] at hl; subst hl
    cases x with
    | int k n =>
      simp only [minmax, Option.some.injEq] at h; subst h
      exact ⟨x', by simp, hx⟩
    | _ => simp [minmax] at h
  | y :: l, l', x, x', v, hx, hl, h => by
    simp only [relL] at hl
    obtain ⟨y', l'', rfl, h1, h2⟩ := hl
    cases x with
    | int k n =>
      cases y with
      | int k' m =>
        rw [rel_int] at hx h1; subst hx; subst h1
        simp only [minmax] at h
        split at h
        · rename_i hk
          subst hk
          have ih := minmax_sound mx l l'' _ (.int k (if mx then (if m > n then m else n) else (if m < n then m else n))) v (by rw [rel_int]; cases mx <;> rfl) h2 h
          obtain ⟨v', hv, hr⟩ := ih
          refine ⟨v', ?_, hr⟩
          simp only [List.foldlM_cons, Sem.run_bind]
          have : ((if mx then Builtin.max2 else Builtin.min2) (Value.int k n) (Value.int k m)).run P w = .ok (.int k (if mx then (if m > n then m else n) else (if m < n then m else n))) w := by
            cases mx <;> simp [Builtin.max2, Builtin.min2]
          rw [this]
          exact hv
        · cases h
      | _ => simp [minmax] at h
    | _ => simp [minmax] at h

include ok

theorem len_sound {g : Nat → Option AObj} (hl : LookRel ρ g w) {t : Nat} {x : AVal} {x' : Value} {v : AVal} {ts : Array Nat} {args : Array Value} {ty : Nat} (ht : ts[0]? = some t) (ha : args[0]? = some x') (hx : x.rel ρ x') (h : lenV E g t x = some v) :
    ∃ v', (Builtin.len_ ts ty args).run P w = .ok v' w ∧ v.rel ρ v' := by
  unfold Builtin.len_
  simp only [ht, ha, Sem.run_bind]
  unfold lenV at h
  split at h
  · rename_i s hu
    rw [rel_str] at hx
    obtain ⟨b, rfl, rfl⟩ := hx
    injection h with h; subst h
    simp only [run_under ok hu, Result.andThen_ok, Sem.run_pure]
    exact ⟨_, rfl, by rw [rel_int, bytesNat_length]; rfl⟩
  · rename_i n e hu
    injection h with h; subst h
    simp only [run_under ok hu, Result.andThen_ok]
    refine ⟨.int .i64 n, ?_, by simp [AVal.rel]⟩
    rfl
  · rename_i e q n c o hu
    injection h with h; subst h
    simp only [run_under ok hu, Result.andThen_ok]
    cases q with
    | none => simp only [AVal.rel] at hx; subst hx; exact ⟨_, rfl, by rw [rel_int]; rfl⟩
    | some q => simp only [AVal.rel] at hx; obtain ⟨l, _, rfl⟩ := hx; exact ⟨_, rfl, by rw [rel_int]; rfl⟩
  · rename_i e hu
    injection h with h; subst h
    simp only [AVal.rel] at hx
    obtain ⟨a, k, rfl⟩ := hx
    simp only [run_under ok hu, Result.andThen_ok]
    exact ⟨_, rfl, by rw [rel_int]; rfl⟩
  · rename_i k e hu
    injection h with h; subst h
    simp only [AVal.rel] at hx; subst hx
    simp only [run_under ok hu, Result.andThen_ok]
    exact ⟨_, rfl, by rw [rel_int]; rfl⟩
  · rename_i k e r hu
    simp only [AVal.rel] at hx
    obtain ⟨l, hρ, rfl⟩ := hx
    split at h
    · rename_i es ck hg
      injection h with h; subst h
      obtain ⟨o, ho, ms, rfl, hr⟩ := hl r _ l hg hρ
      have hgo : (getObj l.c).run P w = .ok (.map ms ck) w := by simp [getObj, Sem.run, ho]
      simp only [run_under ok hu, Result.andThen_ok, Sem.run_bind, hgo, Sem.run_pure]
      refine ⟨_, rfl, ?_⟩
      have hlen : ∀ (a : List Entry) (b : List MapEntry), relEs ρ a b → a.length = b.length := by
        intro a
        induction a with
        | nil => intro b h; simp only [relEs] at h; subst h; rfl
        | cons e a ih => intro b h; simp only [relEs] at h; obtain ⟨m, ms, rfl, _, h2⟩ := h; simp [ih ms h2]
      rw [rel_int, hlen _ _ hr]
      rfl
    · cases h
  · cases h

theorem cap_sound {t : Nat} {x : AVal} {x' : Value} {v : AVal} {ts : Array Nat} {args : Array Value} {ty : Nat} (ht : ts[0]? = some t) (ha : args[0]? = some x') (hx : x.rel ρ x') (h : capV E t x = some v) :
    ∃ v', (Builtin.cap_ ts ty args).run P w = .ok v' w ∧ v.rel ρ v' := by
  unfold Builtin.cap_
  simp only [ht, ha, Sem.run_bind]
  unfold capV at h
  split at h
  · rename_i e q l c hu
    injection h with h; subst h
    simp only [run_under ok hu, Result.andThen_ok]
    cases q with
    | none => simp only [AVal.rel] at hx; subst hx; exact ⟨_, rfl, by rw [rel_int]; rfl⟩
    | some q => simp only [AVal.rel] at hx; obtain ⟨l, _, rfl⟩ := hx; exact ⟨_, rfl, by rw [rel_int]; simp [goInt]⟩
  · rename_i n e hu
    injection h with h; subst h
    simp only [run_under ok hu, Result.andThen_ok]
    refine ⟨.int .i64 n, ?_, by simp [AVal.rel]⟩
    rfl
  · cases h

omit ok in
theorem fields_eq {t : Nat} {fs : List Field} (h : E.fields t = some fs) : ∃ a : Array Field, E.under t = some (.struct a) ∧ fs = a.toList := by
  unfold Env.fields at h
  split at h
  · rename_i a hu
    injection h with h
    exact ⟨a, hu, h.symm⟩
  · cases h

/-- **What only looks.** -/
theorem rd_sound {g : Nat → Option AObj} {F : Fr} {a : Act} {o : Oper} {v : AVal} (he : HE E ρ F a o.op) (hl : LookRel ρ g w) (h : rd E g F o.op = some v) :
    ∃ v', (execOp a.eval o).run P w = .ok (.value v') w ∧ v.rel ρ v' := by
  obtain ⟨dst, op, type, pos, after, guard⟩ := o
  simp only at he h
  have val (s : Sem Value) (H : ∃ v', s.run P w = .ok v' w ∧ v.rel ρ v') : ∃ v', (do pure (Next.value (← s)) : Sem Next).run P w = .ok (.value v') w ∧ v.rel ρ v' := by
    obtain ⟨v', h1, h2⟩ := H
    exact ⟨v', by simp [h1], h2⟩
  cases op <;> simp only [rd] at h <;> try (cases h; done)
  case move x => exact ⟨a.eval x, by simp [execOp], he x v (by simp [Op.operands]) h⟩
  case assign x => exact ⟨a.eval x, by simp [execOp], he x v (by simp [Op.operands]) h⟩
  case pick c x y =>
    unfold pickV at h
    split at h
    · rename_i t hc
      have := he c _ (by simp [Op.operands]) hc
      rw [rel_bool'] at this
      cases t with
      | true => exact ⟨a.eval x, by simp [execOp, this, asBool], he x v (by simp [Op.operands]) h⟩
      | false => exact ⟨a.eval y, by simp [execOp, this, asBool], he y v (by simp [Op.operands]) h⟩
    · cases h
  case nilCheck x =>
    unfold nilV at h
    split at h
    · rename_i p hx
      injection h with h; subst h
      have hr := he x _ (by simp [Op.operands]) hx
      have hr' := hr
      simp only [AVal.rel] at hr'
      obtain ⟨l, hρ, hv⟩ := hr'
      exact ⟨a.eval x, by simp [execOp, hv], hr⟩
    · rename_i f p q hx
      injection h with h; subst h
      have hr := he x _ (by simp [Op.operands]) hx
      have hr' := hr
      simp only [AVal.rel] at hr'
      obtain ⟨x1, x2, hv, _, _⟩ := hr'
      exact ⟨a.eval x, by simp [execOp, hv], hr⟩
    · cases h
  case binOp bop t x y ty =>
    unfold binV at h
    split at h
    · rename_i u1 u2 h1 h2
      refine val _ ?_
      exact bin_sound ok (he x _ (by simp [Op.operands]) h1) (he y _ (by simp [Op.operands]) h2) h
    · cases h
  case unOp uop t x =>
    unfold unV at h
    split at h
    · rename_i u h1
      exact val _ (un_sound (he x _ (by simp [Op.operands]) h1) h)
    · cases h
  case convert s d x =>
    unfold convV at h
    split at h
    · rename_i u h1
      exact val _ (conv_sound ok hl (he x _ (by simp [Op.operands]) h1) h)
    · cases h
  case makeInterface t x =>
    unfold ifaceV at h
    split at h
    · rename_i u d h1 h2
      cases hi : isIfaceD d with
      | true => simp [hi] at h
      | false =>
        simp only [hi, cond_false, Option.some.injEq] at h; subst h
        refine val _ ⟨.iface t (a.eval x), ?_, by simp only [AVal.rel]; exact ⟨_, rfl, he x _ (by simp [Op.operands]) h1⟩⟩
        unfold Instr.makeInterface
        simp only [Sem.run_bind, run_under ok h2, Result.andThen_ok]
        cases d <;> first | rfl | simp [isIfaceD] at hi
    · cases h
  case makeFunc fn first cap =>
    unfold funcV at h
    split at h
    · rename_i l1 l2 h1 h2
      injection h with h; subst h
      refine val _ ⟨.func fn (first.map a.eval) (cap.map a.eval), rfl, ?_⟩
      simp only [AVal.rel]
      refine ⟨_, _, rfl, ?_, ?_⟩
      · have := relL_evs (ρ := ρ) (a := a) first.toList l1 (fun x hx u hu => he x u (by simp only [Op.operands, Array.toList_append, List.mem_append]; exact .inl hx) hu) h1
        simpa using this
      · have := relL_evs (ρ := ρ) (a := a) cap.toList l2 (fun x hx u hu => he x u (by simp only [Op.operands, Array.toList_append, List.mem_append]; exact .inr hx) hu) h2
        simpa using this
    · cases h
  case extract x i =>
    unfold extractV at h
    split at h
    · rename_i vs h1
      have hr := he x _ (by simp [Op.operands]) h1
      simp only [AVal.rel] at hr
      obtain ⟨ws, hv, hr⟩ := hr
      obtain ⟨v', hi, hr'⟩ := relL_get hr i v h
      refine val _ ⟨v', ?_, hr'⟩
      have : ws[i]? = some v' := by simpa using hi
      rw [hv]
      simp [Instr.extract, this]
    · cases h
  case typeAssert x xt t ok' =>
    unfold assertV at h
    split at h
    · rename_i u hu
      have hr := he x _ (by simp [Op.operands]) hu
      unfold assertE at h
      split at h
      · rename_i d t' y hd
        simp only [AVal.rel] at hr
        obtain ⟨y', hv, hr⟩ := hr
        have hund := run_under ok (w := w) hd
        cases hi : isIfaceD d with
        | true => simp [hi] at h
        | false =>
          simp only [hi, cond_false] at h
          cases ht : Nat.beq t' t with
          | true =>
            have ht := of_beq ht
            subst ht
            simp only [Nat.beq_refl, cond_true, Option.some.injEq] at h
            subst h
            cases ok' with
            | true =>
              refine val _ ⟨.tuple #[y', .bool true], ?_, ?_⟩
              · rw [hv]; cases d <;> first | (simp [isIfaceD] at hi; done) | simp [Instr.typeAssert, hund]
              · simp only [cond_true, AVal.rel]; exact ⟨_, rfl, relL_cons.2 ⟨hr, relL_cons.2 ⟨by simp [AVal.rel], relL_nil⟩⟩⟩
            | false =>
              refine val _ ⟨y', ?_, by simpa using hr⟩
              rw [hv]; cases d <;> first | (simp [isIfaceD] at hi; done) | simp [Instr.typeAssert, hund]
          | false =>
            have hne : t' ≠ t := fun e => by subst e; simp at ht
            simp only [ht, cond_false] at h
            cases ok' with
            | false => simp at h
            | true =>
              simp only [cond_true] at h
              split at h
              · rename_i z hz
                injection h with h; subst h
                obtain ⟨z', h1, h2⟩ := run_zero ok (w := w) hz
                refine val _ ⟨.tuple #[z', .bool false], ?_, ?_⟩
                · rw [hv]; cases d <;> first | (simp [isIfaceD] at hi; done) | simp [Instr.typeAssert, hund, hne, h1]
                · simp only [AVal.rel]; exact ⟨_, rfl, relL_cons.2 ⟨h2 _, relL_cons.2 ⟨by simp [AVal.rel], relL_nil⟩⟩⟩
              · cases h
      · rename_i d hd
        simp only [AVal.rel] at hr
        have hund := run_under ok (w := w) hd
        cases hi : isIfaceD d with
        | true => simp [hi] at h
        | false =>
          simp only [hi, cond_false] at h
          cases ok' with
          | false => simp at h
          | true =>
            simp only [cond_true] at h
            split at h
            · rename_i z hz
              injection h with h; subst h
              obtain ⟨z', h1, h2⟩ := run_zero ok (w := w) hz
              refine val _ ⟨.tuple #[z', .bool false], ?_, ?_⟩
              · rw [hr]; cases d <;> first | (simp [isIfaceD] at hi; done) | simp [Instr.typeAssert, hund, h1]
              · simp only [AVal.rel]; exact ⟨_, rfl, relL_cons.2 ⟨h2 _, relL_cons.2 ⟨by simp [AVal.rel], relL_nil⟩⟩⟩
            · cases h
      · cases h
    · cases h
  case field t x i =>
    unfold fieldV at h
    split at h
    · rename_i fs cs h1 h2
      have hr := he x _ (by simp [Op.operands]) h2
      simp only [AVal.rel] at hr
      obtain ⟨ws, hv, hr⟩ := hr
      obtain ⟨fa, hu, rfl⟩ := fields_eq h1
      split at h
      · rename_i f hf
        obtain ⟨v', hp, hr'⟩ := part_sound ok (w := w) hr h
        refine val _ ⟨v', ?_, hr'⟩
        have : fa[i]? = some f := by simpa using hf
        simp [Instr.field, run_under ok hu, this, hv, asAgg, hp]
      · cases h
    · cases h
  case index t x ix =>
    unfold indexV at h
    split at h
    · rename_i n e cs k i hu h1 h2
      have hr := he x _ (by simp [Op.operands]) h1
      have hr2 := he ix _ (by simp [Op.operands]) h2
      rw [rel_int] at hr2
      simp only [AVal.rel] at hr
      obtain ⟨ws, hv, hr⟩ := hr
      split at h
      · rename_i hb
        split at h
        · rename_i s hs
          obtain ⟨v', hp, hr'⟩ := part_sound ok (w := w) hr h
          refine val _ ⟨v', ?_, hr'⟩
          simp [Instr.index, asIntOf, hr2, hv, run_under ok hu, hb, run_size ok hs, hp]
        · cases h
      · cases h
    · rename_i s k i hu h1 h2
      have hr := he x _ (by simp [Op.operands]) h1
      have hr2 := he ix _ (by simp [Op.operands]) h2
      rw [rel_int] at hr2
      rw [rel_str] at hr
      obtain ⟨b, hv, rfl⟩ := hr
      split at h
      · rename_i hb
        simp only [Option.map_eq_some_iff] at h
        obtain ⟨c, hc, rfl⟩ := h
        simp only [bytesNat, List.getElem?_map, Option.map_eq_some_iff] at hc
        obtain ⟨u, hu2, rfl⟩ := hc
        refine val _ ⟨.int .u8 u.toNat, ?_, by simp [AVal.rel]⟩
        have hget : b[i.toNat]? = some u := by
          have hlt : i.toNat < b.data.toList.length := (List.getElem?_eq_some_iff.1 hu2).1
          have hlt' : i.toNat < b.size := hlt
          rw [getElem?_pos b i.toNat hlt']
          have := (List.getElem?_eq_some_iff.1 hu2).2
          congr 1
        simp only [Instr.index, asIntOf, hr2, hv, Sem.run_bind, Sem.run_pure, Result.andThen_ok, run_under ok hu, hb, if_true, hget]
      · cases h
    · cases h
  case fieldAddr t x i =>
    unfold fieldAddrV at h
    split at h
    · rename_i fs b off h1 h2
      have hr := he x _ (by simp [Op.operands]) h2
      simp only [AVal.rel] at hr
      obtain ⟨l, hρ, hv⟩ := hr
      obtain ⟨fa, hu, rfl⟩ := fields_eq h1
      split at h
      · rename_i f hf
        split at h
        · rename_i s hs
          cases hz : Nat.beq s 0 with
          | true => simp [hz] at h
          | false =>
            simp only [hz, cond_false, Option.some.injEq] at h; subst h
            have hs0 : s ≠ 0 := by intro e; subst e; simp at hz
            refine val _ ⟨.pointer (some ⟨l.c, l.sh + (off + f.offset), none⟩), ?_, by simp only [AVal.rel]; exact ⟨l, hρ, rfl⟩⟩
            have : fa[i]? = some f := by simpa using hf
            simp [Instr.fieldAt, run_under ok hu, this, hv, Instr.sureAddr, fieldPlace, run_size ok hs, hs0, addr_add_off, Nat.add_assoc]
        · cases h
      · cases h
    · cases h
  case indexAddr t x ix =>
    unfold indexAddrV at h
    split at h
    · rename_i n e b off k i hu h1 h2
      have hr := he x _ (by simp [Op.operands]) h1
      have hr2 := he ix _ (by simp [Op.operands]) h2
      rw [rel_int] at hr2
      simp only [AVal.rel] at hr
      obtain ⟨l, hρ, hv⟩ := hr
      split at h
      · rename_i hb
        split at h
        · rename_i s hs
          injection h with h; subst h
          refine val _ ⟨.pointer (some ⟨l.c, l.sh + (off + i.toNat * s), none⟩), ?_, by simp only [AVal.rel]; exact ⟨l, hρ, rfl⟩⟩
          simp [Instr.indexAt, asIntOf, hr2, hv, run_under ok hu, Instr.sureAddr, hb, run_size ok hs, addr_add_off, Nat.add_assoc]
        · cases h
      · cases h
    · rename_i e b off n c o k i hu h1 h2
      have hr := he x _ (by simp [Op.operands]) h1
      have hr2 := he ix _ (by simp [Op.operands]) h2
      rw [rel_int] at hr2
      simp only [AVal.rel] at hr
      obtain ⟨l, hρ, hv⟩ := hr
      split at h
      · rename_i hb
        split at h
        · rename_i s hs
          injection h with h; subst h
          refine val _ ⟨.pointer (some ⟨l.c, l.sh + (off + i.toNat * s), none⟩), ?_, by simp only [AVal.rel]; exact ⟨l, hρ, rfl⟩⟩
          simp [Instr.indexAt, asIntOf, hr2, hv, run_under ok hu, hb, run_size ok hs, addr_add_off, Nat.add_assoc]
        · cases h
      · cases h
    · cases h
  case slice t x lo hi mx =>
    unfold sliceOpV at h
    split at h
    · rename_i u l hh m h1 h2 h3 h4
      have hin : ∀ (q : Option Operand), (∀ y, q = some y → y ∈ (Op.slice t x lo hi mx).operands.toList) → ∀ y v, q = some y → ev E F y = some v → v.rel ρ (a.eval y) := fun q hq y v hy hv => he y v (hq y hy) hv
      refine val _ (sliceV_sound ok (he x _ (by simp [Op.operands]) h1) (relO_evo (hin lo (by rintro y rfl; simp [Op.operands])) h2) (relO_evo (hin hi (by rintro y rfl; simp [Op.operands])) h3) (relO_evo (hin mx (by rintro y rfl; simp [Op.operands])) h4) h)
    · cases h
  case build t ps =>
    unfold buildOpV at h
    split at h
    · rename_i l h1
      refine val _ (build_sound ok (parts' := ps.map fun (i, x) => (i, a.eval x)) ?_ h)
      have := evParts_rel (ρ := ρ) (a := a) ps.toList l (fun p hp v hv => he p.2 v (by simp only [Op.operands]; simp; exact ⟨p.1, by simpa using hp⟩) hv) h1
      simpa using this
    · cases h
  case load t x =>
    unfold loadOpV at h
    split at h
    · rename_i u h1
      obtain ⟨ad, v', h2, h3, h4⟩ := loadV_sound ok hl (he x _ (by simp [Op.operands]) h1) h
      exact val _ ⟨v', by simp [Instr.loadAt, h2, Instr.sureAddr, h3], h4⟩
    · cases h
  case lookup t x k b =>
    unfold lookupOpV at h
    split at h
    · rename_i u1 u2 h1 h2
      exact val _ (lookup_sound ok hl (he x _ (by simp [Op.operands]) h1) (he k _ (by simp [Op.operands]) h2) h)
    · cases h
  case call c =>
    obtain ⟨callee, args, ts⟩ := c
    cases callee with
    | value f => simp at h
    | invoke r m => simp at h
    | builtin b =>
      have hargs : ∀ x ∈ args.toList, ∀ v, ev E F x = some v → v.rel ρ (a.eval x) := fun x hx v hv => he x v (by simp [Op.operands, Call.operands]; simpa using hx) hv
      cases b <;> simp only at h <;> try (cases h; done)
      case len =>
        unfold lenOpV at h
        split at h
        · rename_i x xs t tt e1 e2
          split at h
          · rename_i u h1
            have ha0 : (args.map a.eval)[0]? = some (a.eval x) := by
              have : args[0]? = some x := by rw [← Array.getElem?_toList, e1]; rfl
              simp [this]
            have ht0 : ts[0]? = some t := by rw [← Array.getElem?_toList, e2]; rfl
            refine val _ ?_
            obtain ⟨v', h2, h3⟩ := len_sound ok hl (ty := type) ht0 ha0 (hargs x (by rw [e1]; simp) u h1) h
            exact ⟨v', h2, h3⟩
          · cases h
        · cases h
      case cap =>
        unfold capOpV at h
        split at h
        · rename_i x xs t tt e1 e2
          split at h
          · rename_i u h1
            have ha0 : (args.map a.eval)[0]? = some (a.eval x) := by
              have : args[0]? = some x := by rw [← Array.getElem?_toList, e1]; rfl
              simp [this]
            have ht0 : ts[0]? = some t := by rw [← Array.getElem?_toList, e2]; rfl
            exact val _ (cap_sound ok (ty := type) ht0 ha0 (hargs x (by rw [e1]; simp) u h1) h)
          · cases h
        · cases h
      case max =>
        unfold minmaxOpV at h
        split at h
        · rename_i x xs h1
          have hr := relL_evs (ρ := ρ) (a := a) args.toList _ hargs h1
          simp only [relL] at hr
          obtain ⟨y, ys, e1, hx, hxs⟩ := hr
          obtain ⟨v', h2, h3⟩ := minmax_sound (P := P) (w := w) true xs ys x y v hx hxs h
          refine val _ ⟨v', ?_, h3⟩
          simp only [Builtin.max_, Array.toList_map, e1]
          exact h2
        · cases h
      case min =>
        unfold minmaxOpV at h
        split at h
        · rename_i x xs h1
          have hr := relL_evs (ρ := ρ) (a := a) args.toList _ hargs h1
          simp only [relL] at hr
          obtain ⟨y, ys, e1, hx, hxs⟩ := hr
          obtain ⟨v', h2, h3⟩ := minmax_sound (P := P) (w := w) false xs ys x y v hx hxs h
          refine val _ ⟨v', ?_, h3⟩
          simp only [Builtin.min_, Array.toList_map, e1]
          exact h2
        · cases h

end
end Go.Ev
