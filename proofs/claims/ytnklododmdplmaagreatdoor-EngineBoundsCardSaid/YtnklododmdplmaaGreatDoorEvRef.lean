/- A part of the proof that an evaluator of the machine's code is sound (EvRef). No conditions. -/
import Derived.Test.YtnklododmdplmaaGreatDoorEvApp
import GoSem.Extern.ReflectliteValue
namespace Go.Ev
open Go.Extern

/-! The functions of reflectlite that errors.As calls. -/

section
variable {E : Env} {P : Program} {R : RefT} (ok : EnvOk E P) (rok : RefOk E P R) {ρ : Emb} {w : World}
include rok

theorem handle_rel (hg : ∀ g, g < E.ng → ∃ x, ρ g = some ⟨g, 0, x, dv⟩) (t : Nat) : (AVal.ptr (some (R.g, t))).rel ρ (typeHandle P t) := by
  obtain ⟨x, hx⟩ := hg R.g rok.lt
  simp only [AVal.rel]
  refine ⟨_, hx, ?_⟩
  unfold typeHandle
  rw [← rok.g, Nat.zero_add]

theorem handle_of (hg : ∀ g, g < E.ng → ∃ x, ρ g = some ⟨g, 0, x, dv⟩) {x : AVal} {x' : Value} {t : Nat} (h : handleE R x = some t) (hx : x.rel ρ x') : x' = typeHandle P t ∧ ∃ k, lookN R.kinds t = some k := by
  unfold handleE at h
  split at h
  · rename_i b t'
    obtain ⟨hb, h⟩ := bif_some h
    injection h with h
    subst h
    simp only [Bool.and_eq_true] at hb
    have := of_beq hb.1
    subst this
    obtain ⟨k, hk⟩ := Option.isSome_iff_exists.1 hb.2
    refine ⟨?_, k, hk⟩
    obtain ⟨x, hx2⟩ := hg R.g rok.lt
    simp only [AVal.rel] at hx
    obtain ⟨l, hl, rfl⟩ := hx
    rw [hx2] at hl
    injection hl with hl
    subst hl
    unfold typeHandle
    rw [← rok.g, Nat.zero_add]
  · cases h

omit rok in
theorem run_ofHandle (t : Nat) : (Rtype.ofHandle (typeHandle P t)).run P w = .ok t w := by
  simp [Rtype.ofHandle, typeHandle, handleType]

omit rok in
theorem run_handle (t : Nat) : (Rtype.handle t).run P w = .ok (typeHandle P t) w := by
  simp [Rtype.handle]

theorem run_noPack {t k : Nat} (what : String) (h : lookN R.kinds t = some k) : (Rtype.noPack what t).run P w = .ok () w := by
  simp [Rtype.noPack, rok.plain t k h]

theorem run_toType (t : Nat) : (ReflectliteType.toType t).run P w = .ok (.iface R.rt (.agg #[typeHandle P t])) w := by
  simp only [ReflectliteType.toType, Sem.run_bind, rok.rt, Result.andThen_ok, run_handle, Sem.run_pure]

omit rok in
theorem one_arg {x : AVal} {args' : Array Value} (h : relL ρ [x] args'.toList) : ∃ x', args' = #[x'] ∧ x.rel ρ x' := by
  simp only [relL] at h
  obtain ⟨y, ys, e, hy, rfl⟩ := h
  exact ⟨y, by apply Array.ext'; simpa using e, hy⟩

omit rok in
theorem two_args {x y : AVal} {args' : Array Value} (h : relL ρ [x, y] args'.toList) : ∃ x' y', args' = #[x', y'] ∧ x.rel ρ x' ∧ y.rel ρ y' := by
  simp only [relL] at h
  obtain ⟨a, l, e, ha, b, l', rfl, hb, rfl⟩ := h
  exact ⟨a, b, by apply Array.ext'; simpa using e, ha, hb⟩

omit rok in
theorem agg_one {x : AVal} {v : Value} (h : (AVal.agg [x]).rel ρ v) : ∃ x', v = .agg #[x'] ∧ x.rel ρ x' := by
  simp only [AVal.rel] at h
  obtain ⟨a, rfl, h⟩ := h
  obtain ⟨x', e, hx⟩ := one_arg h
  exact ⟨x', by rw [e], hx⟩

omit rok in
theorem agg_val {h : AVal} {p : Nat × Nat} {f : Int} {v : Value} (hv : (AVal.agg [h, .ptr (some p), .int .u64 f]).rel ρ v) :
    ∃ h' l, v = .agg #[h', .pointer (some ⟨l.c, l.sh + p.2, none⟩), .int .u64 f] ∧ h.rel ρ h' ∧ ρ p.1 = some l := by
  simp only [AVal.rel] at hv
  obtain ⟨a, rfl, hv⟩ := hv
  simp only [relL, AVal.rel] at hv
  obtain ⟨y, ys, e, hy, z, zs, rfl, ⟨l, hl, rfl⟩, u, us, rfl, rfl, rfl⟩ := hv
  exact ⟨y, l, by congr 1; apply Array.ext'; simpa using e, hy, hl⟩

omit rok in
theorem flags_of {f : Int} {n : Nat} (h : flagsE f = some n) : f = Int.ofNat n ∧ n ≠ 0 := by
  unfold flagsE at h
  split at h
  · cases h
  · rename_i m hm
    injection h with h; subst h
    exact ⟨rfl, fun e => by subst e; exact hm rfl⟩
  · cases h

omit rok in
theorem run_partsAny {t n : Nat} (a : Addr) (hn : n ≠ 0) : (ReflectliteValue.partsAny (.agg #[typeHandle P t, .pointer (some a), .int .u64 (Int.ofNat n)])).run P w = .ok (some (t, a, n)) w := by
  cases n with
  | zero => exact absurd rfl hn
  | succ n =>
    show (do pure (some (← Rtype.ofHandle (typeHandle P t), a, (Int.ofNat (n + 1)).toNat)) : Sem _).run P w = _
    simp only [Sem.run_bind, run_ofHandle, Result.andThen_ok, Sem.run_pure]
    rfl

theorem run_parts {t k n : Nat} (a : Addr) (hn : n ≠ 0) (hk : lookN R.kinds t = some k) : (ReflectliteValue.parts (.agg #[typeHandle P t, .pointer (some a), .int .u64 (Int.ofNat n)])).run P w = .ok (some (t, a, n)) w := by
  simp only [ReflectliteValue.parts, Sem.run_bind, run_partsAny a hn, Result.andThen_ok, run_noPack rok _ hk, Sem.run_pure]

omit rok in
theorem ref_vType (v : Value) : refFn .vType #[v] = (do match ← ReflectliteValue.partsAny v with
    | none => ReflectliteValue.valueError "reflectlite.Value.Type" 0
    | some (t, _, _) => ReflectliteType.toType t) := rfl
omit rok in
theorem ref_isNil (v : Value) : refFn .isNil #[v] = (do match ← ReflectliteValue.parts v with
    | none => ReflectliteValue.valueError "reflectlite.Value.IsNil" 0
    | some (t, a, fl) => ReflectliteValue.isNil t a fl (fl % 32)) := rfl
omit rok in
theorem ref_vElem (v : Value) : refFn .vElem #[v] = (do match ← ReflectliteValue.parts v with
    | none => ReflectliteValue.valueError "reflectlite.Value.Elem" 0
    | some (t, a, fl) => ReflectliteValue.elem t a fl (fl % 32)) := rfl
omit rok in
theorem ref_kind (v : Value) : refFn .kind #[v] = (do
    let t ← Rtype.ofHandle v
    Rtype.noPack "a method of abi.Type" t
    pure (.int .u8 (← Rtype.kind t))) := rfl
omit rok in
theorem run_ofRtype (h : Value) : (ReflectliteType.ofRtype (.agg #[h])).run P w = (do
    let t ← Rtype.ofHandle h
    Rtype.noPack "a Type asked or handed on" t
    pure t : Sem _).run P w := rfl
theorem run_ofRtype2 {t k : Nat} (hk : lookN R.kinds t = some k) : (ReflectliteType.ofRtype (.agg #[typeHandle P t])).run P w = .ok t w := by
  rw [run_ofRtype]
  simp only [Sem.run_bind, run_ofHandle, Result.andThen_ok, run_noPack rok _ hk, Sem.run_pure]
omit rok in
theorem ref_rElem (v : Value) : refFn .rElem #[v] = (do ReflectliteType.elem (← ReflectliteType.ofRtype v)) := rfl
omit rok in
theorem ref_implements (v u : Value) (rt : TypeId) : refFn .implements #[v, .iface rt u] = (do pure (.bool (← ReflectliteType.implements_ (← ReflectliteType.ofRtype u) (← ReflectliteType.ofRtype v)))) := rfl
omit rok in
theorem ref_assignable (v u : Value) (rt : TypeId) : refFn .assignable #[v, .iface rt u] = (do pure (.bool (← ReflectliteType.assignableTo (← ReflectliteType.ofRtype u) (← ReflectliteType.ofRtype v)))) := rfl

include ok

omit ok rok in
theorem run_isNil {t n : Nat} {a : Addr} {v : Value} (hn : n % 32 = 22) (hl : (loadVar t a).run P w = .ok v w) (b : Bool) (hv : (v = .pointer none ∧ b = true) ∨ ((∃ p, v = .pointer (some p)) ∧ b = false)) :
    (ReflectliteValue.isNil t a n (n % 32)).run P w = .ok (.bool b) w := by
  rw [hn]
  have hc : ([18, 19, 20, 21, 22, 23, 26] : List Nat).contains 22 = true := by decide
  simp only [ReflectliteValue.isNil, hc, Bool.not_true, Bool.false_eq_true, if_false, Sem.run_bind, Result.andThen_ok, hl]
  rcases hv with ⟨rfl, rfl⟩ | ⟨⟨p, rfl⟩, rfl⟩ <;> rfl

theorem ref_sound {r : RefOp} {M M' : Mem} {args : List AVal} {args' : Array Value} {v : AVal} (hr : Rel E ρ M w) (hf : Free ρ M M') (ha : relL ρ args args'.toList) (h : refRun E R r M args = some (v, M')) :
    ∃ v' ρ' w', (refFn r args').run P w = .ok v' w' ∧ v.rel ρ' v' ∧ Trans E ρ M w ρ' M' w' := by
  have hg := hr.glob
  have hl := LookRel.of_rel hr
  unfold refRun at h
  split at h
  · -- valueOf
    rename_i t x
    split at h
    · rename_i k hk
      simp only [Option.some.injEq, Prod.mk.injEq] at h
      obtain ⟨rfl, rfl⟩ := h
      obtain ⟨y, rfl, hy⟩ := one_arg ha
      simp only [AVal.rel] at hy
      obtain ⟨x', rfl, hx⟩ := hy
      have hn : ρ M.next = none := hf M.next (Nat.le_refl _) (by simp [Mem.add])
      have hle := Emb.with_le (l := ⟨w.heap.size, 0, 0, dv⟩) hn
      have htr := Trans.of_fresh (xe := 0) (ob := .cells x.cells t none false) (obj := .cells x'.cells t) (w' := { w with heap := w.heap.push (.cells x'.cells t) }) hr hf rfl rfl rfl rfl (AObj.rel_cells (relL_mono hle _ _ (rel_cells hx)))
      refine ⟨.agg #[typeHandle P t, .pointer (some ⟨w.heap.size, 0, none⟩), .int .u64 (Int.ofNat (k + 128 + 0))], _, _, ?_, ?_, htr⟩
      · show (ReflectliteValue.unpack (.iface t x')).run P w = _
        simp only [ReflectliteValue.unpack, newVar, newRow, Sem.run_bind, run_newObj, Result.andThen_ok, Sem.run_pure, ReflectliteValue.mk, run_handle, rok.kinds t k hk]
        rfl
      · simp only [AVal.rel]
        refine ⟨_, rfl, relL_cons.2 ⟨AVal.rel_mono hle _ _ (handle_rel rok hg t), relL_cons.2 ⟨?_, relL_cons.2 ⟨by simp [AVal.rel], relL_nil⟩⟩⟩⟩
        simp only [AVal.rel]
        exact ⟨⟨w.heap.size, 0, 0, dv⟩, by simp [Emb.with], rfl⟩
    · cases h
  · -- vType
    rename_i hh p f
    split at h
    · rename_i t n ht hn
      simp only [Option.some.injEq, Prod.mk.injEq] at h
      obtain ⟨rfl, rfl⟩ := h
      obtain ⟨y, rfl, hy⟩ := one_arg ha
      obtain ⟨h', l, rfl, hh', hp⟩ := agg_val hy
      obtain ⟨rfl, k, hk⟩ := handle_of rok hg ht hh'
      obtain ⟨rfl, hn0⟩ := flags_of hn
      refine ⟨.iface R.rt (.agg #[typeHandle P t]), ρ, w, ?_, ?_, Trans.refl hr⟩
      · simp only [ref_vType, Sem.run_bind, run_partsAny _ hn0, Result.andThen_ok, run_toType rok]
      · simp only [AVal.rel]
        exact ⟨_, rfl, _, rfl, relL_cons.2 ⟨handle_rel rok hg t, relL_nil⟩⟩
    · cases h
  · -- isNil
    rename_i hh p f
    split at h
    · rename_i t n ht hn
      have hb := (bif_some h).1
      replace h := (bif_some h).2
      have hb := of_beq hb
      obtain ⟨y, rfl, hy⟩ := one_arg ha
      obtain ⟨h', l, rfl, hh', hp⟩ := agg_val hy
      obtain ⟨rfl, k, hk⟩ := handle_of rok hg ht hh'
      obtain ⟨rfl, hn0⟩ := flags_of hn
      have hpr : (AVal.ptr (some p)).rel ρ (.pointer (some ⟨l.c, l.sh + p.2, none⟩)) := by simp only [AVal.rel]; exact ⟨l, hp, rfl⟩
      have run (b : Bool) (z : AVal) (hz : loadV E M.get t (.ptr (some p)) = some z) (hzb : ∀ z', z.rel ρ z' → (z' = .pointer none ∧ b = true) ∨ ((∃ p, z' = .pointer (some p)) ∧ b = false)) :
          ∃ v' ρ' w', (refFn .isNil #[.agg #[typeHandle P t, .pointer (some ⟨l.c, l.sh + p.2, none⟩), .int .u64 (Int.ofNat n)]]).run P w = .ok v' w' ∧ (AVal.bool b).rel ρ' v' ∧ Trans E ρ M w ρ' M w' := by
        obtain ⟨ad, z', e, h1, h2⟩ := loadV_sound ok hl hpr hz
        injection e with e; injection e with e
        subst e
        refine ⟨.bool b, ρ, w, ?_, by simp [AVal.rel], Trans.refl hr⟩
        simp only [ref_isNil, Sem.run_bind, run_parts rok _ hn0 hk, Result.andThen_ok]
        exact run_isNil hb h1 b (hzb z' h2)
      split at h
      · rename_i hz
        simp only [Option.some.injEq, Prod.mk.injEq] at h
        obtain ⟨rfl, rfl⟩ := h
        exact run true _ hz fun z' hz' => .inl ⟨by simpa [AVal.rel] using hz', rfl⟩
      · rename_i q hz
        simp only [Option.some.injEq, Prod.mk.injEq] at h
        obtain ⟨rfl, rfl⟩ := h
        refine run false _ hz fun z' hz' => .inr ⟨?_, rfl⟩
        simp only [AVal.rel] at hz'
        obtain ⟨l, _, rfl⟩ := hz'
        exact ⟨_, rfl⟩
      · cases h
    · cases h
  · -- vElem
    rename_i hh p f
    split at h
    · rename_i t n ht hn
      have hb := (bif_some h).1
      replace h := (bif_some h).2
      have hb := of_beq hb
      obtain ⟨y, rfl, hy⟩ := one_arg ha
      obtain ⟨h', l, rfl, hh', hp⟩ := agg_val hy
      obtain ⟨rfl, k, hk⟩ := handle_of rok hg ht hh'
      obtain ⟨rfl, hn0⟩ := flags_of hn
      have hpr : (AVal.ptr (some p)).rel ρ (.pointer (some ⟨l.c, l.sh + p.2, none⟩)) := by simp only [AVal.rel]; exact ⟨l, hp, rfl⟩
      split at h
      · rename_i q e hz he
        split at h
        · rename_i k2 hk2
          simp only [Option.some.injEq, Prod.mk.injEq] at h
          obtain ⟨rfl, rfl⟩ := h
          obtain ⟨ad, z', e1, h1, h2⟩ := loadV_sound ok hl hpr hz
          injection e1 with e1; injection e1 with e1
          subst e1
          have h2' := h2
          simp only [AVal.rel] at h2
          obtain ⟨lq, hq, rfl⟩ := h2
          refine ⟨.agg #[typeHandle P e, .pointer (some ⟨lq.c, lq.sh + q.2, none⟩), .int .u64 (Int.ofNat (k2 + 128 + 256))], ρ, w, ?_, ?_, Trans.refl hr⟩
          · simp only [ref_vElem, Sem.run_bind, run_parts rok _ hn0 hk, Result.andThen_ok, hb, ReflectliteValue.elem]
            have h22 : ((22 : Nat) != 20 && (22 : Nat) != 22) = false := rfl
            simp only [h22, Bool.false_eq_true, if_false, Sem.run_bind, Sem.run_pure, Result.andThen_ok, h1, rok.elems t e he, ReflectliteValue.mk, run_handle, rok.kinds e k2 hk2]
            rfl
          · simp only [AVal.rel]
            refine ⟨_, rfl, relL_cons.2 ⟨handle_rel rok hg e, relL_cons.2 ⟨h2', relL_cons.2 ⟨by simp [AVal.rel], relL_nil⟩⟩⟩⟩
        · cases h
      · cases h
    · cases h
  · -- vSet
    rename_i hh p f hh2 q f2
    obtain ⟨b, off⟩ := p
    split at h
    · rename_i t n t' n2 ht hn ht2 hn2
      have hb := (bif_some h).1
      replace h := (bif_some h).2
      simp only [Bool.and_eq_true] at hb
      have htt := of_beq hb.1
      have hfl := of_beq hb.2
      subst htt
      obtain ⟨y, z, rfl, hy, hz⟩ := two_args ha
      obtain ⟨h', l, rfl, hh', hp⟩ := agg_val hy
      obtain ⟨h2', l2, rfl, hh2', hp2⟩ := agg_val hz
      obtain ⟨rfl, k, hk⟩ := handle_of rok hg ht hh'
      obtain ⟨rfl, _⟩ := handle_of rok hg ht2 hh2'
      obtain ⟨rfl, hn0⟩ := flags_of hn
      obtain ⟨rfl, hn20⟩ := flags_of hn2
      have hpr : (AVal.ptr (some q)).rel ρ (.pointer (some ⟨l2.c, l2.sh + q.2, none⟩)) := by simp only [AVal.rel]; exact ⟨l2, hp2, rfl⟩
      split at h
      · rename_i u hu
        split at h
        · rename_i M₁ hst
          simp only [Option.some.injEq, Prod.mk.injEq] at h
          obtain ⟨rfl, rfl⟩ := h
          obtain ⟨ad, u', e1, h1, h2⟩ := loadV_sound ok hl hpr hu
          injection e1 with e1; injection e1 with e1
          subst e1
          unfold storeV at hst
          split at hst
          · rename_i b1 off1 sz he1 hsz
            injection he1 with he1; injection he1 with he1
            obtain ⟨rfl, rfl⟩ := Prod.mk.inj he1
            have hlb := (bif_some hst).1
            replace hst := (bif_some hst).2
            have hc := rel_cells h2
            have hlen := relL_length hc
            obtain ⟨w', h3, h4⟩ := putCells_sound (P := P) hr hst hp hc
            refine ⟨.tuple #[], ρ, w', ?_, by simp only [AVal.rel]; exact ⟨_, rfl, relL_nil⟩, h4⟩
            have hne : ¬ (u'.cells.size ≠ sz) := by
              have := of_beq hlb
              simp at hlen ⊢; omega
            have hda : (Rtype.directlyAssignable t t).run P w = .ok true w := by simp [Rtype.directlyAssignable]
            have hsv : (storeVar t ⟨l.c, l.sh + off, none⟩ u').run P w = .ok () w' := by
              simp only [storeVar, Sem.run_bind, run_size ok hsz, Result.andThen_ok, if_neg hne, h3]
            have hfa : n / ReflectliteValue.flagAddr % 2 = 1 := hfl
            have hfb : (n / ReflectliteValue.flagAddr % 2 == 0) = false := by rw [hfa]; rfl
            show (ReflectliteValue.parts (.agg #[typeHandle P t, .pointer (some ⟨l.c, l.sh + off, none⟩), .int .u64 (Int.ofNat n)]) >>= fun p => ReflectliteValue.parts (.agg #[typeHandle P t, .pointer (some ⟨l2.c, l2.sh + q.2, none⟩), .int .u64 (Int.ofNat n2)]) >>= fun q => _).run P w = _
            simp only [Sem.run_bind, run_parts rok _ hn0 hk, run_parts rok _ hn20 hk, Result.andThen_ok, hfb, Bool.false_eq_true, if_false, Sem.run_pure, h1, hda, if_true, hsv]
          · cases hst
        · cases h
      · cases h
    · cases h
  · -- typeOf
    rename_i t x
    split at h
    · simp only [Option.some.injEq, Prod.mk.injEq] at h
      obtain ⟨rfl, rfl⟩ := h
      obtain ⟨y, rfl, hy⟩ := one_arg ha
      simp only [AVal.rel] at hy
      obtain ⟨x', rfl, hx⟩ := hy
      refine ⟨.iface R.rt (.agg #[typeHandle P t]), ρ, w, run_toType rok t, ?_, Trans.refl hr⟩
      simp only [AVal.rel]
      exact ⟨_, rfl, _, rfl, relL_cons.2 ⟨handle_rel rok hg t, relL_nil⟩⟩
    · cases h
  · -- kind
    rename_i x
    split at h
    · rename_i t ht
      split at h
      · rename_i k hk
        simp only [Option.some.injEq, Prod.mk.injEq] at h
        obtain ⟨rfl, rfl⟩ := h
        obtain ⟨y, rfl, hy⟩ := one_arg ha
        obtain ⟨rfl, _⟩ := handle_of rok hg ht hy
        refine ⟨.int .u8 (Int.ofNat k), ρ, w, ?_, by simp [AVal.rel], Trans.refl hr⟩
        simp only [ref_kind, Sem.run_bind, run_ofHandle, Result.andThen_ok, run_noPack rok _ hk, rok.kinds t k hk, Sem.run_pure]
        rfl
      · cases h
    · cases h
  · -- rElem
    rename_i x
    split at h
    · rename_i t ht
      split at h
      · rename_i e he
        simp only [Option.some.injEq, Prod.mk.injEq] at h
        obtain ⟨rfl, rfl⟩ := h
        obtain ⟨y, rfl, hy⟩ := one_arg ha
        obtain ⟨x', rfl, hx⟩ := agg_one hy
        obtain ⟨rfl, k, hk⟩ := handle_of rok hg ht hx
        refine ⟨.iface R.rt (.agg #[typeHandle P e]), ρ, w, ?_, ?_, Trans.refl hr⟩
        · simp only [ref_rElem, Sem.run_bind, run_ofRtype2 rok hk, Result.andThen_ok, ReflectliteType.elem, rok.elems t e he, run_toType rok]
        · simp only [AVal.rel]
          exact ⟨_, rfl, _, rfl, relL_cons.2 ⟨handle_rel rok hg e, relL_nil⟩⟩
      · cases h
    · cases h
  · -- implements
    rename_i x rt' y
    split at h
    · rename_i t u ht hu
      have hb := (bif_some h).1
      replace h := (bif_some h).2
      simp only [Option.some.injEq, Prod.mk.injEq] at h
      obtain ⟨rfl, rfl⟩ := h
      obtain ⟨a, b, rfl, h1, h2⟩ := two_args ha
      obtain ⟨x', rfl, hx⟩ := agg_one h1
      simp only [AVal.rel] at h2
      obtain ⟨b', rfl, h2⟩ := h2
      obtain ⟨y', rfl, hy⟩ := agg_one (x := y) (by simp only [AVal.rel]; exact h2)
      obtain ⟨rfl, k, hk⟩ := handle_of rok hg ht hx
      obtain ⟨rfl, k2, hk2⟩ := handle_of rok hg hu hy
      refine ⟨.bool true, ρ, w, ?_, by simp [AVal.rel], Trans.refl hr⟩
      simp only [ref_implements, Sem.run_bind, run_ofRtype2 rok hk, run_ofRtype2 rok hk2, Result.andThen_ok, Sem.run_pure, rok.impls u t hb]
    · cases h
  · -- assignable
    rename_i x rt' y
    split at h
    · rename_i t u ht hu
      have hb := (bif_some h).1
      replace h := (bif_some h).2
      simp only [Bool.and_eq_true] at hb
      obtain ⟨e, he⟩ := Option.isSome_iff_exists.1 hb.2
      have hb := of_beq hb.1
      subst hb
      simp only [Option.some.injEq, Prod.mk.injEq] at h
      obtain ⟨rfl, rfl⟩ := h
      obtain ⟨a, b, rfl, h1, h2⟩ := two_args ha
      obtain ⟨x', rfl, hx⟩ := agg_one h1
      simp only [AVal.rel] at h2
      obtain ⟨b', rfl, h2⟩ := h2
      obtain ⟨y', rfl, hy⟩ := agg_one (x := y) (by simp only [AVal.rel]; exact h2)
      obtain ⟨rfl, k, hk⟩ := handle_of rok hg ht hx
      obtain ⟨rfl, _⟩ := handle_of rok hg hu hy
      refine ⟨.bool true, ρ, w, ?_, by simp [AVal.rel], Trans.refl hr⟩
      have hda : (Rtype.directlyAssignable t t).run P w = .ok true w := by simp [Rtype.directlyAssignable]
      simp only [ref_assignable, Sem.run_bind, run_ofRtype2 rok hk, Result.andThen_ok, Sem.run_pure, ReflectliteType.assignableTo, bne_self_eq_false, Bool.false_eq_true, if_false, hda, rok.same t e he, Bool.true_or]
    · cases h
  · cases h

end
end Go.Ev
