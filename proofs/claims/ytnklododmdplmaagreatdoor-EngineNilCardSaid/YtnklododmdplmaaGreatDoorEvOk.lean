/- A part of the proof that an evaluator of the machine's code is sound (EvOk). No conditions. -/
import Derived.Test.YtnklododmdplmaaGreatDoorEvReg4
import Derived.Laws.Cells
import Derived.Laws.Append
import GoSem.Extern.ReflectliteValue
namespace Go.Ev
open Go.Extern

/-- what a row of the table of functions without a body says -/
def ExtOk (P : Program) (f : Nat) (x : Ext) : Prop :=
  ∀ (ρ : Emb) (args : List AVal) (args' : Array Value) (w : World) (v : AVal), relL ρ args args'.toList → extRun x args = some v → ∃ v', (callFunc f args').run P w = .ok (.value v') w ∧ v.rel ρ v'

/-- the model's own -/
def refFn : RefOp → Array Value → Sem Value
  | .valueOf => fun args => ReflectliteValue.unpack (args.getD 0 (.tuple #[]))
  | .vType => ReflectliteValue.methodAny (ReflectliteValue.valueError "reflectlite.Value.Type" 0) fun t _ _ _ => ReflectliteType.toType t
  | .isNil => ReflectliteValue.method (ReflectliteValue.valueError "reflectlite.Value.IsNil" 0) ReflectliteValue.isNil
  | .vElem => ReflectliteValue.method (ReflectliteValue.valueError "reflectlite.Value.Elem" 0) ReflectliteValue.elem
  | .vSet => ReflectliteValue.set
  | .typeOf => ReflectliteType.typeOf
  | .kind => ReflectliteType.abiMethod fun t => do pure (.int .u8 (← Rtype.kind t))
  | .rElem => ReflectliteType.method ReflectliteType.elem
  | .implements => ReflectliteType.relation "Implements" ReflectliteType.implements_
  | .assignable => ReflectliteType.relation "AssignableTo" ReflectliteType.assignableTo

structure RefOk (E : Env) (P : Program) (R : RefT) : Prop where
  g : R.g = P.globals.size
  lt : R.g < E.ng
  rt : ∀ w, (cutType "internal/reflectlite.rtype").run P w = .ok R.rt w
  kinds : ∀ t k, lookN R.kinds t = some k → ∀ w, (Rtype.kind t).run P w = .ok k w
  plain : ∀ t k, lookN R.kinds t = some k → P.packed t = false
  elems : ∀ t e, lookN R.elems t = some e → ∀ w, (Rtype.elem? t).run P w = .ok (some e) w
  same : ∀ t e, lookN R.elems t = some e → ∀ w, (Rtype.implements t t).run P w = .ok false w
  impls : ∀ u t, hasN R.impls u t = true → ∀ w, (ReflectliteType.implements_ u t).run P w = .ok true w

structure EnvOk (E : Env) (P : Program) : Prop where
  mixed : P.follows .mixedOrders = true
  info : ∀ t i, E.info t = some i → P.info? t = some i
  fn : ∀ f fn, E.fn f = some fn → P.funcs[f]? = some fn ∧ fn.body.isSome = true ∧ (fn.name == "runtime.NumGoroutine") = false
  ext : ∀ f x, E.ext f = some x → ExtOk P f x
  eqOK : ∀ t, E.eqOK t = true → P.eqGuardType P.depth t = false ∧ P.stoodInHeld t = false
  quiet : ∀ g, E.quiet g = true → ∀ (args : Array Value) (w : World), CallsD P g args .returning w fun e u' w' => (∃ v, e = .returned v) ∧ u' = .returning ∧ w' = w
  ref : ∀ f r, E.ref f = some r → ∀ (args : Array Value) (w w' : World) (v : Value), (refFn r args).run P w = .ok v w' → (callFunc f args).run P w = .ok (.value v) w'
  rok : ∀ f r, E.ref f = some r → RefOk E P E.rft

section
variable {E : Env} {P : Program} (ok : EnvOk E P) {w : World}
include ok

theorem under_eq {t : Nat} {d : TypeDesc} (h : E.under t = some d) : P.underlying t = some d := by
  unfold Env.under at h
  cases hi : E.info t with
  | none => simp [hi] at h
  | some i =>
    simp only [hi] at h
    have h1 := ok.info t i hi
    unfold Program.underlying
    rw [h1]
    cases hd : i.desc with
    | named n u =>
      simp only [hd] at h
      obtain ⟨desc, _, _, _, _, _, _, _, _, _⟩ := i
      simp only at hd
      subst hd
      simp only
      cases hu : E.info u with
      | none => simp [hu] at h
      | some j => simp [hu] at h; rw [ok.info u j hu]; simp [h]
    | _ =>
      simp only [hd, Option.some.injEq] at h
      obtain ⟨desc, _, _, _, _, _, _, _, _, _⟩ := i
      simp only at hd
      subst hd
      simp [h]

theorem run_under {t : Nat} {d : TypeDesc} (h : E.under t = some d) : (underlying t).run P w = .ok d w := by
  simp [underlying, under_eq ok h]

theorem run_info {t : Nat} {i : TypeInfo} (h : E.info t = some i) : (typeInfo t).run P w = .ok i w := by
  simp [typeInfo, ok.info t i h]

theorem run_size {t n : Nat} (h : E.size t = some n) : (sizeOf t).run P w = .ok n w := by
  unfold Env.size at h
  rw [Option.map_eq_some_iff] at h
  obtain ⟨i, hi, rfl⟩ := h
  simp [sizeOf, run_info ok hi]

theorem run_zero {t : Nat} {z : AVal} (h : E.zero t = some z) : ∃ z', (zeroValue t).run P w = .ok z' w ∧ ∀ ρ, z.rel ρ z' := by
  unfold Env.zero at h
  cases hi : E.info t with
  | none => simp [hi] at h
  | some i =>
    simp only [hi] at h
    cases hz : i.zero with
    | none => simp [hz] at h
    | some v =>
      simp only [hz] at h
      exact ⟨v, by simp [zeroValue, run_info ok hi, hz], fun ρ => ofVal_rel 3 v z h⟩

theorem run_isAgg {t : Nat} {d : TypeDesc} (h : E.under t = some d) : (isAgg t).run P w = .ok (isAggD d) w := by
  unfold isAgg
  simp only [Sem.run_bind, run_under ok h, Result.andThen_ok]
  cases d <;> rfl

end

theorem rel_cells {ρ : Emb} {x : AVal} {v : Value} (h : x.rel ρ v) : relL ρ x.cells v.cells.toList := by
  cases x with
  | agg cs =>
    simp only [AVal.rel] at h
    obtain ⟨y, rfl, h⟩ := h
    exact h
  | _ =>
    have hne : ∀ cs, v ≠ .agg cs := by
      rintro cs rfl
      revert h
      first
        | (simp [AVal.rel]; done)
        | (simp only [AVal.rel]; rintro ⟨_, _, _, h⟩; simp [okOpq] at h; done)
        | (rename_i p; cases p <;> simp [AVal.rel]; done)
        | (rename_i p _ _ _; cases p <;> simp [AVal.rel]; done)
    have : v.cells = #[v] := by
      cases v <;> first | rfl | exact absurd rfl (hne _)
    rw [this]
    simp only [AVal.cells]
    exact relL_cons.2 ⟨h, relL_nil⟩

theorem addr_add_off (c o n : Nat) : Addr.add ⟨c, o, none⟩ n = ⟨c, o + n, none⟩ := by
  unfold Addr.add
  split
  · rename_i h; subst h; rfl
  · rfl

/-- cells that are read -/
theorem cells_read {ρ : Emb} {g : Nat → Option AObj} {w : World} (hl : LookRel ρ g w) {b off n : Nat} {cs : List AVal} {l : Loc} (h : getCells g b off n = some cs) (hρ : ρ b = some l) :
    ∃ vs : List Value, vs.length = n ∧ cs.length = n ∧ relL ρ cs vs ∧ ∀ j v, vs[j]? = some v → w.cell? (Addr.add ⟨l.c, l.sh + off, none⟩ j) = some v := by
  unfold getCells at h
  cases hg : g b with
  | none => simp [hg] at h
  | some ob =>
    cases ob with
    | cells c e opn ro =>
      simp only [hg] at h
      cases hb : Nat.ble (off + n) c.length with
      | false => simp [hb] at h
      | true =>
        simp only [hb, cond_true, Option.some.injEq] at h
        subst h
        have hle := of_ble hb
        obtain ⟨o, ho, c', fr, rfl, hs, hc, _, _⟩ := hl b _ l hg hρ
        refine ⟨(c'.toList.drop (l.sh + off)).take n, by simp; omega, by simp; omega, relL_of_get (by simp; omega) fun i x hx => ?_, fun j v hv => ?_⟩
        · have hi : i < n := by
            have := (List.getElem?_eq_some_iff.1 hx).1
            simp at this; omega
          rw [List.getElem?_take_of_lt hi, List.getElem?_drop] at hx
          obtain ⟨y, hy, hr⟩ := hc _ x hx
          refine ⟨y, ?_, hr⟩
          rw [List.getElem?_take_of_lt hi, List.getElem?_drop, ← Nat.add_assoc] at *
          simpa using hy
        · have hj : j < n := by
            have := (List.getElem?_eq_some_iff.1 hv).1
            simp at this; omega
          rw [List.getElem?_take_of_lt hj, List.getElem?_drop] at hv
          rw [addr_add_off]
          unfold World.cell?
          simp only [ho]
          simpa using hv
    | map es k => simp [hg] at h
    | strIter s p => simp [hg] at h

theorem relL_toArray {ρ : Emb} {xs : List AVal} {vs : List Value} (h : relL ρ xs vs) : relL ρ xs vs.toArray.toList := by simpa using h

section
variable {E : Env} {P : Program} (ok : EnvOk E P) {w : World}
include ok

theorem loadV_sound {ρ : Emb} {g : Nat → Option AObj} (hl : LookRel ρ g w) {t : Nat} {x v : AVal} {x' : Value} (hx : x.rel ρ x') (h : loadV E g t x = some v) :
    ∃ a v', x' = .pointer (some a) ∧ (loadVar t a).run P w = .ok v' w ∧ v.rel ρ v' := by
  unfold loadV at h
  cases x with
  | ptr p =>
    cases p with
    | none => simp at h
    | some q =>
      obtain ⟨b, off⟩ := q
      simp only at h
      simp only [AVal.rel] at hx
      obtain ⟨l, hρ, rfl⟩ := hx
      cases hd : E.under t with
      | none => simp [hd] at h
      | some d =>
        cases hn : E.size t with
        | none => simp [hd, hn] at h
        | some n =>
          simp only [hd, hn] at h
          refine ⟨⟨l.c, l.sh + off, none⟩, ?_⟩
          unfold loadVar
          simp only [Sem.run_bind, run_isAgg ok hd, Result.andThen_ok]
          cases ha : isAggD d with
          | true =>
            simp only [ha, cond_true, Option.map_eq_some_iff] at h
            obtain ⟨cs, hcs, rfl⟩ := h
            obtain ⟨vs, hv1, _, hv2, hv3⟩ := cells_read hl hcs hρ
            refine ⟨.agg vs.toArray, trivial, ?_, ?_⟩
            · subst hv1
              simp only [if_true, Sem.run_bind, run_size ok hn, Result.andThen_ok, run_loadCells_list _ _ _ hv3, Sem.run_pure]
            · simp only [AVal.rel]
              exact ⟨_, rfl, relL_toArray hv2⟩
          | false =>
            simp only [ha, cond_false] at h
            cases hg : g b with
            | none => simp [hg] at h
            | some ob =>
              cases ob with
              | cells c e opn ro =>
                simp only [hg] at h
                obtain ⟨o, ho, c', fr, rfl, hs, hc, _, _⟩ := hl b _ l hg hρ
                obtain ⟨y, hy, hr⟩ := hc _ _ h
                refine ⟨y, trivial, ?_, hr⟩
                simp only [Bool.false_eq_true, if_false, run_load]
                have : w.cell? ⟨l.c, l.sh + off, none⟩ = some y := by
                  unfold World.cell?
                  simp only [ho]
                  simpa using hy
                rw [this]
              | map es k => simp [hg] at h
              | strIter s p => simp [hg] at h
  | _ => simp at h

end
end Go.Ev
