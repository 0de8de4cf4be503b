/- A part of the proof that an evaluator of the machine's code is sound (EvEng). No conditions. -/
import Derived.Test.YtnklododmdplmaaGreatDoorEvSeq
import Derived.Recover
namespace Go.Ev

/-- a deferred function that recovers, and does no more where nothing panics -/
theorem quiet_of_shape {E : Env} {P : Program} (ok : EnvOk E P) {f : FuncId} {fn : Func} {i0 i1 : Nat} {o0 o1 o2 o3 : Oper} {a b c d T ty : Nat} {x : Code} {cl : Call} {ms : Array (String × TypeId)}
    (hf : P.funcs[f]? = some fn) (hb : fn.body = some (.seq (.region i0 #[o0, o1] false) (.seq (.region i1 #[o2, o3] false) (.cond (.tmp d) x .skip))))
    (h0 : o0.op = .call cl) (hcl : cl.callee = .builtin .recover) (hca : cl.args = #[]) (d0 : o0.dst = some a) (g0 : o0.guard = none)
    (h1 : o1.op = .assign (.tmp a)) (d1 : o1.dst = some b) (g1 : o1.guard = none)
    (h2 : o2.op = .move (.tmp b)) (d2 : o2.dst = some c) (g2 : o2.guard = none)
    (h3 : o3.op = .binOp .neq T (.tmp c) (.const .nilIface) ty) (d3 : o3.dst = some d) (g3 : o3.guard = none)
    (hT : E.under T = some (.interface ms)) (hres : fn.results = #[]) (ha : a < fn.ntmps) (hbn : b < fn.ntmps) (hc : c < fn.ntmps) (hd : d < fn.ntmps)
    (args : Array Value) (w : World) : CallsD P f args .returning w fun e u' w' => (∃ v, e = .returned v) ∧ u' = .returning ∧ w' = w := by
  refine callsD_of_wpS hf hb fun c₀ cs hu => ?_
  have hsz : fn.ntmps ≤ (args ++ Array.replicate (fn.ntmps - args.size) undef).size := by simp; omega
  generalize args ++ Array.replicate (fn.ntmps - args.size) undef = t0 at hsz
  have run0 (A : Act) : (execOp A.eval o0).run P w = .ok .recover w := by
    unfold execOp
    rw [h0]
    simp only [resolve, hcl, hca, Sem.run_bind, Sem.run_pure, Result.andThen_ok, invoke]
    rfl
  have hrec : recoverD (c₀ :: cs) = none := by
    simp [recoverD, hu]
  have want {o : Oper} (h : o.guard = none) (y : Nat → Option Bool) : Region.wanted o y = true := by
    unfold Region.wanted
    rw [h]
  have put_get (t : Array Value) (i : Nat) (v : Value) (hi : i < t.size) : ({ tmps := t.setIfInBounds i v, defers := [] } : Act).eval (.tmp i) = v := by
    simp [Act.eval, hi]
  apply wpS_seq
  apply wpS_region
  have e1 : (#[o0, o1] : Array Oper).size = 2 := rfl
  rw [e1]
  show wpOpsS P #[o0, o1] _ [0, 1] _ _ _
  simp only [wpOpsS]
  rw [show (#[o0, o1] : Array Oper)[0]? = some o0 from rfl]
  simp only [want g0, if_true, run0, hrec, d0, Act.put]
  rw [show (#[o0, o1] : Array Oper)[1]? = some o1 from rfl]
  simp only [want g1, if_true]
  have run1 (A : Act) (hA : A.eval (.tmp a) = .nilIface) : (execOp A.eval o1).run P w = .ok (.value .nilIface) w := by
    unfold execOp
    rw [h1]
    simp only [hA, Sem.run_pure]
  rw [run1 _ (put_get _ _ _ (by omega))]
  simp only [Oper.upon, d1, Act.put, Exit.thenS]
  apply wpS_seq
  apply wpS_region
  have e2 : (#[o2, o3] : Array Oper).size = 2 := rfl
  rw [e2]
  show wpOpsS P #[o2, o3] _ [0, 1] _ _ _
  simp only [wpOpsS]
  rw [show (#[o2, o3] : Array Oper)[0]? = some o2 from rfl]
  simp only [want g2, if_true]
  have run2 (A : Act) (hA : A.eval (.tmp b) = .nilIface) : (execOp A.eval o2).run P w = .ok (.value .nilIface) w := by
    unfold execOp
    rw [h2]
    simp only [hA, Sem.run_pure]
  rw [run2 _ (put_get _ _ _ (by simp; omega))]
  simp only [Oper.upon, d2, Act.put]
  rw [show (#[o2, o3] : Array Oper)[1]? = some o3 from rfl]
  simp only [want g3, if_true]
  have run3 (A : Act) (hA : A.eval (.tmp c) = .nilIface) : (execOp A.eval o3).run P w = .ok (.value (.bool false)) w := by
    unfold execOp
    rw [h3]
    have hk : A.eval (.const .nilIface) = .nilIface := rfl
    have hbin : bin E .neq T (isConst (.tmp c)) (isConst (.const .nilIface)) .nilIface .nilIface = some (.bool false) := by
      simp [bin, guardOK, isConst, eqv, hT]
    obtain ⟨v', h4, h5⟩ := bin_sound (w := w) (ρ := fun _ => none) ok (x := .tmp c) (y := .const .nilIface) (a' := .nilIface) (b' := .nilIface) (by simp [AVal.rel]) (by simp [AVal.rel]) hbin
    simp only [AVal.rel] at h5
    subst h5
    simp only [hA, hk, Sem.run_bind, Sem.run_pure]
    simp only [Sem.run_bind] at h4
    rw [h4]
    rfl
  rw [run3 _ (put_get _ _ _ (by simp; omega))]
  simp only [d3, Exit.thenS]
  refine wpS_cond (t := false) (put_get _ _ _ (by simp; omega)) ?_
  simp only [Bool.false_eq_true, if_false]
  refine wpS_of_wp (wp_skip ?_)
  refine ⟨rfl, .returning, ?_, .tuple #[], ?_, ⟨_, rfl⟩, rfl, rfl⟩
  · rw [← hu]
  · simp [Go.results, hres]

theorem lookN_mem : ∀ {l : List (Nat × Nat)} {t k : Nat}, lookN l t = some k → (t, k) ∈ l
  | [], t, k, h => by simp [lookN] at h
  | p :: r, t, k, h => by
    simp only [lookN] at h
    cases hb : Nat.beq p.1 t with
    | true =>
      simp only [hb, cond_true, Option.some.injEq] at h
      have := of_beq hb
      subst this; subst h
      exact List.mem_cons_self ..
    | false =>
      simp only [hb, cond_false] at h
      exact List.mem_cons_of_mem _ (lookN_mem h)

theorem hasN_mem : ∀ {l : List (Nat × Nat)} {a b : Nat}, hasN l a b = true → (a, b) ∈ l
  | [], a, b, h => by simp [hasN] at h
  | p :: r, a, b, h => by
    simp only [hasN, Bool.or_eq_true, Bool.and_eq_true] at h
    rcases h with ⟨h1, h2⟩ | h
    · have e1 := of_beq h1
      have e2 := of_beq h2
      subst e1; subst e2
      exact List.mem_cons_self ..
    · exact List.mem_cons_of_mem _ (hasN_mem h)

/-- a function of the library that is the model's own -/
theorem ref_row {P : Program} {f : Nat} {fn : Func} {r : RefOp} (hf : P.funcs[f]? = some fn) (hname : (fn.name == "runtime.NumGoroutine") = false)
    (hb : fn.body.isNone = true) (hn : Extern.findNext fn = none) (he : Extern.find fn = some (refFn r)) (args : Array Value) (w w' : World) (v : Value) (h : (refFn r args).run P w = .ok v w') :
    (callFunc f args).run P w = .ok (.value v) w' := by
  rw [run_callFunc_extern hf hname hb hn he, h]
  rfl

end Go.Ev
