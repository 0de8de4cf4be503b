/- A part of the proof that an evaluator of the machine's code is sound (EvCode). No conditions. -/
import Derived.Test.YtnklododmdplmaaGreatDoorEvCall
namespace Go.Ev

def Ex.to : Ex → Exit
  | .normal => .normal
  | .exit id => .exit id
  | .goto l => .goto l
  | .ret => .ret

section
variable {E : Env} {P : Program} {call : CallF}

theorem region_grow (S : Sound E P call) {ops : Array Oper} {d : Bool} {F F' : Fr} {M M' : Mem} (h : region E call ops d F M = some (F', M')) : Grow M M' := by
  unfold region at h
  cases d with
  | false =>
    simp only [cond_false] at h
    cases hd : hasDefer ops.toList with
    | true => rw [hd, cond_true] at h; exact grow_runOpsD S _ _ _ _ _ h
    | false => rw [hd, cond_false] at h; exact grow_runOps S _ _ _ _ _ h
  | true =>
    have hrun : runOps E call ops.toList ops.toList F M = some (F', M') := by
      simp only [cond_true] at h
      split at h
      · exact h
      · split at h
        · rename_i rs F₁ M₁ hrr
          have h := (bif_some h).2
          simp only [Option.some.injEq, Prod.mk.injEq] at h
          obtain ⟨rfl, rfl⟩ := h
          exact runOps_of_runRecs _ _ _ _ _ _ hrr
        · cases h
      · cases h
    exact grow_runOps S _ _ _ _ _ hrun

def CodeOk (E : Env) (P : Program) (call : CallF) (n : Nat) (c : Code) : Prop :=
  ∀ F M ex F' M', code E n call c F M = some (ex, F', M') → Grow M M' ∧
    ∀ ρ a w, Rel E ρ M w → FrRel ρ F a → Free ρ M M' → ∀ Q : Exit → Act → World → Prop,
      (∀ ρ' a' w', FrRel ρ' F' a' → Qu P a a' → Trans E ρ M w ρ' M' w' → Q ex.to a' w') → c.wp P Q a w

theorem iter_ok {n : Nat} {b : Code} (hb : CodeOk E P call n b) : ∀ (k : Nat) (F : Fr) (M : Mem) (ex : Ex) (F' : Fr) (M' : Mem), iter (code E n call b) k F M = some (ex, F', M') → Grow M M' ∧
    ∀ ρ a w, Rel E ρ M w → FrRel ρ F a → Free ρ M M' → ∀ Q : Exit → Act → World → Prop,
      (∀ ρ' a' w', FrRel ρ' F' a' → Qu P a a' → Trans E ρ M w ρ' M' w' → Q ex.to a' w') → Code.rounds P b Q k a w
  | 0, F, M, ex, F', M', h => by simp [iter] at h
  | k + 1, F, M, ex, F', M', h => by
    simp only [iter] at h
    split at h
    · rename_i F₁ M₁ h1
      obtain ⟨g1, w1⟩ := hb _ _ _ _ _ h1
      obtain ⟨g2, w2⟩ := iter_ok hb k F₁ M₁ ex F' M' h
      refine ⟨g1.trans g2, fun ρ a w hr hF hf Q hQ => ?_⟩
      rw [rounds_succ]
      refine w1 ρ a w hr hF (hf.left g2.nxt) _ fun ρ₁ a₁ w₁ hF₁ hd₁ ht₁ => ?_
      show Code.rounds P b Q k a₁ w₁
      exact w2 ρ₁ a₁ w₁ ht₁.rel hF₁ (hf.right ht₁) Q fun ρ₂ a₂ w₂ hF₂ hd₂ ht₂ => hQ ρ₂ a₂ w₂ hF₂ (hd₁.trans hd₂) (ht₁.trans ht₂)
    · rename_i hne
      obtain ⟨g1, w1⟩ := hb _ _ _ _ _ h
      refine ⟨g1, fun ρ a w hr hF hf Q hQ => ?_⟩
      rw [rounds_succ]
      refine w1 ρ a w hr hF hf _ fun ρ₁ a₁ w₁ hF₁ hd₁ ht₁ => ?_
      cases ex with
      | normal => exact absurd h (hne _ _)
      | exit id => exact hQ ρ₁ a₁ w₁ hF₁ hd₁ ht₁
      | goto l => exact hQ ρ₁ a₁ w₁ hF₁ hd₁ ht₁
      | ret => exact hQ ρ₁ a₁ w₁ hF₁ hd₁ ht₁

theorem code_ok (S : Sound E P call) (n : Nat) : ∀ c : Code, CodeOk E P call n c := by
  intro c
  induction c with
  | skip =>
    intro F M ex F' M' h
    simp only [code, Option.some.injEq, Prod.mk.injEq] at h
    obtain ⟨rfl, rfl, rfl⟩ := h
    exact ⟨Grow.refl _, fun ρ a w hr hF _ Q hQ => wp_skip (hQ ρ a w hF (Qu.of_eq rfl) (Trans.refl hr))⟩
  | region id ops d =>
    intro F M ex F' M' h
    simp only [code] at h
    split at h
    · rename_i F₁ M₁ h1
      simp only [Option.some.injEq, Prod.mk.injEq] at h
      obtain ⟨rfl, rfl, rfl⟩ := h
      exact ⟨region_grow S h1, fun ρ a w hr hF hf Q hQ => region_wp S h1 hr hF hf hQ⟩
    · cases h
  | seq x y ihx ihy =>
    intro F M ex F' M' h
    simp only [code] at h
    split at h
    · rename_i F₁ M₁ h1
      obtain ⟨g1, w1⟩ := ihx _ _ _ _ _ h1
      obtain ⟨g2, w2⟩ := ihy _ _ _ _ _ h
      refine ⟨g1.trans g2, fun ρ a w hr hF hf Q hQ => wp_seq (w1 ρ a w hr hF (hf.left g2.nxt) _ fun ρ₁ a₁ w₁ hF₁ hd₁ ht₁ => ?_)⟩
      show y.wp P Q a₁ w₁
      exact w2 ρ₁ a₁ w₁ ht₁.rel hF₁ (hf.right ht₁) Q fun ρ₂ a₂ w₂ hF₂ hd₂ ht₂ => hQ ρ₂ a₂ w₂ hF₂ (hd₁.trans hd₂) (ht₁.trans ht₂)
    · rename_i hne
      obtain ⟨g1, w1⟩ := ihx _ _ _ _ _ h
      refine ⟨g1, fun ρ a w hr hF hf Q hQ => wp_seq (w1 ρ a w hr hF hf _ fun ρ₁ a₁ w₁ hF₁ hd₁ ht₁ => ?_)⟩
      cases ex with
      | normal => exact absurd h (hne _ _)
      | exit id => exact hQ ρ₁ a₁ w₁ hF₁ hd₁ ht₁
      | goto l => exact hQ ρ₁ a₁ w₁ hF₁ hd₁ ht₁
      | ret => exact hQ ρ₁ a₁ w₁ hF₁ hd₁ ht₁
  | cond o x y ihx ihy =>
    intro F M ex F' M' h
    simp only [code] at h
    split at h
    · rename_i t ho
      cases t with
      | true =>
        obtain ⟨g1, w1⟩ := ihx _ _ _ _ _ h
        exact ⟨g1, fun ρ a w hr hF hf Q hQ => wp_cond_true (by have := ev_rel hr.glob hF ho; rwa [rel_bool'] at this) (w1 ρ a w hr hF hf Q hQ)⟩
      | false =>
        obtain ⟨g1, w1⟩ := ihy _ _ _ _ _ h
        exact ⟨g1, fun ρ a w hr hF hf Q hQ => wp_cond_false (by have := ev_rel hr.glob hF ho; rwa [rel_bool'] at this) (w1 ρ a w hr hF hf Q hQ)⟩
    · cases h
  | block id b ih =>
    intro F M ex F' M' h
    simp only [code] at h
    split at h
    · rename_i i F₁ M₁ h1
      obtain ⟨g1, w1⟩ := ih _ _ _ _ _ h1
      generalize hq : Nat.beq i id = q at h
      cases q with
      | true =>
        have := of_beq hq
        subst this
        simp only [cond_true, Option.some.injEq, Prod.mk.injEq] at h
        obtain ⟨rfl, rfl, rfl⟩ := h
        refine ⟨g1, fun ρ a w hr hF hf Q hQ => wp_block (w1 ρ a w hr hF hf _ fun ρ₁ a₁ w₁ hF₁ hd₁ ht₁ => ?_)⟩
        simp only [Ex.to, Exit.inBlock, if_true]
        exact hQ ρ₁ a₁ w₁ hF₁ hd₁ ht₁
      | false =>
        have hne : i ≠ id := fun e => by subst e; simp at hq
        simp only [cond_false, Option.some.injEq, Prod.mk.injEq] at h
        obtain ⟨rfl, rfl, rfl⟩ := h
        refine ⟨g1, fun ρ a w hr hF hf Q hQ => wp_block (w1 ρ a w hr hF hf _ fun ρ₁ a₁ w₁ hF₁ hd₁ ht₁ => ?_)⟩
        simp only [Ex.to, Exit.inBlock, hne, if_false]
        exact hQ ρ₁ a₁ w₁ hF₁ hd₁ ht₁
    · rename_i hne
      obtain ⟨g1, w1⟩ := ih _ _ _ _ _ h
      refine ⟨g1, fun ρ a w hr hF hf Q hQ => wp_block (w1 ρ a w hr hF hf _ fun ρ₁ a₁ w₁ hF₁ hd₁ ht₁ => ?_)⟩
      cases ex with
      | normal => exact hQ ρ₁ a₁ w₁ hF₁ hd₁ ht₁
      | exit i => exact absurd h (hne _ _ _)
      | goto l => exact hQ ρ₁ a₁ w₁ hF₁ hd₁ ht₁
      | ret => exact hQ ρ₁ a₁ w₁ hF₁ hd₁ ht₁
  | loop b ih =>
    intro F M ex F' M' h
    simp only [code] at h
    obtain ⟨g1, w1⟩ := iter_ok ih n F M ex F' M' h
    exact ⟨g1, fun ρ a w hr hF hf Q hQ => wp_loop_rounds n (w1 ρ a w hr hF hf Q hQ)⟩
  | exit id =>
    intro F M ex F' M' h
    simp only [code, Option.some.injEq, Prod.mk.injEq] at h
    obtain ⟨rfl, rfl, rfl⟩ := h
    exact ⟨Grow.refl _, fun ρ a w hr hF _ Q hQ => wp_exit (hQ ρ a w hF (Qu.of_eq rfl) (Trans.refl hr))⟩
  | ret =>
    intro F M ex F' M' h
    simp only [code, Option.some.injEq, Prod.mk.injEq] at h
    obtain ⟨rfl, rfl, rfl⟩ := h
    exact ⟨Grow.refl _, fun ρ a w hr hF _ Q hQ => wp_ret (hQ ρ a w hF (Qu.of_eq rfl) (Trans.refl hr))⟩
  | label l =>
    intro F M ex F' M' h
    simp only [code, Option.some.injEq, Prod.mk.injEq] at h
    obtain ⟨rfl, rfl, rfl⟩ := h
    exact ⟨Grow.refl _, fun ρ a w hr hF _ Q hQ => wp_label (hQ ρ a w hF (Qu.of_eq rfl) (Trans.refl hr))⟩
  | goto l =>
    intro F M ex F' M' h
    simp only [code, Option.some.injEq, Prod.mk.injEq] at h
    obtain ⟨rfl, rfl, rfl⟩ := h
    exact ⟨Grow.refl _, fun ρ a w hr hF _ Q hQ => wp_goto (hQ ρ a w hF (Qu.of_eq rfl) (Trans.refl hr))⟩
  | rangeFunc f ps x y _ _ => intro F M ex F' M' h; simp [code] at h
  | scope b _ => intro F M ex F' M' h; simp [code] at h
  | refuse s => intro F M ex F' M' h; simp [code] at h

/-! calls -/

def res1 (tmps : Array Value) : ResultVar → Sem Value
  | .tmp t => pure (tmps.getD t Go.undef)
  | .cell a t => do loadVar t (← asAddr (tmps.getD a Go.undef))

theorem results_eq (fn : Func) (tmps : Array Value) : Go.results fn tmps = (do
    let vs ← fn.results.mapM (res1 tmps)
    pure (if h : vs.size = 1 then vs[0] else .tuple vs)) := by
  unfold Go.results
  have : (fun x => match x with
    | ResultVar.tmp t => (pure (tmps.getD t Go.undef) : Sem Value)
    | ResultVar.cell a t => do loadVar t (← asAddr (tmps.getD a Go.undef))) = res1 tmps := by
    funext x; cases x <;> rfl
  rw [← this]
  rfl

theorem relL_results (ok : EnvOk E P) {ρ : Emb} {M : Mem} {w : World} {F : Fr} {a : Act} (hr : Rel E ρ M w) (hF : FrRel ρ F a) : ∀ (l : List ResultVar) (vs : List AVal), optMap (results1 E F M) l = some vs →
    ∃ vs' : List Value, relL ρ vs vs' ∧ (l.mapM (res1 a.tmps)).run P w = .ok vs' w
  | [], vs, h => by
    simp only [optMap, Option.some.injEq] at h; subst h
    exact ⟨[], relL_nil, by simp⟩
  | x :: l, vs, h => by
    simp only [optMap] at h
    split at h
    · cases h
    · rename_i y hy
      split at h
      · cases h
      · rename_i ys hys
        simp only [Option.some.injEq] at h
        subst h
        obtain ⟨ys', h1, h2⟩ := relL_results ok hr hF l ys hys
        have hone : ∃ y' : Value, y.rel ρ y' ∧ (res1 a.tmps x).run P w = .ok y' w := by
          cases x with
          | tmp t =>
            simp only [results1, Option.some.injEq] at hy
            subst hy
            exact ⟨_, hF.get t, rfl⟩
          | cell c t =>
            simp only [results1] at hy
            obtain ⟨ad, v', h3, h4, h5⟩ := loadV_sound ok (LookRel.of_rel hr) (hF.get c) hy
            exact ⟨v', h5, by simp only [res1, h3, asAddr, Sem.run_bind, Sem.run_pure, Result.andThen_ok, h4]⟩
        obtain ⟨y', h3, h4⟩ := hone
        refine ⟨y' :: ys', relL_cons.2 ⟨h3, h1⟩, ?_⟩
        rw [List.mapM_cons]
        simp only [Sem.run_bind, h4, Result.andThen_ok, h2, Sem.run_pure]

theorem results_sound (ok : EnvOk E P) {ρ : Emb} {M : Mem} {w : World} {F : Fr} {a : Act} {fn : Func} {v : AVal} (hr : Rel E ρ M w) (hF : FrRel ρ F a) (h : Ev.results E F M fn.results.toList = some v) :
    ∃ v', (Go.results fn a.tmps).run P w = .ok v' w ∧ v.rel ρ v' := by
  have hmap {vs' : List Value} (h : (fn.results.toList.mapM (res1 a.tmps)).run P w = .ok vs' w) : (Go.results fn a.tmps).run P w = .ok (if h : vs'.toArray.size = 1 then vs'.toArray[0] else .tuple vs'.toArray) w := by
    rw [results_eq, Array.mapM_eq_mapM_toList]
    simp only [Sem.run_bind, Sem.run_map, h, Result.andThen_ok, Sem.run_pure]
  unfold Ev.results at h
  split at h
  · rename_i u hu
    injection h with h; subst h
    obtain ⟨vs', h1, h2⟩ := relL_results ok hr hF _ _ hu
    simp only [relL] at h1
    obtain ⟨y, ys, rfl, h3, rfl⟩ := h1
    exact ⟨y, hmap h2, h3⟩
  · rename_i us hne hu
    injection h with h; subst h
    obtain ⟨vs', h1, h2⟩ := relL_results ok hr hF _ _ hu
    refine ⟨.tuple vs'.toArray, ?_, ?_⟩
    · rw [hmap h2]
      have hn : ¬ vs'.toArray.size = 1 := by
        intro h1'
        have hl := relL_length h1
        simp only [List.size_toArray] at h1'
        obtain ⟨u, rfl⟩ := List.length_eq_one_iff.1 (hl.trans h1')
        exact hne u rfl
      rw [dif_neg hn]
    · simp only [AVal.rel]
      exact ⟨_, rfl, by simpa using h1⟩
  · cases h

/-- the first frame -/
theorem ofArgs_get : ∀ (args : List AVal) (i : Nat) (F : Fr) (j : Nat), (Fr.ofArgs args i F).n = F.n ∧ (Fr.ofArgs args i F).get j = if h : i ≤ j ∧ j < i + args.length then args[j - i] else F.get j
  | [], i, F, j => by
    refine ⟨rfl, ?_⟩
    rw [dif_neg (by simp only [List.length_nil]; omega)]; rfl
  | v :: vs, i, F, j => by
    obtain ⟨h1, h2⟩ := ofArgs_get vs (i + 1) ⟨F.t.set i (some v), F.n⟩ j
    refine ⟨h1, ?_⟩
    simp only [Fr.ofArgs]
    rw [h2]
    simp only [List.length_cons]
    by_cases hj : i + 1 ≤ j ∧ j < i + 1 + vs.length
    · rw [dif_pos hj, dif_pos (by omega)]
      have : j - i = (j - (i + 1)) + 1 := by omega
      simp [this]
    · rw [dif_neg hj]
      by_cases hi : j = i
      · subst hi
        rw [dif_pos (by omega)]
        simp [Fr.get, Trie.get_set]
      · rw [dif_neg (by omega)]
        simp [Fr.get, Trie.get_set, hi]

theorem enter_rel {ρ : Emb} {fn : Func} {args : List AVal} {args' : Array Value} (h : relL ρ args args'.toList) : FrRel ρ (enter fn args) { tmps := args' ++ Array.replicate (fn.ntmps - args'.size) Go.undef, defers := [] } := by
  have hl : args.length = args'.size := by simpa using relL_length h
  refine ⟨?_, fun j => ?_⟩
  · unfold enter
    rw [(ofArgs_get args 0 _ 0).1]
    simp [hl]
  · unfold enter
    rw [(ofArgs_get args 0 _ j).2]
    by_cases hj : 0 ≤ j ∧ j < 0 + args.length
    · rw [dif_pos hj]
      have hj2 : j < args.length := by omega
      obtain ⟨v, hv, hr⟩ := relL_get h j args[j] (by simp [hj2])
      have hj3 : j < args'.size := by omega
      have hv' : args'[j]? = some v := by simpa using hv
      have : (args' ++ Array.replicate (fn.ntmps - args'.size) Go.undef).getD j Go.undef = v := by
        rw [Array.getD_eq_getD_getElem?, Array.getElem?_append_left hj3, hv']; rfl
      simp only [Nat.sub_zero]
      rw [this]; exact hr
    · rw [dif_neg hj]
      have : (args' ++ Array.replicate (fn.ntmps - args'.size) Go.undef).getD j Go.undef = Go.undef := by
        rw [Array.getD_eq_getD_getElem?, Array.getElem?_append_right (by omega), Array.getElem?_replicate]
        split <;> rfl
      rw [this]
      simp only [Fr.get, Trie.get_nil]
      exact undef_rel

/-- Calls that the evaluator takes. -/
theorem callE_ok (ok : EnvOk E P) (N : Nat) : ∀ n, CallOk E P (callE E N n)
  | 0 => fun f args M v M' h => by simp [callE] at h
  | n + 1 => fun f args M v M' h => by
    have S := sound_of ok (callE_ok ok N n)
    simp only [callE] at h
    split at h
    · rename_i fn hfn
      obtain ⟨h1, h2, h3⟩ := ok.fn f fn hfn
      split at h
      · rename_i c hc
        have key (ex : Ex) (F' : Fr) (M₁ : Mem) (hex : ex = .normal ∨ ex = .ret) (hcode : code E N (callE E N n) c (enter fn args) M = some (ex, F', M₁)) (hres : (match Ev.results E F' M₁ fn.results.toList with
            | some v => some (v, M₁)
            | none => none) = some (v, M')) : Grow M M' ∧ ∀ ρ w (args' : Array Value), Rel E ρ M w → relL ρ args args'.toList → Free ρ M M' →
              Calls P f args' w fun e w' => ∃ v' ρ', e = .returned v' ∧ v.rel ρ' v' ∧ Trans E ρ M w ρ' M' w' := by
          split at hres
          · rename_i u hu
            simp only [Option.some.injEq, Prod.mk.injEq] at hres
            obtain ⟨rfl, rfl⟩ := hres
            obtain ⟨g, wpc⟩ := code_ok S N c _ _ _ _ _ hcode
            refine ⟨g, fun ρ w args' hr ha hf => calls_of_wp_defers h1 hc (wpc ρ _ w hr (enter_rel ha) hf _ fun ρ' a' w' hF' hd ht => ?_)⟩
            obtain ⟨v', h4, h5⟩ := results_sound ok ht.rel hF' hu
            have hR : Leaves P fn a'.tmps (fun e w' => ∃ v' ρ', e = .returned v' ∧ u.rel ρ' v' ∧ Trans E ρ M w ρ' M₁ w') a'.defers .returning w' :=
              leaves_quiet ⟨v', h4, v', ρ', rfl, h5, ht⟩ _ (hd fun d hd => by cases hd)
            rcases hex with rfl | rfl
            · exact hR
            · exact hR
          · cases hres
        split at h
        · rename_i F' M₁ hcode
          exact key _ F' M₁ (.inl rfl) hcode h
        · rename_i F' M₁ hcode
          exact key _ F' M₁ (.inr rfl) hcode h
        · cases h
      · cases h
    · cases h

end
end Go.Ev
