/- A part of the proof that an evaluator of the machine's code is sound (EvDraw). No conditions. -/
import Derived.Test.YtnklododmdplmaaGreatDoorEvStep
namespace Go.Ev

/-! equality of abstract values -/

theorem listEq_eq : ∀ {a b : List Nat}, listEq a b = true → a = b
  | [], [], _ => rfl
  | [], _ :: _, h => by simp [listEq] at h
  | _ :: _, [], h => by simp [listEq] at h
  | x :: xs, y :: ys, h => by
    simp only [listEq, Bool.and_eq_true] at h
    rw [of_beq h.1, listEq_eq h.2]

mutual
theorem AVal.eqb_eq : ∀ {a b : AVal}, AVal.eqb a b = true → a = b
  | .bool a, b, h => by cases b <;> simp_all [AVal.eqb]
  | .int k a, b, h => by cases b <;> simp_all [AVal.eqb]
  | .float k a, b, h => by cases b <;> simp_all [AVal.eqb]
  | .str a, b, h => by
    cases b <;> simp only [AVal.eqb, Bool.false_eq_true] at h
    rw [listEq_eq h]
  | .ptr none, b, h => by
    cases b with
    | ptr p => cases p <;> simp_all [AVal.eqb]
    | _ => simp [AVal.eqb] at h
  | .ptr (some (x, y)), b, h => by
    cases b with
    | ptr p => cases p with
      | none => simp [AVal.eqb] at h
      | some q => obtain ⟨u, v⟩ := q; simp only [AVal.eqb, Bool.and_eq_true] at h; rw [of_beq h.1, of_beq h.2]
    | _ => simp [AVal.eqb] at h
  | .slice none l c o, b, h => by
    cases b with
    | slice p l' c' o' => cases p with
      | none => simp only [AVal.eqb, Bool.and_eq_true, beq_iff_eq] at h; rw [of_beq h.1.1, of_beq h.1.2, h.2]
      | some q => simp [AVal.eqb] at h
    | _ => simp [AVal.eqb] at h
  | .slice (some (x, y)) l c o, b, h => by
    cases b with
    | slice p l' c' o' => cases p with
      | none => simp [AVal.eqb] at h
      | some q => obtain ⟨u, v⟩ := q; simp only [AVal.eqb, Bool.and_eq_true, beq_iff_eq] at h; rw [of_beq h.1.1.1.1, of_beq h.1.1.1.2, of_beq h.1.1.2, of_beq h.1.2, h.2]
    | _ => simp [AVal.eqb] at h
  | .map none, b, h => by
    cases b with
    | map p => cases p <;> simp_all [AVal.eqb]
    | _ => simp [AVal.eqb] at h
  | .map (some x), b, h => by
    cases b with
    | map p => cases p with
      | none => simp [AVal.eqb] at h
      | some q => simp only [AVal.eqb] at h; rw [of_beq h]
    | _ => simp [AVal.eqb] at h
  | .nilFunc, b, h => by cases b <;> simp_all [AVal.eqb]
  | .nilIface, b, h => by cases b <;> simp_all [AVal.eqb]
  | .iface t x, b, h => by
    cases b <;> simp only [AVal.eqb, Bool.false_eq_true, Bool.and_eq_true] at h
    rw [of_beq h.1, AVal.eqb_eq h.2]
  | .agg x, b, h => by
    cases b <;> simp only [AVal.eqb, Bool.false_eq_true] at h
    rw [AVal.eqbs_eq h]
  | .tuple x, b, h => by
    cases b <;> simp only [AVal.eqb, Bool.false_eq_true] at h
    rw [AVal.eqbs_eq h]
  | .func f x y, b, h => by
    cases b <;> simp only [AVal.eqb, Bool.false_eq_true, Bool.and_eq_true, decide_eq_true_eq] at h
    rw [h.1.1, AVal.eqbs_eq h.1.2, AVal.eqbs_eq h.2]
  | .opq i, b, h => by
    cases b <;> simp only [AVal.eqb, Bool.false_eq_true] at h
    rw [of_beq h]
  | .emp, b, h => by cases b <;> simp [AVal.eqb] at h
  | .rng k lo hi i, b, h => by
    cases b <;> simp only [AVal.eqb, Bool.false_eq_true, Bool.and_eq_true, beq_iff_eq] at h
    rw [h.1.1.1, h.1.1.2, h.1.2, of_beq h.2]
theorem AVal.eqbs_eq : ∀ {a b : List AVal}, AVal.eqbs a b = true → a = b
  | [], [], _ => rfl
  | [], _ :: _, h => by simp [AVal.eqbs] at h
  | _ :: _, [], h => by simp [AVal.eqbs] at h
  | x :: xs, y :: ys, h => by
    simp only [AVal.eqbs, Bool.and_eq_true] at h
    rw [AVal.eqb_eq h.1, AVal.eqbs_eq h.2]
end

theorem same_eq {x : Option AVal} {v : AVal} (h : same x v = true) : x = some v := by
  cases x with
  | none => simp [same] at h
  | some y => simp only [same] at h; rw [AVal.eqb_eq h]

/-! what waits for what -/

theorem testBit_maskOf (acc : Trie Nat) (b : Nat) : ∀ (es : List Nat) (m : Nat), Nat.testBit (maskOf acc es m) b = true → Nat.testBit m b = true ∨ ∃ e ∈ es, b = e ∨ ∃ x, acc.get e = some x ∧ Nat.testBit x b = true
  | [], m, h => .inl (by simpa [maskOf] using h)
  | e :: es, m, h => by
    simp only [maskOf] at h
    rcases testBit_maskOf acc b es _ h with h1 | ⟨e', he, h1⟩
    · rw [Nat.testBit_or, Nat.testBit_or, Nat.one_shiftLeft, Nat.testBit_two_pow] at h1
      simp only [Bool.or_eq_true, decide_eq_true_eq] at h1
      rcases h1 with (h1 | h1) | h1
      · exact .inl h1
      · exact .inr ⟨e, by simp, .inl h1.symm⟩
      · cases hx : acc.get e with
        | none => simp [hx] at h1
        | some x => simp only [hx] at h1; exact .inr ⟨e, by simp, .inr ⟨x, hx, h1⟩⟩
    · exact .inr ⟨e', by simp [he], h1⟩

theorem edgesDown_lt {i : Nat} : ∀ {es : List Nat}, edgesDown i es = true → ∀ e ∈ es, e < i
  | [], _, e, he => by simp at he
  | x :: es, h, e, he => by
    simp only [edgesDown, Bool.and_eq_true] at h
    rcases List.mem_cons.1 he with rfl | he
    · exact of_blt h.1
    · exact edgesDown_lt h.2 e he

theorem masks_spec (S : Nat → Prop) : ∀ (l : List Oper) (k : Nat) (acc : Trie Nat) (ms : List Nat), masks l k acc = some ms →
    (∀ i o, l[i]? = some o → S (k + i) → ∀ e ∈ edgesOf o, S e) → (∀ e x b, acc.get e = some x → Nat.testBit x b = true → S e → S b) →
    ms.length = l.length ∧ ∀ i o, l[i]? = some o → (∀ e ∈ edgesOf o, e < k + i) ∧ ∃ m, ms[i]? = some m ∧ ∀ b, Nat.testBit m b = true → (∀ e ∈ edgesOf o, S e) → S b
  | [], k, acc, ms, h, _, _ => by simp [masks] at h; subst h; simp
  | o :: os, k, acc, ms, h, hc, ha => by
    simp only [masks] at h
    cases hd : edgesDown k (edgesOf o) with
    | false => simp [hd] at h
    | true =>
      simp only [hd, cond_true] at h
      cases hm : masks os (k + 1) (acc.set k (some (maskOf acc (edgesOf o) 0))) with
      | none => simp [hm] at h
      | some l =>
        simp only [hm, Option.some.injEq] at h
        subst h
        have hhead : ∀ b, Nat.testBit (maskOf acc (edgesOf o) 0) b = true → (∀ e ∈ edgesOf o, S e) → S b := by
          intro b hb hS
          rcases testBit_maskOf acc b _ _ hb with h1 | ⟨e, he, h1⟩
          · simp at h1
          · rcases h1 with rfl | ⟨x, hx, hxb⟩
            · exact hS _ he
            · exact ha e x b hx hxb (hS e he)
        have := masks_spec S os (k + 1) _ l hm (fun i o' ho' hS => hc (i + 1) o' (by simpa using ho') (by rw [show k + (i + 1) = k + 1 + i by omega]; exact hS)) (fun e x b hx hb hS => by
          rw [Trie.get_set] at hx
          by_cases hek : e = k
          · subst hek
            rw [if_pos rfl] at hx
            injection hx with hx
            subst hx
            exact hhead b hb (hc 0 o rfl (by simpa using hS))
          · rw [if_neg hek] at hx
            exact ha e x b hx hb hS)
        refine ⟨by simp [this.1], fun i o' ho' => ?_⟩
        cases i with
        | zero =>
          simp at ho'
          subst ho'
          exact ⟨fun e he => edgesDown_lt hd e he, _, rfl, hhead⟩
        | succ i =>
          simp at ho'
          obtain ⟨h1, m, h2, h3⟩ := this.2 i o' ho'
          exact ⟨fun e he => by have := h1 e he; omega, m, by simpa using h2, h3⟩

theorem mem_edgesOf {o : Oper} {e : Edge} (he : e ∈ o.after) (hb : Region.binds .any e = true) : e.on ∈ edgesOf o := by
  unfold edgesOf
  rw [List.mem_filterMap]
  exact ⟨e, by simpa using he, by simp [hb]⟩

theorem of_mem_edgesOf {o : Oper} {x : Nat} (h : x ∈ edgesOf o) : ∃ e ∈ o.after, Region.binds .any e = true ∧ e.on = x := by
  unfold edgesOf at h
  rw [List.mem_filterMap] at h
  obtain ⟨e, he, hx⟩ := h
  cases hb : Region.binds .any e with
  | false => simp [hb] at hx
  | true => simp [hb] at hx; exact ⟨e, by simpa using he, hb, hx⟩

/-! the plan -/

theorem planRow_spec {E : Env} {ops : Array Oper} {i : Nat} {o : Oper} : ∀ (os : List Oper) (ms : List Nat) (j : Nat) (r : Option (List (Nat × Nat))) (l : List (Nat × Nat)), planRow E ops i o os ms j r = some l →
    (∃ l₀, r = some l₀ ∧ ∀ x ∈ l₀, x ∈ l) ∧ ∀ t s, os[t]? = some s → ∃ m, ms[t]? = some m ∧ (Nat.testBit m i = true ∨ (Oper.apart ops o s = true ∧ (risky (cls E o.op) (cls E s.op) = true → (i, j + t) ∈ l)))
  | [], ms, j, r, l, h => by
    simp only [planRow] at h
    exact ⟨⟨l, h, fun _ hx => hx⟩, by simp⟩
  | s :: os, [], j, r, l, h => by simp [planRow] at h
  | s :: os, m :: ms, j, r, l, h => by
    simp only [planRow] at h
    cases hb : Nat.testBit m i with
    | true =>
      simp only [hb, cond_true] at h
      obtain ⟨h1, h2⟩ := planRow_spec os ms (j + 1) r l h
      refine ⟨h1, fun t s' hs' => ?_⟩
      cases t with
      | zero => simp at hs'; subst hs'; exact ⟨m, rfl, .inl hb⟩
      | succ t =>
        simp at hs'
        obtain ⟨m', h3, h4⟩ := h2 t s' hs'
        refine ⟨m', by simpa using h3, h4.imp_right fun ⟨a, c⟩ => ⟨a, fun hr => ?_⟩⟩
        have := c hr
        rwa [show j + (t + 1) = j + 1 + t by omega]
    | false =>
      simp only [hb, cond_false] at h
      cases hap : Oper.apart ops o s with
      | false => simp [hap] at h
      | true =>
        simp only [hap, cond_true] at h
        cases hp : planRow E ops i o os ms (j + 1) r with
        | none => simp [hp] at h
        | some l' =>
          simp only [hp, Option.some.injEq] at h
          subst h
          obtain ⟨⟨l₀, h0, hsub⟩, h2⟩ := planRow_spec os ms (j + 1) r l' hp
          have hin : ∀ x ∈ l', x ∈ (bif risky (cls E o.op) (cls E s.op) then (i, j) :: l' else l') := fun x hx => by
            cases risky (cls E o.op) (cls E s.op) <;> simp [hx]
          refine ⟨⟨l₀, h0, fun x hx => hin x (hsub x hx)⟩, fun t s' hs' => ?_⟩
          cases t with
          | zero => simp at hs'; subst hs'; exact ⟨m, rfl, .inr ⟨hap, fun hr => by simp [hr]⟩⟩
          | succ t =>
            simp at hs'
            obtain ⟨m', h3, h4⟩ := h2 t s' hs'
            refine ⟨m', by simpa using h3, h4.imp_right fun ⟨a, c⟩ => ⟨a, fun hr => hin _ ?_⟩⟩
            have := c hr
            rwa [show j + (t + 1) = j + 1 + t by omega]

theorem planAll_spec {E : Env} {ops : Array Oper} : ∀ (l : List Oper) (ms : List Nat) (k : Nat) (ps : List (Nat × Nat)), planAll E ops l ms k = some ps →
    ∀ x y o s, x < y → l[x]? = some o → l[y]? = some s → ∃ m, ms[y]? = some m ∧ (Nat.testBit m (k + x) = true ∨ (Oper.apart ops o s = true ∧ (risky (cls E o.op) (cls E s.op) = true → (k + x, k + y) ∈ ps)))
  | [], ms, k, ps, h, x, y, o, s, _, hx, _ => by simp at hx
  | q :: l, [], k, ps, h, _, _, _, _, _, _, _ => by simp [planAll] at h
  | q :: l, m₀ :: ms, k, ps, h, x, y, o, s, hxy, hx, hy => by
    simp only [planAll] at h
    obtain ⟨⟨l₀, h0, hsub⟩, h2⟩ := planRow_spec l ms (k + 1) _ ps h
    obtain ⟨y, rfl⟩ : ∃ z, y = z + 1 := ⟨y - 1, by omega⟩
    simp at hy
    cases x with
    | zero =>
      simp at hx; subst hx
      obtain ⟨m, h3, h4⟩ := h2 y s hy
      exact ⟨m, by simpa using h3, h4.imp_right fun ⟨a, c⟩ => ⟨a, fun hr => by have := c hr; rwa [show k + (y + 1) = k + 1 + y by omega]⟩⟩
    | succ x =>
      simp at hx
      obtain ⟨m, h3, h4⟩ := planAll_spec l ms (k + 1) l₀ h0 x y o s (by omega) hx hy
      refine ⟨m, by simpa using h3, ?_⟩
      rw [show k + (x + 1) = k + 1 + x by omega, show k + (y + 1) = k + 1 + y by omega]
      exact h4.imp_right fun ⟨a, c⟩ => ⟨a, fun hr => hsub _ (c hr)⟩

theorem pairsOK_spec {E : Env} {rs : List Rec} : ∀ {ps : List (Nat × Nat)}, pairsOK E rs ps = true → ∀ x ∈ ps, ∃ ri rj, rs[x.1]? = some ri ∧ rs[x.2]? = some rj ∧ pairOK E ri rj = true
  | [], _, x, hx => by simp at hx
  | (i, j) :: ps, h, x, hx => by
    simp only [pairsOK] at h
    cases hi : rs[i]? with
    | none => simp [hi] at h
    | some ri =>
      cases hj : rs[j]? with
      | none => simp [hi, hj] at h
      | some rj =>
        simp only [hi, hj, Bool.and_eq_true] at h
        rcases List.mem_cons.1 hx with rfl | hx
        · exact ⟨ri, rj, hi, hj, h.1⟩
        · exact pairsOK_spec h.2 x hx

/-! the run of the text, state by state -/

structure Run (E : Env) (call : CallF) (ops : Array Oper) where
  Fs : Nat → Fr
  Ms : Nat → Mem
  vs : Nat → AVal
  step : ∀ i o, ops[i]? = some o → stepOp E call ops.toList o (Fs i) (Ms i) = some (vs i, Ms (i + 1)) ∧ Fs (i + 1) = (Fs i).put o.dst (vs i)

theorem run_exists {E : Env} {call : CallF} {ops : Array Oper} : ∀ (l : List Oper) (k : Nat), ops.toList.drop k = l → ∀ (F : Fr) (M : Mem) (F' : Fr) (M' : Mem), runOps E call ops.toList l F M = some (F', M') →
    ∃ (Fs : Nat → Fr) (Ms : Nat → Mem) (vs : Nat → AVal), Fs k = F ∧ Ms k = M ∧ Fs (k + l.length) = F' ∧ Ms (k + l.length) = M' ∧
      (∀ i o, k ≤ i → ops[i]? = some o → stepOp E call ops.toList o (Fs i) (Ms i) = some (vs i, Ms (i + 1)) ∧ Fs (i + 1) = (Fs i).put o.dst (vs i)) ∧
      ∀ rs F'' M'', runRecs E call ops.toList l F M = some (rs, F'', M'') → ∀ i o, k ≤ i → ops[i]? = some o → rs[i - k]? = some ⟨wantedE ops.toList (Fs i) o, o, Fs i, Ms i, vs i, Ms (i + 1)⟩
  | [], k, hl, F, M, F', M', h => by
    simp [runOps] at h
    obtain ⟨rfl, rfl⟩ := h
    have hlen : ops.size ≤ k := by
      have := congrArg List.length hl
      simp at this
      omega
    refine ⟨fun _ => F, fun _ => M, fun _ => .undef, rfl, rfl, rfl, rfl, fun i o hi ho => ?_, fun _ _ _ _ i o hi ho => ?_⟩
    · have := (Array.getElem?_eq_some_iff.1 ho).1; omega
    · have := (Array.getElem?_eq_some_iff.1 ho).1; omega
  | o :: l, k, hl, F, M, F', M', h => by
    simp only [runOps] at h
    cases h1 : stepOp E call ops.toList o F M with
    | none => simp [h1] at h
    | some x =>
      obtain ⟨v, M₁⟩ := x
      simp only [h1] at h
      have hk : ops[k]? = some o := by
        have := congrArg (·[0]?) hl
        simpa using this
      have hl' : ops.toList.drop (k + 1) = l := by
        have := congrArg List.tail hl
        simpa [List.tail_drop] using this
      obtain ⟨Fs, Ms, vs, e1, e2, e3, e4, e5, e6⟩ := run_exists l (k + 1) hl' _ _ _ _ h
      refine ⟨fun i => if i ≤ k then F else Fs i, fun i => if i ≤ k then M else Ms i, fun i => if i ≤ k then v else vs i, by simp, by simp, ?_, ?_, ?_, ?_⟩
      · simp only [List.length_cons]; rw [if_neg (by omega)]; rw [← e3]; congr 1; omega
      · simp only [List.length_cons]; rw [if_neg (by omega)]; rw [← e4]; congr 1; omega
      · intro i o' hi ho'
        by_cases hik : i = k
        · subst hik
          have : o' = o := Option.some.inj (ho'.symm.trans hk)
          subst this
          simp only [Nat.le_refl, if_true, if_neg (show ¬ i + 1 ≤ i by omega), e1, e2]
          exact ⟨h1, trivial⟩
        · have h2 := e5 i o' (by omega) ho'
          simp only [if_neg (show ¬ i ≤ k by omega), if_neg (show ¬ i + 1 ≤ k by omega)]
          exact h2
      · intro rs F'' M'' hrs i o' hi ho'
        simp only [runRecs, h1] at hrs
        cases h2 : runRecs E call ops.toList l (F.put o.dst v) M₁ with
        | none => simp [h2] at hrs
        | some y =>
          obtain ⟨rs', F₃, M₃⟩ := y
          simp only [h2, Option.some.injEq, Prod.mk.injEq] at hrs
          obtain ⟨rfl, rfl, rfl⟩ := hrs
          by_cases hik : i = k
          · subst hik
            have : o' = o := Option.some.inj (ho'.symm.trans hk)
            subst this
            simp only [Nat.sub_self, Nat.le_refl, if_true, if_neg (show ¬ i + 1 ≤ i by omega), e2]
            rfl
          · have h3 := e6 _ _ _ h2 i o' (by omega) ho'
            simp only [if_neg (show ¬ i ≤ k by omega), if_neg (show ¬ i + 1 ≤ k by omega)]
            rw [show i - k = (i - (k + 1)) + 1 by omega]
            simpa using h3

theorem runOps_of_runRecs {E : Env} {call : CallF} {ops : List Oper} : ∀ (l : List Oper) (F : Fr) (M : Mem) (rs : List Rec) (F' : Fr) (M' : Mem), runRecs E call ops l F M = some (rs, F', M') → runOps E call ops l F M = some (F', M')
  | [], F, M, rs, F', M', h => by simp [runRecs] at h; obtain ⟨_, rfl, rfl⟩ := h; simp [runOps]
  | o :: l, F, M, rs, F', M', h => by
    simp only [runRecs] at h
    simp only [runOps]
    cases h1 : stepOp E call ops o F M with
    | none => simp [h1] at h
    | some x =>
      obtain ⟨v, M₁⟩ := x
      simp only [h1] at h ⊢
      cases h2 : runRecs E call ops l (F.put o.dst v) M₁ with
      | none => simp [h2] at h
      | some y =>
        obtain ⟨rs', F₃, M₃⟩ := y
        simp only [h2, Option.some.injEq, Prod.mk.injEq] at h
        obtain ⟨_, rfl, rfl⟩ := h
        exact runOps_of_runRecs l _ _ _ _ _ h2

end Go.Ev
