/- A part of the proof that an evaluator of the machine's code is sound (EvReg2). No conditions. -/
import Derived.Test.YtnklododmdplmaaGreatDoorEvReg
namespace Go.Ev
section
variable {E : Env} {P : Program} {call : CallF} {ops : Array Oper}

/-- What the plan and the look at its pairs give. -/
structure Fits (E : Env) {call : CallF} {ops : Array Oper} (R : Run E call ops) (before : Nat → Nat → Prop) : Prop where
  down : ∀ i o, ops[i]? = some o → ∀ e ∈ edgesOf o, e < i
  clos : ∀ (T : Nat → Prop), (∀ i o, ops[i]? = some o → T i → ∀ e ∈ edgesOf o, T e) → ∀ i j o, ops[j]? = some o → before i j → (∀ e ∈ edgesOf o, T e) → T i
  pair : ∀ i j oi oj, i < j → ops[i]? = some oi → ops[j]? = some oj → ¬ before i j → Oper.apart ops oi oj = true ∧
    (wantedE ops.toList (R.Fs i) oi = true → wantedE ops.toList (R.Fs j) oj = true → risky (cls E oi.op) (cls E oj.op) = true →
      (cls E oi.op = .look ∧ rd E (R.Ms j).get (R.Fs i) oi.op = some (R.vs i) ∧ rd E (R.Ms (j + 1)).get (R.Fs i) oi.op = some (R.vs i)) ∨
      (cls E oj.op = .look ∧ rd E (R.Ms i).get (R.Fs j) oj.op = some (R.vs j) ∧ rd E (R.Ms (i + 1)).get (R.Fs j) oj.op = some (R.vs j)))

structure Inv (E : Env) {call : CallF} {ops : Array Oper} (R : Run E call ops) (ρ₀ : Emb) (a₀ : Act) (w₀ : World) (T : Nat → Prop) (ρ : Emb) (p : Nat) (a : Act) (w : World) : Prop where
  closed : ∀ i o, ops[i]? = some o → T i → ∀ e ∈ edgesOf o, T e
  plo : p = 0 ∨ ∃ q, p = q + 1 ∧ T q ∧ Strong R q
  phi : ∀ i, p ≤ i → i < ops.size → T i → ¬ Strong R i
  ple : p ≤ ops.size
  frame : FrRel ρ (cur R T ops.size) a
  defers : a.defers = a₀.defers
  glob : Glob E ρ
  heap : ∀ b o, gT R T p (ops.size - p) b = some o → ∃ l ob, ρ b = some l ∧ w.heap[l.c]? = some ob ∧ o.rel ρ l ob
  inj : ∀ b b' o o' l l', gT R T p (ops.size - p) b = some o → gT R T p (ops.size - p) b' = some o' → ρ b = some l → ρ b' = some l' → l.c = l'.c → b = b'
  dom : ∀ i, i < ops.size → ¬ T i → ∀ b, (R.Ms i).next ≤ b → b < (R.Ms (i + 1)).next → ρ b = none
  ext : ∀ b, ¬ ((R.Ms 0).next ≤ b ∧ b < (R.Ms ops.size).next) → ρ b = ρ₀ b
  keep : ∀ c, c < w₀.heap.size → ¬ Wr ρ₀ (R.Ms 0) c → w.heap[c]? = w₀.heap[c]?
  size : w₀.heap.size ≤ w.heap.size
  wsub : ∀ b o l, gT R T p (ops.size - p) b = some o → o.wr = true → ρ b = some l → Wr ρ₀ (R.Ms 0) l.c ∨ w₀.heap.size ≤ l.c
  lsub : ∀ b o l, gT R T p (ops.size - p) b = some o → ρ b = some l → Lv ρ₀ (R.Ms 0) l.c ∨ w₀.heap.size ≤ l.c
  tape : w.tape = w₀.tape
  os : w.os = w₀.os
  output : w.output = w₀.output

variable {R : Run E call ops} {before : Nat → Nat → Prop} {ρ₀ : Emb} {a₀ : Act} {w₀ : World} {T : Nat → Prop} {ρ : Emb} {p : Nat} {a : Act} {w : World} {j : Nat} {oj : Oper}

theorem strong_cls {i : Nat} {o : Oper} (h : Strong R i) (ho : ops[i]? = some o) : wantedE ops.toList (R.Fs i) o = true ∧ (cls E o.op = .eff ∨ ∃ c, cls E o.op = .call c) := by
  obtain ⟨o', ho', h⟩ := h
  have : o' = o := Option.some.inj (ho'.symm.trans ho)
  subst this
  exact h

theorem frsh_cls {i : Nat} {o : Oper} (h : Frsh R i) (ho : ops[i]? = some o) : wantedE ops.toList (R.Fs i) o = true ∧ cls E o.op = .fresh := by
  obtain ⟨o', ho', h⟩ := h
  have : o' = o := Option.some.inj (ho'.symm.trans ho)
  subst this
  exact h

theorem lt_of_get {α : Type} {l : Array α} {i : Nat} {x : α} (h : l[i]? = some x) : i < l.size := (Array.getElem?_eq_some_iff.1 h).1

/-- two that write or call, or a new block ahead of one, are ordered -/
theorem Fits.ordered (hF : Fits E R before) {i j : Nat} (hij : i < j) (hi : Strong R i ∨ Frsh R i) (hj : Strong R j) : before i j := by
  obtain ⟨oj, hoj, hwj, hcj⟩ := hj
  have hoi : ∃ oi, ops[i]? = some oi ∧ wantedE ops.toList (R.Fs i) oi = true ∧ (cls E oi.op = .eff ∨ (∃ c, cls E oi.op = .call c) ∨ cls E oi.op = .fresh) := by
    rcases hi with ⟨oi, h1, h2, h3⟩ | ⟨oi, h1, h2, h3⟩
    · exact ⟨oi, h1, h2, h3.elim .inl fun h => .inr (.inl h)⟩
    · exact ⟨oi, h1, h2, .inr (.inr h3)⟩
  obtain ⟨oi, hoi, hwi, hci⟩ := hoi
  by_cases hb : before i j
  · exact hb
  · obtain ⟨_, h2⟩ := hF.pair i j oi oj hij hoi hoj hb
    have hr : risky (cls E oi.op) (cls E oj.op) = true := by
      rcases hci with h | ⟨c, h⟩ | h <;> rcases hcj with h' | ⟨c', h'⟩ <;> simp [h, h', risky]
    rcases h2 hwi hwj hr with ⟨h, _⟩ | ⟨h, _⟩
    · rcases hci with h' | ⟨c, h'⟩ | h' <;> rw [h] at h' <;> cases h'
    · rcases hcj with h' | ⟨c, h'⟩ <;> rw [h] at h' <;> cases h'

theorem Inv.p_le (I : Inv E R ρ₀ a₀ w₀ T ρ p a w) (hF : Fits E R before) (hoj : ops[j]? = some oj) (hj : ¬ T j) (hk : Strong R j ∨ Frsh R j) : p ≤ j := by
  rcases I.plo with h | ⟨q, h, hq, hs⟩
  · omega
  · by_cases hqj : q < j
    · omega
    · exfalso
      by_cases he : q = j
      · subst he; exact hj hq
      · have hb := hF.ordered (show j < q by omega) hk hs
        obtain ⟨oq, hoq, _⟩ := hs
        exact hj (hF.clos T I.closed j q oq hoq hb (I.closed q oq hoq hq))

/-- what the ready one waits for has come up -/
theorem Inv.came (I : Inv E R ρ₀ a₀ w₀ T ρ p a w) (hF : Fits E R before) (hoj : ops[j]? = some oj) (hd : ∀ e ∈ edgesOf oj, T e) {i : Nat} (hb : before i j) : T i :=
  hF.clos T I.closed i j oj hoj hb hd

/-- the temporaries that it looks at -/
theorem Inv.looks (I : Inv E R ρ₀ a₀ w₀ T ρ p a w) (hF : Fits E R before) (hoj : ops[j]? = some oj) (hj : ¬ T j) (hd : ∀ e ∈ edgesOf oj, T e) {t : Nat} (ht : t ∈ oj.looksAt ops) : (R.Fs j).get t = (cur R T ops.size).get t := by
  have hjs := lt_of_get hoj
  have h1 : (cur R T (j + (ops.size - j))).get t = (cur R T j).get t := cur_skip R _ fun i h1 h2 hdst hT => by
    obtain ⟨oi, hoi⟩ := get_of_lt (show i < ops.size by omega)
    have hne : i ≠ j := fun e => hj (e ▸ hT)
    by_cases hb : before j i
    · exact hj (hF.clos T I.closed j i oi hoi hb (I.closed i oi hoi hT))
    · have := (Oper.apart_spec (hF.pair j i oj oi (by omega) hoj hoi hb).1).2.2
      simp only [dstOf, hoi, Option.bind_some] at hdst
      exact this t hdst ht
  rw [show j + (ops.size - j) = ops.size by omega] at h1
  rw [h1, ← cur_all R j (by omega)]
  refine cur_congr R j fun i hi hdst => ⟨fun _ => ?_, fun _ => trivial⟩
  obtain ⟨oi, hoi⟩ := get_of_lt (show i < ops.size by omega)
  by_cases hb : before i j
  · exact I.came hF hoj hd hb
  · have := (Oper.apart_spec (hF.pair i j oi oj hi hoi hoj hb).1).1
    simp only [dstOf, hoi, Option.bind_some] at hdst
    exact absurd ht (this t hdst)

theorem Inv.he (I : Inv E R ρ₀ a₀ w₀ T ρ p a w) (hF : Fits E R before) (hoj : ops[j]? = some oj) (hj : ¬ T j) (hd : ∀ e ∈ edgesOf oj, T e) : HE E ρ (R.Fs j) a oj.op := by
  intro x v hx hv
  refine ev_rel_at I.glob (fun t ht => ?_) hv
  subst ht
  rw [I.looks hF hoj hj hd (t := t) (by
    unfold Oper.looksAt
    exact List.mem_append_left _ (List.mem_filterMap.2 ⟨.tmp t, hx, rfl⟩))]
  exact I.frame.get t

theorem Inv.wanted (I : Inv E R ρ₀ a₀ w₀ T ρ p a w) (hF : Fits E R before) (hoj : ops[j]? = some oj) (hj : ¬ T j) (hd : ∀ e ∈ edgesOf oj, T e) : Region.wanted oj (yielded ops a.tmps) = wantedE ops.toList (R.Fs j) oj :=
  wantedE_eq_at oj fun t ht => by
    rw [I.looks hF hoj hj hd ht]
    exact I.frame.get t

/-- the frame behind it -/
theorem Inv.frame_put (I : Inv E R ρ₀ a₀ w₀ T ρ p a w) (hF : Fits E R before) (hoj : ops[j]? = some oj) (hj : ¬ T j) {ρ' : Emb} (hle : ρ.le ρ') {v' : Value} (hv : (R.vs j).rel ρ' v') :
    FrRel ρ' (cur R (fun i => T i ∨ i = j) ops.size) (a.put oj.dst v') := by
  have h0 := (I.frame.mono hle).put hv oj.dst
  have hjs := lt_of_get hoj
  refine ⟨by rw [h0.size, Fr.n_put, cur_n, cur_n], fun t => ?_⟩
  have h1 := h0.get t
  have : (cur R (fun i => T i ∨ i = j) ops.size).get t = ((cur R T ops.size).put oj.dst (R.vs j)).get t := by
    rw [Fr.get_put]
    by_cases hd : oj.dst = some t
    · have noneBehind : ∀ i, j + 1 ≤ i → i < ops.size → dstOf ops i = some t → ¬ T i := fun i h1 h2 hdst hT => by
        obtain ⟨oi, hoi⟩ := get_of_lt h2
        by_cases hb : before j i
        · exact hj (hF.clos T I.closed j i oi hoi hb (I.closed i oi hoi hT))
        · have := (Oper.apart_spec (hF.pair j i oj oi (by omega) hoj hoi hb).1).2.1
          simp only [dstOf, hoi, Option.bind_some] at hdst
          exact this t hd hdst
      have h2 : (cur R (fun i => T i ∨ i = j) (j + 1 + (ops.size - (j + 1)))).get t = (cur R (fun i => T i ∨ i = j) (j + 1)).get t :=
        cur_skip R _ fun i h1 h2 hdst hT => noneBehind i h1 (by omega) hdst (hT.resolve_right (by omega))
      rw [show j + 1 + (ops.size - (j + 1)) = ops.size by omega] at h2
      have h3 : (cur R T (j + (ops.size - j))).get t = (cur R T j).get t :=
        cur_skip R _ fun i h1 h2 hdst hT => by
          by_cases he : i = j
          · exact hj (he ▸ hT)
          · exact noneBehind i (by omega) (by omega) hdst hT
      rw [show j + (ops.size - j) = ops.size by omega] at h3
      have h4 : (cur R (fun i => T i ∨ i = j) j).get t = (cur R T j).get t := cur_congr R j fun i hi _ => ⟨fun h => h.resolve_right (by omega), .inl⟩
      rw [h2, h3]
      simp only [cur, if_pos (show T j ∨ j = j from .inr rfl), Fr.get_put, dstOf, hoj, Option.bind_some, hd, true_and, cur_n, h4]
    · rw [if_neg (fun h => hd h.1)]
      refine cur_congr R _ fun i hi hdst => ⟨fun h => h.resolve_right fun e => ?_, .inl⟩
      subst e
      simp only [dstOf, hoj, Option.bind_some] at hdst
      exact hd hdst
  rw [this]
  exact h1

/-- a look sees what it saw in the text's run, whichever state of the writes it is met in -/
theorem Inv.lookRel (I : Inv E R ρ₀ a₀ w₀ T ρ p a w) (S : Sound E P call) (h0 : WF (R.Ms 0)) {q : Nat} (hq : p ≤ q) (hqn : q ≤ ops.size) (hs : ∀ i, p ≤ i → i < q → ¬ Strong R i) : LookRel ρ (R.Ms q).get w := by
  intro b ob l hg hl
  have hin : gT R T p (ops.size - p) b = some ob := by
    have h1 := gT_text R (p := p) (q - p) (by omega) (fun i h1 h2 => hs i h1 (by omega)) b
    rw [show p + (q - p) = q by omega, hg] at h1
    rcases gT_inv R _ h1.symm with h2 | ⟨i, hi, _, hf, hb, ho⟩
    · exact gT_old R S h0 h2 _ (by omega)
    · by_cases hT : T (p + i)
      · rw [hb, gT_new R S hT hf _ (by omega) (by omega), ← hb]; exact ho
      · exfalso
        obtain ⟨o, ob', mk, _, _, _, _, hM⟩ := R.freshStep hf
        have := I.dom (p + i) (by omega) hT b (by omega) (by rw [hM]; simp only [Mem.add]; omega)
        rw [this] at hl
        cases hl
  obtain ⟨l', o, h1, h2, h3⟩ := I.heap b ob hin
  rw [hl] at h1
  injection h1 with h1
  subst h1
  exact ⟨o, h2, h3⟩

theorem Inv.closed' (I : Inv E R ρ₀ a₀ w₀ T ρ p a w) (hoj : ops[j]? = some oj) (hd : ∀ e ∈ edgesOf oj, T e) : ∀ i o, ops[i]? = some o → (T i ∨ i = j) → ∀ e ∈ edgesOf o, (T e ∨ e = j) := by
  intro i o ho hi e he
  rcases hi with hi | rfl
  · exact .inl (I.closed i o ho hi e he)
  · have : o = oj := Option.some.inj (ho.symm.trans hoj)
    subst this
    exact .inl (hd e he)

/-- behind one that neither writes nor lays a block -/
theorem Inv.quiet (I : Inv E R ρ₀ a₀ w₀ T ρ p a w) (hF : Fits E R before) (hoj : ops[j]? = some oj) (hj : ¬ T j) (hd : ∀ e ∈ edgesOf oj, T e) (hs : ¬ Strong R j) (hf : ¬ Frsh R j) {v' : Value} (hv : (R.vs j).rel ρ v') :
    Inv E R ρ₀ a₀ w₀ (fun i => T i ∨ i = j) ρ p (a.put oj.dst v') w := by
  have hinv : ∀ b o, gT R (fun i => T i ∨ i = j) p (ops.size - p) b = some o → gT R T p (ops.size - p) b = some o := by
    have hcong : ∀ t b, gT R (fun i => T i ∨ i = j) p t b = gT R T p t b := by
      intro t b
      induction t with
      | zero => rfl
      | succ t ih =>
        simp only [gT]
        by_cases hc : T (p + t) ∧ Frsh R (p + t) ∧ b = (R.Ms (p + t)).next
        · rw [if_pos hc, if_pos ⟨.inl hc.1, hc.2⟩]
        · rw [if_neg hc, if_neg (fun h => hc ⟨h.1.resolve_right (fun e => hf (e ▸ h.2.1)), h.2⟩), ih]
    intro b o h
    rwa [hcong] at h
  refine ⟨I.closed' hoj hd, ?_, fun i h1 h2 h3 => ?_, I.ple, I.frame_put hF hoj hj (Emb.le.refl ρ) hv, by rw [put_defers]; exact I.defers, I.glob, fun b o h => I.heap b o (hinv b o h), fun b b' o o' l l' h h' => I.inj b b' o o' l l' (hinv b o h) (hinv b' o' h'),
    fun i hi hT => I.dom i hi (fun h => hT (.inl h)), I.ext, I.keep, I.size, fun b o l h => I.wsub b o l (hinv b o h), fun b o l h => I.lsub b o l (hinv b o h), I.tape, I.os, I.output⟩
  · exact I.plo.imp_right fun ⟨q, h1, h2, h3⟩ => ⟨q, h1, .inl h2, h3⟩
  · rcases h3 with h3 | rfl
    · exact I.phi i h1 h2 h3
    · exact hs

end
end Go.Ev
