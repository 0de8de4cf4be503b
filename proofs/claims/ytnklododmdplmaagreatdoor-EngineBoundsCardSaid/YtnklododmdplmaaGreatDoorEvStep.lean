/- A part of the proof that an evaluator of the machine's code is sound (EvStep). No conditions. -/
import Derived.Test.YtnklododmdplmaaGreatDoorEvRel
import Derived.Defers
import Derived.Orders
namespace Go.Ev

def Glob (E : Env) (ρ : Emb) : Prop := ∀ g, g < E.ng → ∃ x, ρ g = some ⟨g, 0, x, dv⟩

def HE (E : Env) (ρ : Emb) (F : Fr) (a : Act) (o : Op) : Prop := ∀ x v, x ∈ o.operands.toList → ev E F x = some v → v.rel ρ (a.eval x)

def LookRel (ρ : Emb) (g : Nat → Option AObj) (w : World) : Prop := ∀ b ob l, g b = some ob → ρ b = some l → ∃ o, w.heap[l.c]? = some o ∧ ob.rel ρ l o

def WF (M : Mem) : Prop := ∀ b o, M.get b = some o → b < M.next

structure Grow (M M' : Mem) : Prop where
  nxt : M.next ≤ M'.next
  wf : WF M → WF M'

theorem Grow.refl (M : Mem) : Grow M M := ⟨Nat.le_refl _, id⟩
theorem Grow.trans {M M₁ M₂ : Mem} (h : Grow M M₁) (h' : Grow M₁ M₂) : Grow M M₂ := ⟨Nat.le_trans h.nxt h'.nxt, fun w => h'.wf (h.wf w)⟩

theorem LookRel.of_rel {E : Env} {ρ : Emb} {M : Mem} {w : World} (h : Rel E ρ M w) : LookRel ρ M.get w := by
  intro b ob l hg hl
  obtain ⟨l', o, h1, h2, h3⟩ := h.heap b ob hg
  rw [hl] at h1
  injection h1 with h1
  subst h1
  exact ⟨o, h2, h3⟩

theorem LookRel.none {ρ : Emb} {w : World} : LookRel ρ noLook w := fun _ _ _ h => by simp [noLook] at h

theorem HE.of_frame {E : Env} {ρ : Emb} {F : Fr} {a : Act} {o : Op} (hg : Glob E ρ) (hF : FrRel ρ F a) : HE E ρ F a o := fun _ _ _ h => ev_rel hg hF h

abbrev CallF := Nat → List AVal → Mem → Option (AVal × Mem)

/-- a deferred call that does nothing where nothing panics -/
def QuietD (P : Program) (d : Deferred) : Prop :=
  ∃ fv cap f args, d.target = .fn fv cap ∧ (∀ w, (invoke d.target d.args).run P w = .ok (.enter f args) w) ∧ ∀ w, CallsD P f args .returning w fun e u' w' => (∃ v, e = .returned v) ∧ u' = .returning ∧ w' = w

def Qu (P : Program) (a a' : Act) : Prop := (∀ d ∈ a.defers, QuietD P d) → ∀ d ∈ a'.defers, QuietD P d

theorem Qu.of_eq {P : Program} {a a' : Act} (h : a'.defers = a.defers) : Qu P a a' := fun q => by rw [h]; exact q
theorem Qu.trans {P : Program} {a a' a'' : Act} (h : Qu P a a') (h' : Qu P a' a'') : Qu P a a'' := fun q => h' (h q)

theorem leaves_quiet {P : Program} {fn : Func} {tmps : Array Value} {R : Ending → World → Prop} {w : World} (h : ∃ v, (Go.results fn tmps).run P w = .ok v w ∧ R (.returned v) w) : ∀ ds : List Deferred, (∀ d ∈ ds, QuietD P d) → Leaves P fn tmps R ds .returning w
  | [], _ => h
  | d :: ds, q => by
    obtain ⟨fv, cap, f, args, h1, h2, h3⟩ := q d (List.mem_cons_self ..)
    refine ⟨by simp, fv, cap, f, args, h1, h2 w, (h3 w).mono ?_⟩
    rintro e u' w' ⟨⟨v, rfl⟩, rfl, rfl⟩
    exact leaves_quiet h ds fun d hd => q d (List.mem_cons_of_mem _ hd)

/-- What is asked of the operations. -/
structure Sound (E : Env) (P : Program) (call : CallF) : Prop where
  mixed : P.follows .mixedOrders = true
  rd : ∀ {ρ : Emb} {g : Nat → Option AObj} {F : Fr} {a : Act} {w : World} {o : Oper} {v : AVal}, Glob E ρ → HE E ρ F a o.op → LookRel ρ g w → rd E g F o.op = some v →
    ∃ v', (execOp a.eval o).run P w = .ok (.value v') w ∧ v.rel ρ v'
  fresh : ∀ {ρ : Emb} {F : Fr} {a : Act} {o : Oper} {ob : AObj} {mk : Nat → AVal} (w : World), Glob E ρ → HE E ρ F a o.op → fresh E F o.op = some (ob, mk) →
    ∃ v' w' obj xe, (execOp a.eval o).run P w = .ok (.value v') w' ∧ w'.heap = w.heap.push obj ∧ w'.tape = w.tape ∧ w'.os = w.os ∧ w'.output = w.output ∧ ob.wr = true ∧
      ∀ (ρ' : Emb) (b : Nat), ρ.le ρ' → ρ' b = some ⟨w.heap.size, 0, xe, dv⟩ → (mk b).rel ρ' v' ∧ ob.rel ρ' ⟨w.heap.size, 0, xe, dv⟩ obj
  eff : ∀ {ρ : Emb} {F : Fr} {a : Act} {M : Mem} {w : World} {o : Oper} {v : AVal} {M' : Mem}, Rel E ρ M w → HE E ρ F a o.op → eff E F M o.op = some (v, M') → Free ρ M M' →
    ∃ r ρ' v' w', (execOp a.eval o).run P w = .ok r w' ∧ (r = .value v' ∨ (r = .skip ∧ v' = Go.undef)) ∧ v.rel ρ' v' ∧ Trans E ρ M w ρ' M' w'
  calls : ∀ {ρ : Emb} {F : Fr} {a : Act} {M : Mem} {w : World} {o : Oper} {c : Call} {v : AVal} {M' : Mem}, o.op = .call c → (∀ b, c.callee ≠ .builtin b) → Rel E ρ M w → HE E ρ F a o.op →
    callOp E call F M c = some (v, M') → Free ρ M M' → ∀ {K : Act → World → Prop} {Q : Exit → Act → World → Prop},
    (∀ ρ' v' w', v.rel ρ' v' → Trans E ρ M w ρ' M' w' → K (a.put o.dst v') w') → o.wp P a w K Q
  quiet : ∀ {ρ : Emb} {F : Fr} {a : Act} {w : World} {o : Oper} {c : Call}, o.op = .defer c → HE E ρ F a o.op → quietOp E F c = true → ∃ d, (execOp a.eval o).run P w = .ok (.defer d) w ∧ QuietD P d
  grow : ∀ {F : Fr} {M : Mem} {o : Op} {v : AVal} {M' : Mem}, doOp E call F M o = some (v, M') → Grow M M'

section
variable {E : Env} {P : Program} {call : CallF}

theorem cls_call {o : Op} {c : Call} (h : cls E o = .call c) : o = .call c ∧ ∀ b, c.callee ≠ .builtin b := by
  unfold cls at h
  split at h <;> try (cases h; done)
  · rename_i s d _
    cases hb : strToBytes E s d <;> cases hb2 : sliceConv E s d <;> simp [hb, hb2] at h
  · rename_i c'
    split at h
    · split at h <;> cases h
    · rename_i hb
      injection h with h
      subst h
      exact ⟨rfl, fun b hb' => hb b hb'⟩

/-- a new block -/
def Emb.with (ρ : Emb) (b : Nat) (l : Loc) : Emb := fun i => if i = b then some l else ρ i

theorem Emb.with_le {ρ : Emb} {b : Nat} {l : Loc} (h : ρ b = none) : ρ.le (ρ.with b l) := by
  intro i x hx
  unfold Emb.with
  by_cases hi : i = b
  · subst hi; rw [h] at hx; cases hx
  · simp [hi, hx]

theorem Trans.of_fresh {ρ : Emb} {M : Mem} {w w' : World} {ob : AObj} {obj : Obj} {xe : Nat} (hr : Rel E ρ M w) (hf : Free ρ M (M.add ob)) (hh : w'.heap = w.heap.push obj) (ht : w'.tape = w.tape) (ho : w'.os = w.os) (hu : w'.output = w.output)
    (hrel : ob.rel (ρ.with M.next ⟨w.heap.size, 0, xe, dv⟩) ⟨w.heap.size, 0, xe, dv⟩ obj) : Trans E ρ M w (ρ.with M.next ⟨w.heap.size, 0, xe, dv⟩) (M.add ob) w' := by
  have hn : ρ M.next = none := hf M.next (Nat.le_refl _) (by simp [Mem.add])
  have hle := Emb.with_le (l := ⟨w.heap.size, 0, xe, dv⟩) hn
  have hget (c : Nat) (hc : c < w.heap.size) : w'.heap[c]? = w.heap[c]? := by rw [hh, Array.getElem?_push]; simp [Nat.ne_of_lt hc]
  have hnew : w'.heap[w.heap.size]? = some obj := by rw [hh]; simp
  have hlt {c : Nat} {o : Obj} (h : w.heap[c]? = some o) : c < w.heap.size := (Array.getElem?_eq_some_iff.1 h).1
  refine ⟨by simp [Mem.add], fun b hb => ?_, ⟨fun g hg => ?_, ?_, ?_, ?_, ?_⟩, fun c hc _ => hget c hc, by rw [hh]; simp, ?_, ?_, ht, ho, hu⟩
  · unfold Emb.with
    have : b ≠ M.next := fun e => hb (by subst e; simp [Mem.add])
    simp [this]
  · obtain ⟨x, hx⟩ := hr.glob g hg
    exact ⟨x, hle _ _ hx⟩
  · have := hr.ngle; simp only [Mem.add]; omega
  · intro b o hb
    rw [Mem.get_add] at hb
    by_cases hbn : b = M.next
    · subst hbn; simp [Mem.add]
    · rw [if_neg hbn] at hb; have := hr.lt b o hb; simp only [Mem.add]; omega
  · intro b o hb
    rw [Mem.get_add] at hb
    by_cases hbn : b = M.next
    · rw [if_pos hbn] at hb
      injection hb with hb
      subst hb; subst hbn
      exact ⟨_, obj, by simp [Emb.with], hnew, hrel⟩
    · rw [if_neg hbn] at hb
      obtain ⟨l, o', h1, h2, h3⟩ := hr.heap b o hb
      exact ⟨l, o', hle _ _ h1, by rw [hget _ (hlt h2)]; exact h2, AObj.rel_mono hle h3⟩
  · intro b b' o o' l l' hb hb' hl hl' hc
    rw [Mem.get_add] at hb hb'
    unfold Emb.with at hl hl'
    by_cases hbn : b = M.next <;> by_cases hbn' : b' = M.next
    · rw [hbn, hbn']
    · rw [if_pos hbn] at hl; rw [if_neg hbn'] at hb' hl'
      injection hl with hl
      subst hl
      obtain ⟨l2, o2, h1, h2, _⟩ := hr.heap b' o' hb'
      rw [hl'] at h1
      injection h1 with h1
      subst h1
      have := hlt h2
      simp only at hc
      omega
    · rw [if_pos hbn'] at hl'; rw [if_neg hbn] at hb hl
      injection hl' with hl'
      subst hl'
      obtain ⟨l2, o2, h1, h2, _⟩ := hr.heap b o hb
      rw [hl] at h1
      injection h1 with h1
      subst h1
      have := hlt h2
      simp only at hc
      omega
    · rw [if_neg hbn] at hb hl; rw [if_neg hbn'] at hb' hl'
      exact hr.inj b b' o o' l l' hb hb' hl hl' hc
  · rintro c ⟨b, o, l, hb, hw, hl, hc⟩
    rw [Mem.get_add] at hb
    unfold Emb.with at hl
    by_cases hbn : b = M.next
    · rw [if_pos hbn] at hl; injection hl with hl; subst hl; right; simp only at hc; omega
    · rw [if_neg hbn] at hb hl
      exact .inl ⟨b, o, l, hb, hw, hl, hc⟩
  · rintro c ⟨b, o, l, hb, hl, hc⟩
    rw [Mem.get_add] at hb
    unfold Emb.with at hl
    by_cases hbn : b = M.next
    · rw [if_pos hbn] at hl; injection hl with hl; subst hl; right; simp only at hc; omega
    · rw [if_neg hbn] at hb hl
      exact .inl ⟨b, o, l, hb, hl, hc⟩

/-- An operation that is carried out, whatever its make. -/
theorem op_wp (S : Sound E P call) {ρ : Emb} {F : Fr} {a : Act} {M : Mem} {w : World} {o : Oper} {v : AVal} {M' : Mem} (hr : Rel E ρ M w) (he : HE E ρ F a o.op) (h : doOp E call F M o.op = some (v, M')) (hf : Free ρ M M')
    {K : Act → World → Prop} {Q : Exit → Act → World → Prop} (hK : ∀ ρ' v' w', v.rel ρ' v' → Trans E ρ M w ρ' M' w' → K (a.put o.dst v') w') : o.wp P a w K Q := by
  unfold doOp at h
  split at h
  · -- nothing of memory
    cases hv : Ev.rd E noLook F o.op with
    | none => simp [hv, retV] at h
    | some u =>
      simp [hv, retV] at h
      obtain ⟨rfl, rfl⟩ := h
      obtain ⟨v', hrun, hrel⟩ := S.rd (w := w) hr.glob he LookRel.none hv
      unfold Oper.wp
      rw [hrun]
      exact hK ρ v' w hrel (Trans.refl hr)
  · cases hv : Ev.rd E M.get F o.op with
    | none => simp [hv, retV] at h
    | some u =>
      simp [hv, retV] at h
      obtain ⟨rfl, rfl⟩ := h
      obtain ⟨v', hrun, hrel⟩ := S.rd hr.glob he (LookRel.of_rel hr) hv
      unfold Oper.wp
      rw [hrun]
      exact hK ρ v' w hrel (Trans.refl hr)
  · cases hv : Ev.fresh E F o.op with
    | none => simp [hv, retF] at h
    | some x =>
      obtain ⟨ob, mk⟩ := x
      simp [hv, retF] at h
      obtain ⟨rfl, rfl⟩ := h
      obtain ⟨v', w', obj, xe, hrun, hh, ht, ho, hu, hw, hrel⟩ := S.fresh w hr.glob he hv
      unfold Oper.wp
      rw [hrun]
      have hn : ρ M.next = none := hf M.next (Nat.le_refl _) (by simp [Mem.add])
      obtain ⟨h1, h2⟩ := hrel (ρ.with M.next ⟨w.heap.size, 0, xe, dv⟩) M.next (Emb.with_le hn) (by simp [Emb.with])
      exact hK _ v' w' h1 (Trans.of_fresh hr hf hh ht ho hu h2)
  · obtain ⟨r, ρ', v', w', hrun, hcase, hrel, ht⟩ := S.eff hr he h hf
    unfold Oper.wp
    rw [hrun]
    rcases hcase with rfl | ⟨rfl, rfl⟩
    · exact hK ρ' v' w' hrel ht
    · exact hK ρ' _ w' hrel ht
  · rename_i c hc
    obtain ⟨h1, h2⟩ := cls_call hc
    exact S.calls h1 h2 hr he h hf hK

theorem rel_bool {ρ : Emb} {x : AVal} {b : Bool} : x.rel ρ (.bool b) ↔ x = .bool b := by
  constructor
  · intro h
    cases x with
    | bool c => simp [AVal.rel] at h; rw [h]
    | ptr p => cases p <;> simp [AVal.rel] at h
    | slice p _ _ _ => cases p <;> simp [AVal.rel] at h
    | map p => cases p <;> simp [AVal.rel] at h
    | opq y => simp only [AVal.rel] at h; obtain ⟨_, _, _, h⟩ := h; simp [okOpq] at h
    | _ => simp [AVal.rel] at h
  · rintro rfl; simp [AVal.rel]

theorem yielded_eq {ρ : Emb} {F : Fr} {a : Act} {ops : Array Oper} (hF : ∀ t, (F.get t).rel ρ (a.tmps.getD t Go.undef)) (j : Nat) (want : Bool) :
    (yielded ops a.tmps j == some want) = (match ops.toList[j]? with
      | some oj => match oj.dst with
        | some t => match F.get t with
          | .bool b => b == want
          | _ => false
        | none => false
      | none => false) := by
  unfold yielded
  simp only [Array.getElem?_toList]
  cases h1 : ops[j]? with
  | none => simp
  | some oj =>
    simp only [Option.bind_some]
    cases h2 : oj.dst with
    | none => simp
    | some t =>
      simp only [Option.bind_some]
      have hr := hF t
      cases h3 : a.tmps[t]? with
      | none =>
        have : a.tmps.getD t Go.undef = Go.undef := by simp [Array.getD_eq_getD_getElem?, h3]
        rw [this] at hr
        cases h4 : F.get t with
        | bool b => rw [h4] at hr; simp [AVal.rel, Go.undef] at hr
        | _ => simp
      | some v =>
        have : a.tmps.getD t Go.undef = v := by simp [Array.getD_eq_getD_getElem?, h3]
        rw [this] at hr
        cases v with
        | bool b => rw [rel_bool] at hr; simp [hr]
        | _ =>
          cases h4 : F.get t with
          | bool b => rw [h4] at hr; simp [AVal.rel] at hr
          | _ => simp

theorem wantedE_eq {ρ : Emb} {F : Fr} {a : Act} {ops : Array Oper} (hF : ∀ t, (F.get t).rel ρ (a.tmps.getD t Go.undef)) (o : Oper) : Region.wanted o (yielded ops a.tmps) = wantedE ops.toList F o := by
  unfold Region.wanted wantedE
  cases o.guard with
  | none => rfl
  | some g => exact yielded_eq hF g.1 g.2

/-- One operation of a region. -/
theorem step_wp (S : Sound E P call) {ρ : Emb} {F : Fr} {a : Act} {M : Mem} {w : World} {ops : Array Oper} {o : Oper} {v : AVal} {M' : Mem} (hr : Rel E ρ M w) (hF : FrRel ρ F a) (h : stepOp E call ops.toList o F M = some (v, M')) (hf : Free ρ M M')
    {K : Act → World → Prop} {Q : Exit → Act → World → Prop} (hK : ∀ ρ' v' w', v.rel ρ' v' → Trans E ρ M w ρ' M' w' → K (a.put o.dst v') w') :
    if Region.wanted o (yielded ops a.tmps) then o.wp P a w K Q ∨ (o.asks P a w ∧ LetsOut Q) else K (a.put o.dst Go.undef) w := by
  rw [wantedE_eq hF.get]
  unfold stepOp at h
  cases hw : wantedE ops.toList F o with
  | true =>
    simp only [hw, cond_true] at h
    simp only [if_true]
    exact .inl (op_wp S hr (HE.of_frame hr.glob hF) h hf hK)
  | false =>
    simp only [hw, cond_false, Option.some.injEq, Prod.mk.injEq] at h
    obtain ⟨rfl, rfl⟩ := h
    simp only [Bool.false_eq_true, if_false]
    exact hK ρ _ w undef_rel (Trans.refl hr)

theorem grow_step (S : Sound E P call) {ops : List Oper} {o : Oper} {F : Fr} {M M' : Mem} {v : AVal} (h : stepOp E call ops o F M = some (v, M')) : Grow M M' := by
  unfold stepOp at h
  cases hw : wantedE ops F o with
  | true => simp only [hw, cond_true] at h; exact S.grow h
  | false =>
    simp only [hw, cond_false, Option.some.injEq, Prod.mk.injEq] at h
    obtain ⟨rfl, rfl⟩ := h
    exact Grow.refl M

theorem grow_runOps (S : Sound E P call) {ops : List Oper} : ∀ (l : List Oper) (F : Fr) (M : Mem) (F' : Fr) (M' : Mem), runOps E call ops l F M = some (F', M') → Grow M M'
  | [], F, M, F', M', h => by simp [runOps] at h; obtain ⟨rfl, rfl⟩ := h; exact Grow.refl M
  | o :: l, F, M, F', M', h => by
    simp only [runOps] at h
    cases h1 : stepOp E call ops o F M with
    | none => simp [h1] at h
    | some x =>
      obtain ⟨v, M₁⟩ := x
      simp only [h1] at h
      exact (grow_step S h1).trans (grow_runOps S l _ _ _ _ h)

theorem put_defers (a : Act) (d : Option Tmp) (v : Value) : (a.put d v).defers = a.defers := by cases d <;> rfl

/-- A region in the order of its text. -/
theorem runOps_wp (S : Sound E P call) {ops : Array Oper} {Q : Exit → Act → World → Prop} : ∀ (l : List Oper) (k : Nat), ops.toList.drop k = l → ∀ (F : Fr) (M : Mem) (F' : Fr) (M' : Mem), runOps E call ops.toList l F M = some (F', M') →
    ∀ (ρ : Emb) (a : Act) (w : World), Rel E ρ M w → FrRel ρ F a → Free ρ M M' →
    (∀ ρ' a' w', FrRel ρ' F' a' → a'.defers = a.defers → Trans E ρ M w ρ' M' w' → Q .normal a' w') → wpOps P ops Q (List.range' k l.length) a w
  | [], k, _, F, M, F', M', h, ρ, a, w, hr, hF, hf, hQ => by
    simp [runOps] at h
    obtain ⟨rfl, rfl⟩ := h
    exact hQ ρ a w hF rfl (Trans.refl hr)
  | o :: l, k, hl, F, M, F', M', h, ρ, a, w, hr, hF, hf, hQ => by
    simp only [runOps] at h
    cases h1 : stepOp E call ops.toList o F M with
    | none => simp [h1] at h
    | some x =>
      obtain ⟨v, M₁⟩ := x
      simp only [h1] at h
      have hg := grow_runOps S l _ _ _ _ h
      have hk : ops[k]? = some o := by
        have := congrArg (·[0]?) hl
        simpa using this
      have hl' : ops.toList.drop (k + 1) = l := by
        have := congrArg List.tail hl
        simpa [List.tail_drop] using this
      simp only [List.length_cons, List.range'_succ, wpOps_cons]
      unfold wpOp
      simp only [hk]
      refine step_wp S hr hF h1 (hf.left hg.nxt) fun ρ' v' w' hv ht => ?_
      have hle := ht.le (hf.left hg.nxt)
      refine runOps_wp S l (k + 1) hl' _ _ _ _ h ρ' _ w' ht.rel ((hF.mono hle).put hv o.dst) (hf.right ht) fun ρ₂ a₂ w₂ hF₂ hd ht₂ => ?_
      exact hQ ρ₂ a₂ w₂ hF₂ (hd.trans (put_defers a o.dst v')) (ht.trans ht₂)

theorem bif_some {α : Type} {b : Bool} {x : Option α} {y : α} (h : (bif b then x else none) = some y) : b = true ∧ x = some y := by
  cases b with
  | true => exact ⟨rfl, h⟩
  | false => cases h

theorem put_quiet {a : Act} {d : Option Tmp} {v : Value} : Qu P a (a.put d v) := Qu.of_eq (put_defers a d v)

/-- One operation of a region that defers. -/
theorem stepD_wp (S : Sound E P call) {ρ : Emb} {F : Fr} {a : Act} {M : Mem} {w : World} {ops : Array Oper} {o : Oper} {v : AVal} {M' : Mem} (hr : Rel E ρ M w) (hF : FrRel ρ F a) (h : stepOpD E call ops.toList o F M = some (v, M')) (hf : Free ρ M M')
    {K : Act → World → Prop} {Q : Exit → Act → World → Prop} (hK : ∀ ρ' a' w', FrRel ρ' (F.put o.dst v) a' → Qu P a a' → Trans E ρ M w ρ' M' w' → K a' w') :
    if Region.wanted o (yielded ops a.tmps) then o.wp P a w K Q ∨ (o.asks P a w ∧ LetsOut Q) else K (a.put o.dst Go.undef) w := by
  have plain (h : stepOp E call ops.toList o F M = some (v, M')) : if Region.wanted o (yielded ops a.tmps) then o.wp P a w K Q ∨ (o.asks P a w ∧ LetsOut Q) else K (a.put o.dst Go.undef) w :=
    step_wp S hr hF h hf fun ρ' v' w' hv ht => hK ρ' _ w' ((hF.mono (ht.le hf)).put hv o.dst) put_quiet ht
  unfold stepOpD at h
  split at h
  · rename_i c hc
    rw [wantedE_eq hF.get]
    cases hw : wantedE ops.toList F o with
    | true =>
      simp only [hw, cond_true] at h
      obtain ⟨hq, h⟩ := bif_some h
      simp only [Option.some.injEq, Prod.mk.injEq] at h
      obtain ⟨rfl, rfl⟩ := h
      obtain ⟨d, h1, h2⟩ := S.quiet (w := w) hc (HE.of_frame hr.glob hF) hq
      simp only [if_true]
      refine .inl ?_
      unfold Oper.wp
      rw [h1, Oper.upon_defer]
      refine hK ρ _ w ?_ (fun q d' hd' => ?_) (Trans.refl hr)
      · have hF' : FrRel ρ F { a with defers := d :: a.defers } := ⟨hF.size, hF.get⟩
        exact hF'.put undef_rel o.dst
      · rw [put_defers] at hd'
        rcases List.mem_cons.1 hd' with rfl | hd'
        · exact h2
        · exact q _ hd'
    | false =>
      simp only [hw, cond_false, Option.some.injEq, Prod.mk.injEq] at h
      obtain ⟨rfl, rfl⟩ := h
      simp only [Bool.false_eq_true, if_false]
      exact hK ρ _ w (hF.put undef_rel o.dst) put_quiet (Trans.refl hr)
  · exact plain h

theorem growD_step (S : Sound E P call) {ops : List Oper} {o : Oper} {F : Fr} {M M' : Mem} {v : AVal} (h : stepOpD E call ops o F M = some (v, M')) : Grow M M' := by
  unfold stepOpD at h
  split at h
  · cases hw : wantedE ops F o with
    | true =>
      simp only [hw, cond_true] at h
      have h := (bif_some h).2
      simp only [Option.some.injEq, Prod.mk.injEq] at h
      obtain ⟨rfl, rfl⟩ := h
      exact Grow.refl M
    | false =>
      simp only [hw, cond_false, Option.some.injEq, Prod.mk.injEq] at h
      obtain ⟨rfl, rfl⟩ := h
      exact Grow.refl M
  · exact grow_step S h

theorem grow_runOpsD (S : Sound E P call) {ops : List Oper} : ∀ (l : List Oper) (F : Fr) (M : Mem) (F' : Fr) (M' : Mem), runOpsD E call ops l F M = some (F', M') → Grow M M'
  | [], F, M, F', M', h => by simp [runOpsD] at h; obtain ⟨rfl, rfl⟩ := h; exact Grow.refl M
  | o :: l, F, M, F', M', h => by
    simp only [runOpsD] at h
    cases h1 : stepOpD E call ops o F M with
    | none => simp [h1] at h
    | some x =>
      obtain ⟨v, M₁⟩ := x
      simp only [h1] at h
      exact (growD_step S h1).trans (grow_runOpsD S l _ _ _ _ h)

/-- A region that defers, in the order of its text. -/
theorem runOpsD_wp (S : Sound E P call) {ops : Array Oper} {Q : Exit → Act → World → Prop} : ∀ (l : List Oper) (k : Nat), ops.toList.drop k = l → ∀ (F : Fr) (M : Mem) (F' : Fr) (M' : Mem), runOpsD E call ops.toList l F M = some (F', M') →
    ∀ (ρ : Emb) (a : Act) (w : World), Rel E ρ M w → FrRel ρ F a → Free ρ M M' →
    (∀ ρ' a' w', FrRel ρ' F' a' → Qu P a a' → Trans E ρ M w ρ' M' w' → Q .normal a' w') → wpOps P ops Q (List.range' k l.length) a w
  | [], k, _, F, M, F', M', h, ρ, a, w, hr, hF, hf, hQ => by
    simp [runOpsD] at h
    obtain ⟨rfl, rfl⟩ := h
    exact hQ ρ a w hF (Qu.of_eq rfl) (Trans.refl hr)
  | o :: l, k, hl, F, M, F', M', h, ρ, a, w, hr, hF, hf, hQ => by
    simp only [runOpsD] at h
    cases h1 : stepOpD E call ops.toList o F M with
    | none => simp [h1] at h
    | some x =>
      obtain ⟨v, M₁⟩ := x
      simp only [h1] at h
      have hg := grow_runOpsD S l _ _ _ _ h
      have hk : ops[k]? = some o := by
        have := congrArg (·[0]?) hl
        simpa using this
      have hl' : ops.toList.drop (k + 1) = l := by
        have := congrArg List.tail hl
        simpa [List.tail_drop] using this
      simp only [List.length_cons, List.range'_succ, wpOps_cons]
      unfold wpOp
      simp only [hk]
      refine stepD_wp S hr hF h1 (hf.left hg.nxt) fun ρ' a' w' hF' hq ht => ?_
      refine runOpsD_wp S l (k + 1) hl' _ _ _ _ h ρ' a' w' ht.rel hF' (hf.right ht) fun ρ₂ a₂ w₂ hF₂ hd ht₂ => ?_
      exact hQ ρ₂ a₂ w₂ hF₂ (hq.trans hd) (ht.trans ht₂)

end
end Go.Ev
