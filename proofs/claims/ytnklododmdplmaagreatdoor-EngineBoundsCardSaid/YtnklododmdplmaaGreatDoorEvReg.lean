/- A part of the proof that an evaluator of the machine's code is sound (EvReg). No conditions. -/
import Derived.Test.YtnklododmdplmaaGreatDoorEvDraw
namespace Go.Ev

theorem Fr.n_put (F : Fr) (d : Option Nat) (v : AVal) : (F.put d v).n = F.n := by
  cases d with
  | none => rfl
  | some d => simp only [Fr.put]; cases Nat.blt d F.n <;> rfl

theorem Fr.get_put (F : Fr) (d : Option Nat) (v : AVal) (t : Nat) : (F.put d v).get t = if d = some t ∧ t < F.n then v else F.get t := by
  cases d with
  | none => simp [Fr.put]
  | some d =>
    by_cases h : d < F.n
    · simp only [Fr.put, blt_of h, cond_true, Fr.get, Trie.get_set]
      by_cases ht : t = d
      · subst ht; simp [h]
      · have : ¬ d = t := fun e => ht e.symm
        simp [ht, this]
    · simp only [Fr.put, blt_no h, cond_false]
      by_cases ht : t = d
      · subst ht; simp [h]
      · have : ¬ d = t := fun e => ht e.symm
        simp [this]

theorem ev_rel_at {E : Env} {ρ : Emb} {F : Fr} {a : Act} (hg : Glob E ρ) {x : Operand} {v : AVal} (hF : ∀ t, x = .tmp t → (F.get t).rel ρ (a.tmps.getD t Go.undef)) (h : ev E F x = some v) : v.rel ρ (a.eval x) := by
  cases x with
  | tmp t => simp [ev] at h; subst h; exact hF t rfl
  | const c => exact ofVal_rel 4 c v h
  | global g =>
    simp only [ev] at h
    cases hb : Nat.blt g E.ng with
    | false => simp [hb] at h
    | true =>
      simp [hb] at h; subst h
      obtain ⟨x, hx⟩ := hg g (of_blt hb)
      simp only [AVal.rel, Act.eval]
      exact ⟨_, hx, by simp⟩
  | func f =>
    simp [ev] at h; subst h
    simp only [AVal.rel, Act.eval]
    exact ⟨#[], #[], rfl, relL_nil, relL_nil⟩

theorem wantedE_eq_at {ρ : Emb} {F : Fr} {a : Act} {ops : Array Oper} (o : Oper) (hF : ∀ t, t ∈ o.looksAt ops → (F.get t).rel ρ (a.tmps.getD t Go.undef)) : Region.wanted o (yielded ops a.tmps) = wantedE ops.toList F o := by
  unfold Region.wanted wantedE
  cases hgd : o.guard with
  | none => rfl
  | some g =>
    obtain ⟨j, want⟩ := g
    simp only
    unfold yielded
    simp only [Array.getElem?_toList]
    cases h1 : ops[j]? with
    | none => simp
    | some oj =>
      simp only [Option.bind_some]
      cases h2 : oj.dst with
      | none => simp
      | some t =>
        simp only [Option.bind_some]
        have hr := hF t (by simp [Oper.looksAt, hgd, h1, h2])
        cases h3 : a.tmps[t]? with
        | none =>
          have : a.tmps.getD t Go.undef = Go.undef := by simp [Array.getD_eq_getD_getElem?, h3]
          rw [this] at hr
          cases h4 : F.get t with
          | bool b => rw [h4] at hr; simp [AVal.rel, Go.undef] at hr
          | _ => simp
        | some v =>
          have : a.tmps.getD t Go.undef = v := by simp [Array.getD_eq_getD_getElem?, h3]
          rw [this] at hr
          cases v with
          | bool b => rw [rel_bool] at hr; simp [hr]
          | _ =>
            cases h4 : F.get t with
            | bool b => rw [h4] at hr; simp [AVal.rel] at hr
            | _ => simp

section
variable {E : Env} {P : Program} {call : CallF} {ops : Array Oper}

def Strong (R : Run E call ops) (i : Nat) : Prop := ∃ o, ops[i]? = some o ∧ wantedE ops.toList (R.Fs i) o = true ∧ (cls E o.op = .eff ∨ ∃ c, cls E o.op = .call c)
def Frsh (R : Run E call ops) (i : Nat) : Prop := ∃ o, ops[i]? = some o ∧ wantedE ops.toList (R.Fs i) o = true ∧ cls E o.op = .fresh

theorem get_of_lt {ops : Array Oper} {i : Nat} (hi : i < ops.size) : ∃ o, ops[i]? = some o := ⟨ops[i], by simp [hi]⟩

theorem Run.plainStep (R : Run E call ops) {i : Nat} (hi : i < ops.size) (hs : ¬ Strong R i) (hf : ¬ Frsh R i) : R.Ms (i + 1) = R.Ms i := by
  obtain ⟨o, ho⟩ := get_of_lt hi
  have h := (R.step i o ho).1
  unfold stepOp at h
  cases hw : wantedE ops.toList (R.Fs i) o with
  | false => simp only [hw, cond_false, Option.some.injEq, Prod.mk.injEq] at h; exact h.2.symm
  | true =>
    simp only [hw, cond_true] at h
    unfold doOp at h
    split at h
    · cases hv : Ev.rd E noLook (R.Fs i) o.op with
      | none => simp [hv, retV] at h
      | some u => simp [hv, retV] at h; exact h.2.symm
    · cases hv : Ev.rd E (R.Ms i).get (R.Fs i) o.op with
      | none => simp [hv, retV] at h
      | some u => simp [hv, retV] at h; exact h.2.symm
    · rename_i hc; exact absurd ⟨o, ho, hw, hc⟩ hf
    · rename_i hc; exact absurd ⟨o, ho, hw, .inl hc⟩ hs
    · rename_i c hc; exact absurd ⟨o, ho, hw, .inr ⟨c, hc⟩⟩ hs

theorem Run.freshStep (R : Run E call ops) {i : Nat} (hf : Frsh R i) : ∃ o ob mk, ops[i]? = some o ∧ wantedE ops.toList (R.Fs i) o = true ∧ Ev.fresh E (R.Fs i) o.op = some (ob, mk) ∧ R.vs i = mk (R.Ms i).next ∧ R.Ms (i + 1) = (R.Ms i).add ob := by
  obtain ⟨o, ho, hw, hc⟩ := hf
  have h := (R.step i o ho).1
  unfold stepOp at h
  simp only [hw, cond_true] at h
  unfold doOp at h
  simp only [hc] at h
  cases hv : Ev.fresh E (R.Fs i) o.op with
  | none => simp [hv, retF] at h
  | some x =>
    obtain ⟨ob, mk⟩ := x
    simp [hv, retF] at h
    exact ⟨o, ob, mk, ho, hw, hv, h.1.symm, h.2.symm⟩

theorem Run.grow (R : Run E call ops) (S : Sound E P call) {i : Nat} (hi : i < ops.size) : Grow (R.Ms i) (R.Ms (i + 1)) := by
  obtain ⟨o, ho⟩ := get_of_lt hi
  exact grow_step S (R.step i o ho).1

theorem Run.grows (R : Run E call ops) (S : Sound E P call) {i : Nat} : ∀ (j : Nat), i + j ≤ ops.size → Grow (R.Ms i) (R.Ms (i + j))
  | 0, _ => Grow.refl _
  | j + 1, h => (R.grows S j (by omega)).trans (R.grow S (by omega))

theorem Run.next_le (R : Run E call ops) (S : Sound E P call) {i j : Nat} (h : i ≤ j) (hj : j ≤ ops.size) : (R.Ms i).next ≤ (R.Ms j).next := by
  have := (R.grows S (i := i) (j - i) (by omega)).nxt
  rwa [show i + (j - i) = j by omega] at this

theorem Run.wf (R : Run E call ops) (S : Sound E P call) (h0 : WF (R.Ms 0)) {i : Nat} (hi : i ≤ ops.size) : WF (R.Ms i) := by
  have := (R.grows S (i := 0) i (by omega)).wf h0
  rwa [Nat.zero_add] at this

open Classical in
/-- The memory of the p-th state, and what the operations of T have laid since. -/
noncomputable def gT (R : Run E call ops) (T : Nat → Prop) (p : Nat) : Nat → Nat → Option AObj
  | 0, b => (R.Ms p).get b
  | t + 1, b => if T (p + t) ∧ Frsh R (p + t) ∧ b = (R.Ms (p + t)).next then (R.Ms (p + t + 1)).get b else gT R T p t b

theorem gT_old (R : Run E call ops) (S : Sound E P call) (h0 : WF (R.Ms 0)) {T : Nat → Prop} {p : Nat} {b : Nat} {o : AObj} (h : (R.Ms p).get b = some o) : ∀ (t : Nat), p + t ≤ ops.size → gT R T p t b = some o
  | 0, _ => h
  | t + 1, ht => by
    have h1 := R.wf S h0 (i := p) (by omega) b o h
    have h2 := R.next_le S (i := p) (j := p + t) (by omega) (by omega)
    simp only [gT]
    rw [if_neg (by omega)]
    exact gT_old R S h0 h t (by omega)

theorem gT_new (R : Run E call ops) (S : Sound E P call) {T : Nat → Prop} {p i : Nat} (hT : T (p + i)) (hf : Frsh R (p + i)) : ∀ (t : Nat), i < t → p + t ≤ ops.size → gT R T p t (R.Ms (p + i)).next = (R.Ms (p + i + 1)).get (R.Ms (p + i)).next
  | 0, h, _ => by omega
  | t + 1, h, ht => by
    simp only [gT]
    by_cases hi : i = t
    · subst hi; rw [if_pos ⟨hT, hf, rfl⟩]
    · obtain ⟨o, ob, mk, _, _, _, _, hM⟩ := R.freshStep hf
      have h2 := R.next_le S (i := p + i + 1) (j := p + t) (by omega) (by omega)
      have h3 : (R.Ms (p + i + 1)).next = (R.Ms (p + i)).next + 1 := by rw [hM]; rfl
      rw [if_neg (by omega)]
      exact gT_new R S hT hf t (by omega) (by omega)

theorem gT_inv (R : Run E call ops) {T : Nat → Prop} {p b : Nat} {o : AObj} : ∀ (t : Nat), gT R T p t b = some o →
    (R.Ms p).get b = some o ∨ ∃ i, i < t ∧ T (p + i) ∧ Frsh R (p + i) ∧ b = (R.Ms (p + i)).next ∧ (R.Ms (p + i + 1)).get b = some o
  | 0, h => .inl h
  | t + 1, h => by
    simp only [gT] at h
    split at h
    · rename_i hc; exact .inr ⟨t, by omega, hc.1, hc.2.1, hc.2.2, h⟩
    · rcases gT_inv R t h with h1 | ⟨i, hi, h1⟩
      · exact .inl h1
      · exact .inr ⟨i, by omega, h1⟩

theorem gT_text (R : Run E call ops) {p : Nat} : ∀ (t : Nat), p + t ≤ ops.size → (∀ i, p ≤ i → i < p + t → ¬ Strong R i) → ∀ b, (R.Ms (p + t)).get b = gT R (fun _ => True) p t b
  | 0, _, _, b => rfl
  | t + 1, ht, hs, b => by
    have ih := gT_text R t (by omega) (fun i h1 h2 => hs i h1 (by omega)) b
    simp only [gT]
    by_cases hf : Frsh R (p + t)
    · obtain ⟨o, ob, mk, _, _, _, _, hM⟩ := R.freshStep hf
      by_cases hb : b = (R.Ms (p + t)).next
      · rw [if_pos ⟨trivial, hf, hb⟩]; rfl
      · rw [if_neg (fun h => hb h.2.2), ← ih, show p + (t + 1) = p + t + 1 by omega, hM, Mem.get_add, if_neg hb]
    · rw [if_neg (fun h => hf h.2.1), ← ih, show p + (t + 1) = p + t + 1 by omega, R.plainStep (by omega) (hs _ (by omega) (by omega)) hf]

/-! frames -/

def dstOf (ops : Array Oper) (i : Nat) : Option Nat := (ops[i]?).bind (·.dst)

open Classical in
noncomputable def cur (R : Run E call ops) (T : Nat → Prop) : Nat → Fr
  | 0 => R.Fs 0
  | i + 1 => if T i then (cur R T i).put (dstOf ops i) (R.vs i) else cur R T i

theorem cur_n (R : Run E call ops) (T : Nat → Prop) : ∀ i, (cur R T i).n = (R.Fs 0).n
  | 0 => rfl
  | i + 1 => by simp only [cur]; split <;> simp [Fr.n_put, cur_n R T i]

theorem cur_all (R : Run E call ops) : ∀ i, i ≤ ops.size → cur R (fun _ => True) i = R.Fs i
  | 0, _ => rfl
  | i + 1, h => by
    obtain ⟨o, ho⟩ := get_of_lt (show i < ops.size by omega)
    simp only [cur, if_true, cur_all R i (by omega), (R.step i o ho).2, dstOf, ho, Option.bind_some]

theorem cur_congr (R : Run E call ops) {T T' : Nat → Prop} {t : Nat} : ∀ k, (∀ i, i < k → dstOf ops i = some t → (T i ↔ T' i)) → (cur R T k).get t = (cur R T' k).get t
  | 0, _ => rfl
  | k + 1, h => by
    have ih := cur_congr R k (fun i hi => h i (by omega))
    simp only [cur]
    by_cases hd : dstOf ops k = some t
    · have := h k (by omega) hd
      by_cases hT : T k
      · simp only [if_pos hT, if_pos (this.1 hT), Fr.get_put, hd, cur_n, ih]
      · simp only [if_neg hT, if_neg (fun h' => hT (this.2 h')), ih]
    · split <;> split <;> simp [Fr.get_put, hd, ih]

theorem cur_skip (R : Run E call ops) {T : Nat → Prop} {t j : Nat} : ∀ d, (∀ i, j ≤ i → i < j + d → dstOf ops i = some t → ¬ T i) → (cur R T (j + d)).get t = (cur R T j).get t
  | 0, _ => rfl
  | d + 1, h => by
    have ih := cur_skip R d (fun i h1 h2 => h i h1 (by omega))
    rw [show j + (d + 1) = j + d + 1 by omega]
    simp only [cur]
    split
    · rename_i hT
      rw [Fr.get_put, if_neg (fun h' => h (j + d) (by omega) (by omega) h'.1 hT), ih]
    · exact ih

end
end Go.Ev
