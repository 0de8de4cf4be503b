/- A part of the proof that an evaluator of the machine's code is sound (EvReg3). No conditions. -/
import Derived.Test.YtnklododmdplmaaGreatDoorEvReg2
namespace Go.Ev
section
variable {E : Env} {P : Program} {call : CallF} {ops : Array Oper}
variable {R : Run E call ops} {before : Nat → Nat → Prop} {ρ₀ : Emb} {a₀ : Act} {w₀ : World} {T : Nat → Prop} {ρ : Emb} {p : Nat} {a : Act} {w : World} {j : Nat} {oj : Oper}

/-- behind a new block -/
theorem Inv.laid (I : Inv E R ρ₀ a₀ w₀ T ρ p a w) (S : Sound E P call) (h0 : WF (R.Ms 0)) (hF : Fits E R before) (hoj : ops[j]? = some oj) (hj : ¬ T j) (hd : ∀ e ∈ edgesOf oj, T e) (hs : ¬ Strong R j) (hf : Frsh R j)
    {ob : AObj} {obj : Obj} {xe : Nat} {v' : Value} {w' : World} (hM : R.Ms (j + 1) = (R.Ms j).add ob) (hh : w'.heap = w.heap.push obj) (ht : w'.tape = w.tape) (ho : w'.os = w.os) (hu : w'.output = w.output)
    (hv : (R.vs j).rel (ρ.with (R.Ms j).next ⟨w.heap.size, 0, xe, dv⟩) v') (hrel : ob.rel (ρ.with (R.Ms j).next ⟨w.heap.size, 0, xe, dv⟩) ⟨w.heap.size, 0, xe, dv⟩ obj) :
    Inv E R ρ₀ a₀ w₀ (fun i => T i ∨ i = j) (ρ.with (R.Ms j).next ⟨w.heap.size, 0, xe, dv⟩) p (a.put oj.dst v') w' := by
  have hjs := lt_of_get hoj
  have hpj := I.p_le hF hoj hj (.inr hf)
  have hnx : (R.Ms (j + 1)).next = (R.Ms j).next + 1 := by rw [hM]; rfl
  have hnone : ρ (R.Ms j).next = none := I.dom j hjs hj _ (Nat.le_refl _) (by omega)
  have hle := Emb.with_le (l := ⟨w.heap.size, 0, xe, dv⟩) hnone
  have hget (c : Nat) (hc : c < w.heap.size) : w'.heap[c]? = w.heap[c]? := by rw [hh, Array.getElem?_push]; simp [Nat.ne_of_lt hc]
  have hnew : w'.heap[w.heap.size]? = some obj := by rw [hh]; simp
  have hlt {c : Nat} {o : Obj} (h : w.heap[c]? = some o) : c < w.heap.size := lt_of_get h
  have hinv : ∀ b o, gT R (fun i => T i ∨ i = j) p (ops.size - p) b = some o → (b = (R.Ms j).next ∧ o = ob) ∨ (b ≠ (R.Ms j).next ∧ gT R T p (ops.size - p) b = some o) := by
    intro b o h
    by_cases hb : b = (R.Ms j).next
    · left
      refine ⟨hb, ?_⟩
      have h1 := gT_new R S (T := fun i => T i ∨ i = j) (p := p) (i := j - p) (.inr (by omega)) (by rw [show p + (j - p) = j by omega]; exact hf) (ops.size - p) (by omega) (by omega)
      rw [show p + (j - p) = j by omega, ← hb, h, hM, Mem.get_add, if_pos hb] at h1
      exact (Option.some.inj h1)
    · right
      refine ⟨hb, ?_⟩
      rcases gT_inv R _ h with h1 | ⟨i, hi, hT, hfi, hbi, hoi⟩
      · exact gT_old R S h0 h1 _ (by omega)
      · have hTi : T (p + i) := hT.resolve_right fun e => by
          rw [e] at hbi
          exact hb hbi
        rw [hbi, gT_new R S hTi hfi _ (by omega) (by omega), ← hbi]
        exact hoi
  have hwith (b : Nat) (hb : b ≠ (R.Ms j).next) : (ρ.with (R.Ms j).next ⟨w.heap.size, 0, xe, dv⟩) b = ρ b := by unfold Emb.with; rw [if_neg hb]
  have hself : (ρ.with (R.Ms j).next ⟨w.heap.size, 0, xe, dv⟩) (R.Ms j).next = some ⟨w.heap.size, 0, xe, dv⟩ := by unfold Emb.with; rw [if_pos rfl]
  have h0j := R.next_le S (i := 0) (j := j) (by omega) (by omega)
  have hjn := R.next_le S (i := j + 1) (j := ops.size) (by omega) (by omega)
  refine ⟨I.closed' hoj hd, I.plo.imp_right fun ⟨q, h1, h2, h3⟩ => ⟨q, h1, .inl h2, h3⟩, fun i h1 h2 h3 => ?_, I.ple, I.frame_put hF hoj hj hle hv, by rw [put_defers]; exact I.defers, fun g hg => ?_, ?_, ?_, ?_, ?_, ?_, ?_, ?_, ?_, ht.trans I.tape, ho.trans I.os, hu.trans I.output⟩
  · rcases h3 with h3 | rfl
    · exact I.phi i h1 h2 h3
    · exact hs
  · obtain ⟨x, hx⟩ := I.glob g hg
    exact ⟨x, hle _ _ hx⟩
  · intro b o h
    rcases hinv b o h with ⟨rfl, rfl⟩ | ⟨hb, h⟩
    · exact ⟨_, obj, hself, hnew, hrel⟩
    · obtain ⟨l, ob', h1, h2, h3⟩ := I.heap b o h
      exact ⟨l, ob', hle _ _ h1, by rw [hget _ (hlt h2)]; exact h2, AObj.rel_mono hle h3⟩
  · intro b b' o o' l l' h h' hl hl' hc
    rcases hinv b o h with ⟨hb, _⟩ | ⟨hb, h⟩ <;> rcases hinv b' o' h' with ⟨hb', _⟩ | ⟨hb', h'⟩
    · rw [hb, hb']
    · rw [hb, hself] at hl
      rw [hwith b' hb'] at hl'
      injection hl with hl
      subst hl
      obtain ⟨l2, o2, h1, h2, _⟩ := I.heap b' o' h'
      rw [hl'] at h1
      injection h1 with h1
      subst h1
      have := hlt h2
      simp only at hc
      omega
    · rw [hb', hself] at hl'
      rw [hwith b hb] at hl
      injection hl' with hl'
      subst hl'
      obtain ⟨l2, o2, h1, h2, _⟩ := I.heap b o h
      rw [hl] at h1
      injection h1 with h1
      subst h1
      have := hlt h2
      simp only at hc
      omega
    · rw [hwith b hb] at hl
      rw [hwith b' hb'] at hl'
      exact I.inj b b' o o' l l' h h' hl hl' hc
  · intro i hi hT b h1 h2
    have hne : i ≠ j := fun e => hT (.inr e)
    rw [hwith b (fun e => ?_)]
    · exact I.dom i hi (fun h => hT (.inl h)) b h1 h2
    · subst e
      by_cases hlt' : i < j
      · have := R.next_le S (i := i + 1) (j := j) (by omega) (by omega); omega
      · have := R.next_le S (i := j + 1) (j := i) (by omega) (by omega); omega
  · intro b hb
    rw [hwith b (fun e => hb (by subst e; omega))]
    exact I.ext b hb
  · intro c hc hw
    have := I.size
    rw [hget c (by omega)]
    exact I.keep c hc hw
  · have := I.size; rw [hh]; simp; omega
  · intro b o l h hw hl
    rcases hinv b o h with ⟨hb, _⟩ | ⟨hb, h⟩
    · rw [hb, hself] at hl; injection hl with hl; subst hl; right; exact I.size
    · rw [hwith b hb] at hl; exact I.wsub b o l h hw hl
  · intro b o l h hl
    rcases hinv b o h with ⟨hb, _⟩ | ⟨hb, h⟩
    · rw [hb, hself] at hl; injection hl with hl; subst hl; right; exact I.size
    · rw [hwith b hb] at hl; exact I.lsub b o l h hl

/-- the memory ahead of a write or a call -/
theorem Inv.part (I : Inv E R ρ₀ a₀ w₀ T ρ p a w) (S : Sound E P call) (h0 : WF (R.Ms 0)) (hng : E.ng ≤ (R.Ms 0).next) (hF : Fits E R before) (hoj : ops[j]? = some oj) (hj : ¬ T j) (hd : ∀ e ∈ edgesOf oj, T e) (hs : Strong R j) :
    (∀ b o, (R.Ms j).get b = some o → gT R T p (ops.size - p) b = some o) ∧ Rel E ρ (R.Ms j) w := by
  have hjs := lt_of_get hoj
  have hpj := I.p_le hF hoj hj (.inl hs)
  have hin : ∀ b o, (R.Ms j).get b = some o → gT R T p (ops.size - p) b = some o := by
    intro b o h
    have h1 := gT_text R (p := p) (j - p) (by omega) (fun i h1 h2 hi => by
      have hT : T i := I.came hF hoj hd (hF.ordered (show i < j by omega) (.inl hi) hs)
      exact I.phi i h1 (by omega) hT hi) b
    rw [show p + (j - p) = j by omega, h] at h1
    rcases gT_inv R _ h1.symm with h2 | ⟨i, hi, _, hf, hb, ho⟩
    · exact gT_old R S h0 h2 _ (by omega)
    · have hT : T (p + i) := I.came hF hoj hd (hF.ordered (show p + i < j by omega) (.inr hf) hs)
      rw [hb, gT_new R S hT hf _ (by omega) (by omega), ← hb]
      exact ho
  have h0j := R.next_le S (i := 0) (j := j) (by omega) (by omega)
  exact ⟨hin, ⟨I.glob, by omega, R.wf S h0 (by omega), fun b o h => I.heap b o (hin b o h), fun b b' o o' l l' h h' => I.inj b b' o o' l l' (hin b o h) (hin b' o' h')⟩⟩

/-- behind a write or a call -/
theorem Inv.done (I : Inv E R ρ₀ a₀ w₀ T ρ p a w) (S : Sound E P call) (h0 : WF (R.Ms 0)) (hng : E.ng ≤ (R.Ms 0).next) (hF : Fits E R before) (hoj : ops[j]? = some oj) (hj : ¬ T j) (hd : ∀ e ∈ edgesOf oj, T e) (hs : Strong R j)
    {ρ' : Emb} {v' : Value} {w' : World} (hv : (R.vs j).rel ρ' v') (ht : Trans E ρ (R.Ms j) w ρ' (R.Ms (j + 1)) w') :
    Inv E R ρ₀ a₀ w₀ (fun i => T i ∨ i = j) ρ' (j + 1) (a.put oj.dst v') w' := by
  have hjs := lt_of_get hoj
  have hpj := I.p_le hF hoj hj (.inl hs)
  obtain ⟨hin, hrel⟩ := I.part S h0 hng hF hoj hj hd hs
  have hfree : Free ρ (R.Ms j) (R.Ms (j + 1)) := fun b h1 h2 => I.dom j hjs hj b h1 h2
  have hle := ht.le hfree
  have h0j := R.next_le S (i := 0) (j := j) (by omega) (by omega)
  have hj1 := R.next_le S (i := j) (j := j + 1) (by omega) (by omega)
  have hjn := R.next_le S (i := j + 1) (j := ops.size) (by omega) (by omega)
  have hlt {c : Nat} {o : Obj} (h : w.heap[c]? = some o) : c < w.heap.size := lt_of_get h
  have hwfj := R.wf S h0 (i := j) (by omega)
  -- what is there behind it
  have hinv : ∀ b o, gT R (fun i => T i ∨ i = j) (j + 1) (ops.size - (j + 1)) b = some o → (R.Ms (j + 1)).get b = some o ∨
      (gT R T p (ops.size - p) b = some o ∧ (R.Ms (j + 1)).next ≤ b) := by
    intro b o h
    rcases gT_inv R _ h with h1 | ⟨i, hi, hT, hfi, hbi, hoi⟩
    · exact .inl h1
    · right
      have hTi : T (j + 1 + i) := hT.resolve_right (by omega)
      have hb := R.next_le S (i := j + 1) (j := j + 1 + i) (by omega) (by omega)
      refine ⟨?_, by omega⟩
      have := gT_new R S (T := T) (p := p) (i := j + 1 + i - p) (by rw [show p + (j + 1 + i - p) = j + 1 + i by omega]; exact hTi) (by rw [show p + (j + 1 + i - p) = j + 1 + i by omega]; exact hfi) (ops.size - p) (by omega) (by omega)
      rw [show p + (j + 1 + i - p) = j + 1 + i by omega] at this
      rw [hbi, this, ← hbi]
      exact hoi
  have hold (b : Nat) (hb : (R.Ms (j + 1)).next ≤ b) : ρ' b = ρ b := ht.ext b (by omega)
  -- the blocks that wait lie apart of what it may write
  have hapart : ∀ b o l, gT R T p (ops.size - p) b = some o → (R.Ms (j + 1)).next ≤ b → ρ b = some l → ¬ Lv ρ (R.Ms j) l.c := by
    rintro b o l h hb hl ⟨b2, o2, l2, h2, hl2, hc⟩
    have := I.inj b2 b o2 o l2 l (hin b2 o2 h2) h hl2 hl hc
    have := hwfj b2 o2 h2
    omega
  have hWL : ∀ c, Wr ρ (R.Ms j) c → Lv ρ (R.Ms j) c := fun c ⟨b, o, l, h1, _, h3, h4⟩ => ⟨b, o, l, h1, h3, h4⟩
  refine ⟨I.closed' hoj hd, .inr ⟨j, rfl, .inr rfl, hs⟩, fun i h1 h2 h3 hsi => ?_, by omega, I.frame_put hF hoj hj hle hv, by rw [put_defers]; exact I.defers, ht.rel.glob, ?_, ?_, ?_, ?_, ?_, Nat.le_trans I.size ht.size, ?_, ?_, ht.tape.trans I.tape, ht.os.trans I.os, ht.output.trans I.output⟩
  · have hTi : T i := h3.resolve_right (by omega)
    have hb := hF.ordered (show j < i by omega) (.inl hs) hsi
    obtain ⟨oi, hoi⟩ := get_of_lt h2
    exact hj (hF.clos T I.closed j i oi hoi hb (I.closed i oi hoi hTi))
  · intro b o h
    rcases hinv b o h with h1 | ⟨h1, hb⟩
    · exact ht.rel.heap b o h1
    · obtain ⟨l, ob, h2, h3, h4⟩ := I.heap b o h1
      refine ⟨l, ob, by rw [hold b hb]; exact h2, ?_, AObj.rel_mono hle h4⟩
      rw [ht.frame l.c (hlt h3) (fun hW => hapart b o l h1 hb h2 (hWL _ hW))]
      exact h3
  · intro b b' o o' l l' h h' hl hl' hc
    rcases hinv b o h with h1 | ⟨h1, hb⟩ <;> rcases hinv b' o' h' with h1' | ⟨h1', hb'⟩
    · exact ht.rel.inj b b' o o' l l' h1 h1' hl hl' hc
    · exfalso
      rw [hold b' hb'] at hl'
      obtain ⟨l2, o2, h2, h3, _⟩ := I.heap b' o' h1'
      rw [hl'] at h2
      injection h2 with h2
      subst h2
      rcases ht.lsub l.c ⟨b, o, l, h1, hl, rfl⟩ with h4 | h4
      · exact hapart b' o' l' h1' hb' hl' (hc ▸ h4)
      · have := hlt h3; omega
    · exfalso
      rw [hold b hb] at hl
      obtain ⟨l2, o2, h2, h3, _⟩ := I.heap b o h1
      rw [hl] at h2
      injection h2 with h2
      subst h2
      rcases ht.lsub l'.c ⟨b', o', l', h1', hl', rfl⟩ with h4 | h4
      · exact hapart b o l h1 hb hl (hc ▸ h4)
      · have := hlt h3; omega
    · rw [hold b hb] at hl
      rw [hold b' hb'] at hl'
      exact I.inj b b' o o' l l' h1 h1' hl hl' hc
  · intro i hi hT b h1 h2
    have hne : i ≠ j := fun e => hT (.inr e)
    rw [ht.ext b ?_]
    · exact I.dom i hi (fun h => hT (.inl h)) b h1 h2
    · by_cases hlt' : i < j
      · have := R.next_le S (i := i + 1) (j := j) (by omega) (by omega); omega
      · have := R.next_le S (i := j + 1) (j := i) (by omega) (by omega); omega
  · intro b hb
    rw [ht.ext b (by omega)]
    exact I.ext b hb
  · intro c hc hw
    have h1 := I.size
    rw [ht.frame c (by omega) ?_]
    · exact I.keep c hc hw
    · rintro ⟨b, o, l, hg, hwr, hl, rfl⟩
      rcases I.wsub b o l (hin b o hg) hwr hl with h2 | h2
      · exact hw h2
      · omega
  · intro b o l h hw hl
    rcases hinv b o h with h1 | ⟨h1, hb⟩
    · rcases ht.wsub l.c ⟨b, o, l, h1, hw, hl, rfl⟩ with ⟨b2, o2, l2, hg2, hw2, hl2, hc2⟩ | h2
      · rw [← hc2]; exact I.wsub b2 o2 l2 (hin b2 o2 hg2) hw2 hl2
      · exact .inr (Nat.le_trans I.size h2)
    · rw [hold b hb] at hl; exact I.wsub b o l h1 hw hl
  · intro b o l h hl
    rcases hinv b o h with h1 | ⟨h1, hb⟩
    · rcases ht.lsub l.c ⟨b, o, l, h1, hl, rfl⟩ with ⟨b2, o2, l2, hg2, hl2, hc2⟩ | h2
      · rw [← hc2]; exact I.lsub b2 o2 l2 (hin b2 o2 hg2) hl2
      · exact .inr (Nat.le_trans I.size h2)
    · rw [hold b hb] at hl; exact I.lsub b o l h1 hl

end
end Go.Ev
