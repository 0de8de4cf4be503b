/- A part of the proof that an evaluator of the machine's code is sound (EvReg4). No conditions. -/
import Derived.Test.YtnklododmdplmaaGreatDoorEvReg3
namespace Go.Ev
section
variable {E : Env} {P : Program} {call : CallF} {ops : Array Oper}
variable {R : Run E call ops} {before : Nat → Nat → Prop} {ρ₀ : Emb} {a₀ : Act} {w₀ : World} {T : Nat → Prop} {ρ : Emb} {p : Nat} {a : Act} {w : World} {j : Nat} {oj : Oper}

/-- the least of the writes between two states -/
theorem least_strong (R : Run E call ops) (p : Nat) : ∀ (d : Nat), (∀ i, p ≤ i → i < p + d → ¬ Strong R i) ∨ ∃ s, p ≤ s ∧ s < p + d ∧ Strong R s ∧ ∀ i, p ≤ i → i < s → ¬ Strong R i
  | 0 => .inl fun i h1 h2 => by omega
  | d + 1 => by
    rcases least_strong R p d with h | ⟨s, h1, h2, h3, h4⟩
    · by_cases hs : Strong R (p + d)
      · exact .inr ⟨p + d, by omega, by omega, hs, fun i h1 h2 => h i h1 (by omega)⟩
      · refine .inl fun i h1 h2 => ?_
        by_cases hi : i = p + d
        · subst hi; exact hs
        · exact h i h1 (by omega)
    · exact .inr ⟨s, h1, by omega, h3, h4⟩

/-- a look at memory -/
theorem Inv.look (I : Inv E R ρ₀ a₀ w₀ T ρ p a w) (S : Sound E P call) (h0 : WF (R.Ms 0)) (hF : Fits E R before) (hoj : ops[j]? = some oj) (hj : ¬ T j) (hd : ∀ e ∈ edgesOf oj, T e) (hw : wantedE ops.toList (R.Fs j) oj = true) (hc : cls E oj.op = .look) :
    ∃ v', (execOp a.eval oj).run P w = .ok (.value v') w ∧ (R.vs j).rel ρ v' := by
  have hjs := lt_of_get hoj
  have he := I.he hF hoj hj hd
  have htext : rd E (R.Ms j).get (R.Fs j) oj.op = some (R.vs j) := by
    have h := (R.step j oj hoj).1
    unfold stepOp at h
    simp only [hw, cond_true] at h
    unfold doOp at h
    simp only [hc] at h
    cases hv : Ev.rd E (R.Ms j).get (R.Fs j) oj.op with
    | none => simp [hv, retV] at h
    | some u => simp [hv, retV] at h; rw [h.1]
  have fin (q : Nat) (h1 : p ≤ q) (h2 : q ≤ ops.size) (h3 : ∀ i, p ≤ i → i < q → ¬ Strong R i) (h4 : rd E (R.Ms q).get (R.Fs j) oj.op = some (R.vs j)) :
      ∃ v', (execOp a.eval oj).run P w = .ok (.value v') w ∧ (R.vs j).rel ρ v' := S.rd I.glob he (I.lookRel S h0 h1 h2 h3) h4
  by_cases hpj : p ≤ j
  · rcases least_strong R p (j - p) with h | ⟨s, h1, h2, h3, h4⟩
    · exact fin j hpj (by omega) (fun i h1 h2 => h i h1 (by omega)) htext
    · have hsj : s < j := by omega
      obtain ⟨os, hos⟩ := get_of_lt (show s < ops.size by omega)
      obtain ⟨hws, hcs⟩ := strong_cls h3 hos
      have hTs : ¬ T s := fun h => I.phi s h1 (by omega) h h3
      have hb : ¬ before s j := fun hb => hTs (I.came hF hoj hd hb)
      obtain ⟨_, hp⟩ := hF.pair s j os oj hsj hos hoj hb
      have hr : risky (cls E os.op) (cls E oj.op) = true := by rcases hcs with h | ⟨c, h⟩ <;> simp [h, hc, risky]
      rcases hp hws hw hr with ⟨h, _⟩ | ⟨_, h5, _⟩
      · rcases hcs with h' | ⟨c, h'⟩ <;> rw [h] at h' <;> cases h'
      · exact fin s h1 (by omega) h4 h5
  · obtain ⟨q, hq, hTq, hsq⟩ : ∃ q, p = q + 1 ∧ T q ∧ Strong R q := I.plo.resolve_left (by omega)
    have hqj : j < q := by
      have : q ≠ j := fun e => hj (e ▸ hTq)
      omega
    obtain ⟨oq, hoq, hwq, hcq⟩ := hsq
    have hb : ¬ before j q := fun hb => hj (hF.clos T I.closed j q oq hoq hb (I.closed q oq hoq hTq))
    obtain ⟨_, hp⟩ := hF.pair j q oj oq hqj hoj hoq hb
    have hr : risky (cls E oj.op) (cls E oq.op) = true := by rcases hcq with h | ⟨c, h⟩ <;> simp [h, hc, risky]
    rcases hp hw hwq hr with ⟨_, _, h5⟩ | ⟨h, _⟩
    · rw [← hq] at h5
      exact fin p (Nat.le_refl _) I.ple (fun i h1 h2 => by omega) h5
    · rcases hcq with h' | ⟨c, h'⟩ <;> rw [h] at h' <;> cases h'

/-- Whatever operation is ready comes up. -/
theorem Inv.step (I : Inv E R ρ₀ a₀ w₀ T ρ p a w) (S : Sound E P call) (h0 : WF (R.Ms 0)) (hng : E.ng ≤ (R.Ms 0).next) (hF : Fits E R before) (hoj : ops[j]? = some oj) (hj : ¬ T j) (hd : ∀ e ∈ edgesOf oj, T e) {K : Act → World → Prop} {Q : Exit → Act → World → Prop}
    (hK : ∀ ρ' p' a' w', Inv E R ρ₀ a₀ w₀ (fun i => T i ∨ i = j) ρ' p' a' w' → K a' w') : wpOp P ops Q j K a w := by
  have hjs := lt_of_get hoj
  unfold wpOp
  simp only [hoj]
  rw [I.wanted hF hoj hj hd]
  have he := I.he hF hoj hj hd
  have hstep := (R.step j oj hoj).1
  unfold stepOp at hstep
  cases hw : wantedE ops.toList (R.Fs j) oj with
  | false =>
    simp only [hw, cond_false, Option.some.injEq, Prod.mk.injEq] at hstep
    simp only [Bool.false_eq_true, if_false]
    refine hK ρ p _ w (I.quiet hF hoj hj hd ?_ ?_ (by rw [← hstep.1]; exact undef_rel))
    · intro h; have := (strong_cls h hoj).1; rw [hw] at this; cases this
    · intro h; have := (frsh_cls h hoj).1; rw [hw] at this; cases this
  | true =>
    simp only [hw, cond_true] at hstep
    simp only [if_true]
    left
    cases hc : cls E oj.op with
    | none =>
      have hstep' := hstep
      unfold doOp at hstep'
      simp only [hc] at hstep'
      cases hv : Ev.rd E noLook (R.Fs j) oj.op with
      | none => simp [hv, retV] at hstep'
      | some u =>
        simp [hv, retV] at hstep'
        rw [hstep'.1] at hv
        obtain ⟨v', hrun, hrel⟩ := S.rd (w := w) I.glob he LookRel.none hv
        unfold Oper.wp
        rw [hrun]
        refine hK ρ p _ w (I.quiet hF hoj hj hd ?_ ?_ hrel)
        · intro h; rcases (strong_cls h hoj).2 with h' | ⟨c, h'⟩ <;> rw [hc] at h' <;> cases h'
        · intro h; have := (frsh_cls h hoj).2; rw [hc] at this; cases this
    | look =>
      obtain ⟨v', hrun, hrel⟩ := I.look S h0 hF hoj hj hd hw hc
      unfold Oper.wp
      rw [hrun]
      refine hK ρ p _ w (I.quiet hF hoj hj hd ?_ ?_ hrel)
      · intro h; rcases (strong_cls h hoj).2 with h' | ⟨c, h'⟩ <;> rw [hc] at h' <;> cases h'
      · intro h; have := (frsh_cls h hoj).2; rw [hc] at this; cases this
    | fresh =>
      have hfr : Frsh R j := ⟨oj, hoj, hw, hc⟩
      have hns : ¬ Strong R j := by intro h; rcases (strong_cls h hoj).2 with h' | ⟨c, h'⟩ <;> rw [hc] at h' <;> cases h'
      obtain ⟨o', ob, mk, ho', _, hv, hvs, hM⟩ := R.freshStep hfr
      have : o' = oj := Option.some.inj (ho'.symm.trans hoj)
      subst this
      obtain ⟨v', w', obj, xe, hrun, hh, ht, ho, hu, hwr, hrel⟩ := S.fresh w I.glob he hv
      unfold Oper.wp
      rw [hrun]
      have hnone : ρ (R.Ms j).next = none := I.dom j hjs hj _ (Nat.le_refl _) (by rw [hM]; simp [Mem.add])
      obtain ⟨h1, h2⟩ := hrel (ρ.with (R.Ms j).next ⟨w.heap.size, 0, xe, dv⟩) (R.Ms j).next (Emb.with_le hnone) (by simp [Emb.with])
      exact hK _ p _ w' (I.laid S h0 hF hoj hj hd hns hfr hM hh ht ho hu (by rw [hvs]; exact h1) h2)
    | eff =>
      have hs : Strong R j := ⟨oj, hoj, hw, .inl hc⟩
      obtain ⟨_, hrel⟩ := I.part S h0 hng hF hoj hj hd hs
      have hfree : Free ρ (R.Ms j) (R.Ms (j + 1)) := fun b h1 h2 => I.dom j hjs hj b h1 h2
      exact op_wp S hrel he hstep hfree fun ρ' v' w' hv ht => hK ρ' (j + 1) _ w' (I.done S h0 hng hF hoj hj hd hs hv ht)
    | call c =>
      have hs : Strong R j := ⟨oj, hoj, hw, .inr ⟨c, hc⟩⟩
      obtain ⟨_, hrel⟩ := I.part S h0 hng hF hoj hj hd hs
      have hfree : Free ρ (R.Ms j) (R.Ms (j + 1)) := fun b h1 h2 => I.dom j hjs hj b h1 h2
      exact op_wp S hrel he hstep hfree fun ρ' v' w' hv ht => hK ρ' (j + 1) _ w' (I.done S h0 hng hF hoj hj hd hs hv ht)

/-- how many have not come up -/
def left (listed : Array Bool) (n : Nat) : Nat := (List.range n).countP fun i => !listed.getD i false

theorem left_zero {listed : Array Bool} {n : Nat} (h : left listed n = 0) : ∀ i, i < n → listed.getD i false = true := by
  intro i hi
  unfold left at h
  rw [List.countP_eq_zero] at h
  have := h i (List.mem_range.2 hi)
  simpa using this

theorem left_set {listed : Array Bool} {n j : Nat} (hs : listed.size = n) (hj : j < n) (h : listed.getD j false = false) : left (listed.setIfInBounds j true) n + 1 = left listed n := by
  unfold left
  have key : ∀ (l : List Nat), l.Nodup → j ∈ l → (l.countP fun i => !(listed.setIfInBounds j true).getD i false) + 1 = l.countP fun i => !listed.getD i false := by
    intro l
    induction l with
    | nil => intro _ h; simp at h
    | cons x l ih =>
      intro hn hm
      rw [List.nodup_cons] at hn
      by_cases hx : x = j
      · subst hx
        have h1 : (listed.setIfInBounds x true).getD x false = true := by simp [hs, hj]
        have h2 : (l.countP fun i => !(listed.setIfInBounds x true).getD i false) = l.countP fun i => !listed.getD i false := by
          apply List.countP_congr
          intro y hy
          have : x ≠ y := fun e => hn.1 (e ▸ hy)
          simp [Array.getElem?_setIfInBounds_ne this]
        simp only [List.countP_cons, h1, h, h2]
        simp
      · have h1 : (listed.setIfInBounds j true).getD x false = listed.getD x false := by simp [Array.getElem?_setIfInBounds_ne (fun e => hx e.symm)]
        have := ih hn.2 ((List.mem_cons.1 hm).resolve_left (fun e => hx e.symm))
        simp only [List.countP_cons, h1]
        omega
  exact key _ List.nodup_range (List.mem_range.2 hj)

theorem all_listed (hF : Fits E R before) {listed : Array Bool} (hsz : listed.size = ops.size) (hr : Region.ready .any ops listed = []) :
    ∀ i, i < ops.size → listed.getD i false = true := by
  intro i
  induction i using Nat.strongRecOn with
  | _ i ih =>
    intro hi
    cases hl : listed.getD i false with
    | true => rfl
    | false =>
      exfalso
      obtain ⟨o, ho⟩ := get_of_lt hi
      have : i ∈ Region.ready .any ops listed := by
        rw [mem_ready]
        refine ⟨?_, o, ho, fun e he hb => ?_⟩
        · have hi' : i < listed.size := by omega
          simp [hi'] at hl ⊢
          exact hl
        · have hlt := hF.down i o ho e.on (mem_edgesOf he hb)
          exact ih e.on hlt (by omega)
      rw [hr] at this
      cases this

theorem any_wp (S : Sound E P call) (h0 : WF (R.Ms 0)) (hng : E.ng ≤ (R.Ms 0).next) (hF : Fits E R before) {Q : Exit → Act → World → Prop}
    (hQ : ∀ T ρ p a w, (∀ i, i < ops.size → T i) → Inv E R ρ₀ a₀ w₀ T ρ p a w → Q .normal a w) : ∀ (fuel : Nat) (listed : Array Bool) (ρ : Emb) (p : Nat) (a : Act) (w : World), listed.size = ops.size → left listed ops.size ≤ fuel →
      Inv E R ρ₀ a₀ w₀ (fun i => listed.getD i false = true) ρ p a w → wpAny P .any ops Q fuel listed a w := by
  intro fuel
  induction fuel with
  | zero =>
    intro listed ρ p a w hsz hl I
    have hall := left_zero (by omega : left listed ops.size = 0)
    refine ⟨?_, hQ _ ρ p a w hall I⟩
    rw [List.eq_nil_iff_forall_not_mem]
    intro i hi
    obtain ⟨h1, o, ho, _⟩ := mem_ready.1 hi
    have hlt := lt_of_get ho
    have := hall i hlt
    have hi' : i < listed.size := by omega
    simp [hi'] at h1 this
    rw [h1] at this
    cases this
  | succ fuel ih =>
    intro listed ρ p a w hsz hl I
    refine ⟨fun hr => hQ _ ρ p a w (all_listed hF hsz hr) I, fun j hj => ?_⟩
    obtain ⟨h1, o, ho, h2⟩ := mem_ready.1 hj
    have hlt := lt_of_get ho
    have hun : listed.getD j false = false := by
      have hi' : j < listed.size := by omega
      simp [hi'] at h1 ⊢
      exact h1
    refine I.step S h0 hng hF ho (by rw [hun]; simp) (fun e he => ?_) fun ρ' p' a' w' I' => ?_
    · obtain ⟨x, hx, hb, rfl⟩ := of_mem_edgesOf he
      exact h2 x hx hb
    · refine ih (listed.setIfInBounds j true) ρ' p' a' w' (by simp [hsz]) (by have := left_set hsz hlt hun; omega) ?_
      have : (fun i => listed.getD i false = true ∨ i = j) = fun i => (listed.setIfInBounds j true).getD i false = true := by
        funext i
        by_cases hi : i = j
        · subst hi; simp [hsz, hlt]
        · simp [hi, Array.getElem?_setIfInBounds_ne (fun e => hi e.symm)]
      rw [← this]
      exact I'

theorem rep_false (n i : Nat) : ¬ (Array.replicate n false).getD i false = true := by
  rcases Nat.lt_or_ge i n with h | h
  · simp [h]
  · simp [h]

/-- **A region that draws its order.** -/
theorem draw_wp (S : Sound E P call) (hF : Fits E R before) {id : Nat} {Q : Exit → Act → World → Prop} {ρ : Emb} {a : Act} {w : World} (hr : Rel E ρ (R.Ms 0) w) (hFr : FrRel ρ (R.Fs 0) a) (hf : Free ρ (R.Ms 0) (R.Ms ops.size))
    (hQ : ∀ ρ' a' w', FrRel ρ' (R.Fs ops.size) a' → a'.defers = a.defers → Trans E ρ (R.Ms 0) w ρ' (R.Ms ops.size) w' → Q .normal a' w') : (Code.region id ops true).wp P Q a w := by
  have h0 : WF (R.Ms 0) := hr.lt
  have hcur0 : ∀ i, cur R (fun i => (Array.replicate ops.size false).getD i false = true) i = R.Fs 0 := by
    intro i
    induction i with
    | zero => rfl
    | succ i ih => simp only [cur]; rw [if_neg (rep_false _ _), ih]
  have hgT0 : ∀ t b, gT R (fun i => (Array.replicate ops.size false).getD i false = true) 0 t b = (R.Ms 0).get b := by
    intro t b
    induction t with
    | zero => rfl
    | succ t ih => simp only [gT]; rw [if_neg (fun h => rep_false _ _ h.1), ih]
  refine wp_region_any S.mixed ?_
  refine any_wp (R := R) (ρ₀ := ρ) (a₀ := a) (w₀ := w) S h0 hr.ngle hF (fun T ρ' p a' w' hall I => ?_) ops.size _ ρ 0 a _ (by simp) (by
    unfold left
    refine Nat.le_trans List.countP_le_length ?_
    simp) ?_
  · -- all have come up
    have hfr : FrRel ρ' (R.Fs ops.size) a' := by
      refine ⟨?_, fun t => ?_⟩
      · rw [I.frame.size, cur_n, ← cur_n R (fun _ => True) ops.size, cur_all R _ (Nat.le_refl _)]
      · rw [← cur_all R _ (Nat.le_refl _), ← cur_congr R (T := T) _ (fun i hi _ => ⟨fun _ => trivial, fun _ => hall i hi⟩)]
        exact I.frame.get t
    have hin : ∀ b o, (R.Ms ops.size).get b = some o → gT R T p (ops.size - p) b = some o := by
      intro b o h
      have hple := I.ple
      have h1 := gT_text R (p := p) (ops.size - p) (by omega) (fun i h1 h2 => I.phi i h1 (by omega) (hall i (by omega))) b
      rw [show p + (ops.size - p) = ops.size by omega, h] at h1
      rcases gT_inv R _ h1.symm with h2 | ⟨i, hi, _, hf, hb, ho⟩
      · exact gT_old R S h0 h2 _ (by omega)
      · rw [hb, gT_new R S (hall _ (by omega)) hf _ (by omega) (by omega), ← hb]; exact ho
    have hnn := R.next_le S (i := 0) (j := ops.size) (by omega) (by omega)
    have hng := hr.ngle
    exact hQ ρ' a' w' hfr I.defers ⟨hnn, I.ext, ⟨I.glob, by omega, R.wf S h0 (Nat.le_refl _), fun b o h => I.heap b o (hin b o h), fun b b' o o' l l' h h' => I.inj b b' o o' l l' (hin b o h) (hin b' o' h')⟩,
      I.keep, I.size, fun c ⟨b, o, l, h1, h2, h3, h4⟩ => h4 ▸ I.wsub b o l (hin b o h1) h2 h3, fun c ⟨b, o, l, h1, h3, h4⟩ => h4 ▸ I.lsub b o l (hin b o h1) h3, I.tape, I.os, I.output⟩
  · refine ⟨fun i o ho hi => absurd hi (rep_false _ _), .inl rfl, fun i _ _ hi => absurd hi (rep_false _ _), Nat.zero_le _, by rw [hcur0]; exact hFr, rfl, hr.glob, fun b o h => ?_, fun b b' o o' l l' h h' => ?_, fun i hi _ b h1 h2 => ?_, fun _ _ => rfl, fun _ _ _ => rfl, Nat.le_refl _, fun b o l h hw hl => ?_, fun b o l h hl => ?_, rfl, rfl, rfl⟩
    · rw [hgT0] at h; exact hr.heap b o h
    · rw [hgT0] at h h'; exact hr.inj b b' o o' l l' h h'
    · have h3 := R.next_le S (i := 0) (j := i) (by omega) (by omega)
      have h4 := R.next_le S (i := i + 1) (j := ops.size) (by omega) (by omega)
      exact hf b (by omega) (by omega)
    · rw [hgT0] at h; exact .inl ⟨b, o, l, h, hw, hl, rfl⟩
    · rw [hgT0] at h; exact .inl ⟨b, o, l, h, hl, rfl⟩

/-- The plan's look. -/
theorem fits_of_plan {ps : List (Nat × Nat)} (hp : plan E ops = some ps) (R : Run E call ops)
    (hpairs : ∀ x ∈ ps, ∀ oi oj, ops[x.1]? = some oi → ops[x.2]? = some oj → pairOK E ⟨wantedE ops.toList (R.Fs x.1) oi, oi, R.Fs x.1, R.Ms x.1, R.vs x.1, R.Ms (x.1 + 1)⟩ ⟨wantedE ops.toList (R.Fs x.2) oj, oj, R.Fs x.2, R.Ms x.2, R.vs x.2, R.Ms (x.2 + 1)⟩ = true) :
    ∃ before, Fits E R before := by
  unfold plan at hp
  cases hn : noSel ops.toList with
  | false => simp [hn] at hp
  | true =>
    simp only [hn, cond_true] at hp
    cases hm : masks ops.toList 0 .nil with
    | none => simp [hm] at hp
    | some ms =>
      simp only [hm] at hp
      have hspec (T : Nat → Prop) (hT : ∀ i o, ops.toList[i]? = some o → T (0 + i) → ∀ e ∈ edgesOf o, T e) := masks_spec T ops.toList 0 .nil ms hm hT (fun e x b h => by simp [Trie.get_nil] at h)
      refine ⟨fun i j => ∃ m, ms[j]? = some m ∧ Nat.testBit m i = true, ?_, ?_, ?_⟩
      · intro i o ho e he
        have := ((hspec (fun _ => True) (fun _ _ _ _ _ _ => trivial)).2 i o (by simpa using ho)).1 e he
        omega
      · rintro T hT i j o ho ⟨m, hm', hb⟩ hd
        obtain ⟨_, m', h1, h2⟩ := (hspec T (fun i o ho hi => hT i o (by simpa using ho) (by simpa using hi))).2 j o (by simpa using ho)
        rw [hm'] at h1
        injection h1 with h1
        subst h1
        exact h2 i hb hd
      · intro i j oi oj hij hoi hoj hb
        obtain ⟨m, h1, h2⟩ := planAll_spec _ _ _ _ hp i j oi oj hij (by simpa using hoi) (by simpa using hoj)
        rcases h2 with h2 | ⟨h2, h3⟩
        · exact absurd ⟨m, h1, by simpa using h2⟩ hb
        · refine ⟨h2, fun hwi hwj hr => ?_⟩
          have h4 := hpairs (0 + i, 0 + j) (h3 hr) oi oj (by simpa using hoi) (by simpa using hoj)
          simp only [Nat.zero_add] at h4
          unfold pairOK at h4
          simp only [hwi, hwj, Bool.and_self, cond_true] at h4
          cases hci : cls E oi.op with
          | look =>
            simp only [hci] at h4
            unfold still at h4
            simp only [Bool.and_eq_true] at h4
            exact .inl ⟨rfl, same_eq h4.1, same_eq h4.2⟩
          | _ =>
            simp only [hci] at h4
            cases hcj : cls E oj.op with
            | look =>
              simp only [hcj] at h4
              unfold still at h4
              simp only [Bool.and_eq_true] at h4
              exact .inr ⟨rfl, same_eq h4.1, same_eq h4.2⟩
            | _ => simp only [hcj] at h4; cases h4

/-- **A region.** -/
theorem region_wp (S : Sound E P call) {id : Nat} {d : Bool} {Q : Exit → Act → World → Prop} {F F' : Fr} {M M' : Mem} {ρ : Emb} {a : Act} {w : World} (h : region E call ops d F M = some (F', M')) (hr : Rel E ρ M w) (hFr : FrRel ρ F a) (hf : Free ρ M M')
    (hQ : ∀ ρ' a' w', FrRel ρ' F' a' → Qu P a a' → Trans E ρ M w ρ' M' w' → Q .normal a' w') : (Code.region id ops d).wp P Q a w := by
  have hQe : ∀ ρ' a' w', FrRel ρ' F' a' → a'.defers = a.defers → Trans E ρ M w ρ' M' w' → Q .normal a' w' := fun ρ' a' w' h1 h2 h3 => hQ ρ' a' w' h1 (Qu.of_eq h2) h3
  unfold region at h
  cases d with
  | false =>
    simp only [cond_false] at h
    refine wp_region ?_
    rw [List.range_eq_range']
    cases hdf : hasDefer ops.toList with
    | true =>
      rw [hdf, cond_true] at h
      have := runOpsD_wp S (Q := Q) ops.toList 0 rfl F M F' M' h ρ a w hr hFr hf hQ
      simpa using this
    | false =>
      rw [hdf, cond_false] at h
      have := runOps_wp S (Q := Q) ops.toList 0 rfl F M F' M' h ρ a w hr hFr hf hQe
      simpa using this
  | true =>
    simp only [cond_true] at h
    cases hp : plan E ops with
    | none => simp [hp] at h
    | some ps =>
      have hrun : runOps E call ops.toList ops.toList F M = some (F', M') := by
        cases ps with
        | nil => simpa [hp] using h
        | cons x ps =>
          simp only [hp] at h
          cases hrr : runRecs E call ops.toList ops.toList F M with
          | none => simp [hrr] at h
          | some y =>
            obtain ⟨rs, F₁, M₁⟩ := y
            simp only [hrr] at h
            cases hk : pairsOK E rs (x :: ps) with
            | false => simp [hk] at h
            | true =>
              simp only [hk, cond_true, Option.some.injEq, Prod.mk.injEq] at h
              obtain ⟨rfl, rfl⟩ := h
              exact runOps_of_runRecs _ _ _ _ _ _ hrr
      obtain ⟨Fs, Ms, vs, e1, e2, e3, e4, e5, e6⟩ := run_exists ops.toList 0 rfl F M F' M' hrun
      let R : Run E call ops := ⟨Fs, Ms, vs, fun i o ho => e5 i o (by omega) ho⟩
      obtain ⟨before, hF⟩ := fits_of_plan hp R (fun x hx oi oj hoi hoj => by
        cases ps with
        | nil => cases hx
        | cons y ps =>
          simp only [hp] at h
          cases hrr : runRecs E call ops.toList ops.toList F M with
          | none => simp [hrr] at h
          | some z =>
            obtain ⟨rs, F₁, M₁⟩ := z
            simp only [hrr] at h
            cases hk : pairsOK E rs (y :: ps) with
            | false => simp [hk] at h
            | true =>
              obtain ⟨ri, rj, h1, h2, h3⟩ := pairsOK_spec hk x hx
              have h4 := e6 rs F₁ M₁ hrr x.1 oi (by omega) hoi
              have h5 := e6 rs F₁ M₁ hrr x.2 oj (by omega) hoj
              simp only [Nat.sub_zero] at h4 h5
              rw [h1] at h4
              rw [h2] at h5
              injection h4 with h4
              injection h5 with h5
              rw [h4, h5] at h3
              exact h3)
      simp only [Array.length_toList, Nat.zero_add] at e3 e4
      have eF : R.Fs 0 = F := e1
      have eM : R.Ms 0 = M := e2
      have eF' : R.Fs ops.size = F' := e3
      have eM' : R.Ms ops.size = M' := e4
      subst eF eM eF' eM'
      exact draw_wp S hF hr hFr hf hQe

end
end Go.Ev
