/- A part of the proof that an evaluator of the machine's code is sound (EvK4). No conditions. -/
import Derived.Test.YtnklododmdplmaaGreatDoorEvK3
namespace Go.Ev

section
variable {E : Env} {n : Nat} {call : CallF} {callk : CallKT}

/-- what is asked of the calls -/
def CallSim (call : CallF) (callk : CallKT) : Prop :=
  ∀ f args m M κ, SimM m M → callk f args m κ = true → ∃ v M' m', call f args M = some (v, M') ∧ SimM m' M' ∧ κ v m' = true

theorem refO_ok {R : RefT} {r : RefOp} {M : Mem} {args : List AVal} {v : AVal} {l : List MOp} (h : refO E R r M.get M.next args = some (v, l)) : refRun E R r M args = some (v, appAll l M) := by
  have fin {x : AVal} (h : some (x, ([] : List MOp)) = some (v, l)) : some (x, M) = some (v, appAll l M) := by
    simp only [Option.some.injEq, Prod.mk.injEq] at h
    obtain ⟨rfl, rfl⟩ := h
    rfl
  unfold refO at h
  unfold refRun
  split at h
  · simp only
    split at h
    · rename_i hk
      simp only [Option.some.injEq, Prod.mk.injEq] at h
      obtain ⟨rfl, rfl⟩ := h
      simp only [hk]
      rfl
    · cases h
  · simp only
    split at h
    · rename_i h1 h2
      simp only [h1, h2]
      exact fin h
    · cases h
  · simp only
    split at h
    · rename_i h1 h2
      have hb := (bif_some h).1
      replace h := (bif_some h).2
      simp only [h1, h2, hb, cond_true]
      split at h
      · rename_i h3; simp only [h3]; exact fin h
      · rename_i h3; simp only [h3]; exact fin h
      · cases h
    · cases h
  · simp only
    split at h
    · rename_i h1 h2
      have hb := (bif_some h).1
      replace h := (bif_some h).2
      simp only [h1, h2, hb, cond_true]
      split at h
      · rename_i h3 h4
        simp only [h3, h4]
        split at h
        · rename_i h5; simp only [h5]; exact fin h
        · cases h
      · cases h
    · cases h
  · simp only
    split at h
    · rename_i h1 h2 h3 h4
      have hb := (bif_some h).1
      replace h := (bif_some h).2
      simp only [h1, h2, h3, h4, hb, cond_true]
      split at h
      · rename_i h5
        simp only [h5]
        split at h
        · rename_i h6
          simp only [Option.some.injEq, Prod.mk.injEq] at h
          obtain ⟨rfl, rfl⟩ := h
          simp only [storeO_ok h6]
        · cases h
      · cases h
    · cases h
  · simp only
    split at h
    · rename_i h1; simp only [h1]; exact fin h
    · cases h
  · simp only
    split at h
    · rename_i h1
      simp only [h1]
      split at h
      · rename_i h2; simp only [h2]; exact fin h
      · cases h
    · cases h
  · simp only
    split at h
    · rename_i h1
      simp only [h1]
      split at h
      · rename_i h2; simp only [h2]; exact fin h
      · cases h
    · cases h
  · simp only
    split at h
    · rename_i h1 h2
      have hb := (bif_some h).1
      replace h := (bif_some h).2
      simp only [h1, h2, hb, cond_true]
      exact fin h
    · cases h
  · simp only
    split at h
    · rename_i h1 h2
      have hb := (bif_some h).1
      replace h := (bif_some h).2
      simp only [h1, h2, hb, cond_true]
      exact fin h
    · cases h
  · cases h

theorem goK_ok (hc : CallSim call callk) {f : Nat} {args : List AVal} {m : MK} {M : Mem} (hm : SimM m M) {κ : AVal → MK → Bool} (h : goK E callk f args m κ = true) :
    ∃ v M' m', (match E.fn f with
    | some _ => call f args M
    | none => match E.ext f with
      | some x => retV M (extRun x args)
      | none => match E.ref f with
        | some r => refRun E E.rft r M args
        | none => none) = some (v, M') ∧ SimM m' M' ∧ κ v m' = true := by
  unfold goK at h
  cases hf : E.fn f with
  | some fn =>
    rw [hf] at h
    exact hc f args m M κ hm h
  | none =>
    rw [hf] at h
    cases hx : E.ext f with
    | some x =>
      rw [hx] at h
      obtain ⟨v, hv, h⟩ := onO_true h
      refine ⟨v, M, m, ?_, hm, h⟩
      simp only [hv, retV]
    | none =>
      rw [hx] at h
      obtain ⟨r, hrf, h⟩ := onO_true h
      rw [forceN_eq] at h
      obtain ⟨v, l, m', h4, h5, h6⟩ := onVW_true hm h
      rw [hm.get, hm.next] at h4
      refine ⟨v, _, m', ?_, h5, h6⟩
      simp only [hrf]
      exact refO_ok h4

theorem callOpK_ok {s : T8} {F : Fr} (hs : SimF n s F) (hc : CallSim call callk) {c : Call} {a : OpK} (ha : callOpK E c = some a) {m : MK} {M : Mem} (hm : SimM m M) {κ : AVal → MK → Bool} (h : a.run callk s m κ = true) :
    ∃ v M' m', callOp E call F M c = some (v, M') ∧ SimM m' M' ∧ κ v m' = true := by
  unfold callOpK at ha
  split at ha
  · rename_i as has
    have i1 := evsK_ok hs has
    split at ha
    · rename_i x hcal
      split at ha
      · rename_i f
        injection ha with ha; subst ha
        obtain ⟨v, M', m', h1, h2⟩ := goK_ok hc hm h
        refine ⟨v, M', m', ?_, h2⟩
        simp only [callOp, target, i1, hcal, ev, List.nil_append, List.append_nil]
        exact h1
      · split at ha
        · rename_i x1 _ g hg
          injection ha with ha; subst ha
          have i2 := evK_ok hs hg
          simp only at h
          generalize hv : g.get s = w at h
          rw [hv] at i2
          cases w with
          | func fn first cap =>
            cases fn with
            | func f =>
              obtain ⟨v, M', m', h1, h2⟩ := goK_ok hc hm h
              refine ⟨v, M', m', ?_, h2⟩
              simp only [callOp, target, i1, hcal, i2]
              exact h1
            | _ => cases h
          | _ => cases h
        · cases ha
    · rename_i r name hcal
      split at ha
      · rename_i g hg
        injection ha with ha; subst ha
        have i2 := evK_ok hs hg
        simp only at h
        generalize hv : g.get s = w at h
        rw [hv] at i2
        cases w with
        | iface t x =>
          obtain ⟨p, hp, h⟩ := onO_true h
          obtain ⟨f, recv⟩ := p
          rw [hm.get] at hp
          obtain ⟨v, M', m', h1, h2⟩ := goK_ok hc hm h
          refine ⟨v, M', m', ?_, h2⟩
          simp only [callOp, target, i1, hcal, i2, hp]
          exact h1
        | _ => cases h
      · cases ha
    · cases ha
  · cases ha

theorem opK_ok {s : T8} {F : Fr} (hs : SimF n s F) (hc : CallSim call callk) {o : Op} {a : OpK} (ha : opK E o = some a) {m : MK} {M : Mem} (hm : SimM m M) {κ : AVal → MK → Bool} (h : a.run callk s m κ = true) :
    ∃ v M' m', doOp E call F M o = some (v, M') ∧ SimM m' M' ∧ κ v m' = true := by
  unfold opK at ha
  unfold doOp
  split at ha
  · rename_i hcls
    rw [Option.map_eq_some_iff] at ha
    obtain ⟨r, hr, rfl⟩ := ha
    obtain ⟨v, h1, h2⟩ := rdK_ok hs hr h
    exact ⟨v, M, m, by simp only [hcls, h1, retV], hm, h2⟩
  · rename_i hcls
    rw [Option.map_eq_some_iff] at ha
    obtain ⟨r, hr, rfl⟩ := ha
    obtain ⟨v, h1, h2⟩ := rdK_ok hs hr h
    rw [hm.get] at h1
    exact ⟨v, M, m, by simp only [hcls, h1, retV], hm, h2⟩
  · rename_i hcls
    rw [Option.map_eq_some_iff] at ha
    obtain ⟨r, hr, rfl⟩ := ha
    obtain ⟨ob, mk, h1, h2⟩ := freshK_ok hs hr h
    rw [forceN_eq] at h2
    cases hb : Nat.ble m.next 4095 with
    | false => rw [hb] at h2; cases h2
    | true =>
      rw [hb] at h2
      have := of_ble hb
      refine ⟨mk m.next, M.add ob, _, ?_, hm.add (by omega) ob, h2⟩
      simp only [hcls, h1, retF, hm.next]
  · rename_i hcls
    rw [Option.map_eq_some_iff] at ha
    obtain ⟨r, hr, rfl⟩ := ha
    obtain ⟨v, M', m', h1, h2⟩ := effK_ok hs hr hm h
    exact ⟨v, M', m', by simp only [hcls, h1], h2⟩
  · rename_i c hcls
    obtain ⟨v, M', m', h1, h2⟩ := callOpK_ok hs hc ha hm h
    exact ⟨v, M', m', by simp only [hcls, h1], h2⟩

theorem opT_ok {s : T8} {F : Fr} (hs : SimF n s F) (hc : CallSim call callk) {o : Op} {m : MK} {M : Mem} (hm : SimM m M) {κ : AVal → MK → Bool} (h : (opT E o).run callk s m κ = true) :
    ∃ v M' m', doOp E call F M o = some (v, M') ∧ SimM m' M' ∧ κ v m' = true := by
  unfold opT at h
  split at h
  · rename_i a ha
    exact opK_ok hs hc ha hm h
  · cases h

theorem guardK_ok {s : T8} {F : Fr} (hs : SimF n s F) {ops : List Oper} {o : Oper} {g : GuardK} (hg : guardK ops o = some g) {y z : Bool} (h : g.f s y z = true) :
    (wantedE ops F o = true ∧ y = true) ∨ (wantedE ops F o = false ∧ z = true) := by
  unfold guardK at hg
  unfold wantedE
  split at hg
  · rename_i hno
    injection hg with hg; subst hg
    simp only [hno]
    exact .inl ⟨trivial, h⟩
  · rename_i j want hgd
    simp only [hgd]
    split at hg
    · rename_i oj hoj
      simp only [hoj]
      split at hg
      · rename_i t ht
        obtain ⟨hb, hg⟩ := bsel_some hg
        injection hg with hg; subst hg
        simp only [ht]
        rw [← hs.get t (of_blt hb)]
        simp only at h
        generalize (mkGet t).get s = v at h
        cases v with
        | bool b =>
          simp only at h ⊢
          cases hbw : (b == want) with
          | true => rw [hbw] at h; exact .inl ⟨rfl, h⟩
          | false => rw [hbw] at h; exact .inr ⟨rfl, h⟩
        | _ => exact .inr ⟨rfl, h⟩
      · rename_i ht
        injection hg with hg; subst hg
        simp only [ht]
        exact .inr ⟨trivial, h⟩
    · rename_i hoj
      injection hg with hg; subst hg
      simp only [hoj]
      exact .inr ⟨trivial, h⟩

theorem opsK_ok (hc : CallSim call callk) {ops : List Oper} : ∀ {l : List Oper} {k : SeqK}, opsK E n ops l = some k → ∀ {s : T8} {F : Fr} {m : MK} {M : Mem} {κ : T8 → MK → Bool}, SimF n s F → SimM m M → k.run callk s m κ = true →
    ∃ F' M' s' m', runOps E call ops l F M = some (F', M') ∧ SimF n s' F' ∧ SimM m' M' ∧ κ s' m' = true
  | [], k, hk, s, F, m, M, κ, hs, hm, h => by
    simp only [opsK, Option.some.injEq] at hk
    subst hk
    exact ⟨F, M, s, m, rfl, hs, hm, h⟩
  | o :: l, k, hk, s, F, m, M, κ, hs, hm, h => by
    simp only [opsK] at hk
    split at hk
    · rename_i g r hg hr
      have step (hq : (opT E o.op).run callk s m (fun v m => r.run callk ((dstK n o.dst).set v s) m κ) = true) (hw : wantedE ops F o = true) :
          ∃ F' M' s' m', runOps E call ops (o :: l) F M = some (F', M') ∧ SimF n s' F' ∧ SimM m' M' ∧ κ s' m' = true := by
        obtain ⟨v, M₁, m₁, h1, h2, h3⟩ := opT_ok hs hc hm hq
        obtain ⟨F', M', s', m', h4, h5⟩ := opsK_ok hc hr (hs.put o.dst v) h2 h3
        refine ⟨F', M', s', m', ?_, h5⟩
        simp only [runOps, stepOp, hw, cond_true, h1, h4]
      split at hk
      · rename_i hno
        injection hk with hk; subst hk
        refine step h ?_
        simp only [wantedE, hno]
      · injection hk with hk; subst hk
        rcases guardK_ok hs hg h with ⟨hw, hq⟩ | ⟨hw, hq⟩
        · exact step hq hw
        · obtain ⟨F', M', s', m', h4, h5⟩ := opsK_ok hc hr (hs.put o.dst .undef) hm hq
          refine ⟨F', M', s', m', ?_, h5⟩
          simp only [runOps, stepOp, hw, cond_false, h4]
    · cases hk

theorem opDT_ok {s : T8} {F : Fr} (hs : SimF n s F) (hc : CallSim call callk) {ops : List Oper} {o : Oper} {m : MK} {M : Mem} (hm : SimM m M) {κ : AVal → MK → Bool} (hw : wantedE ops F o = true) (h : (opDT E o.op).run callk s m κ = true) :
    ∃ v M' m', stepOpD E call ops o F M = some (v, M') ∧ SimM m' M' ∧ κ v m' = true := by
  unfold stepOpD
  unfold opDT at h
  split at h
  · rename_i c hop
    simp only [hw, cond_true, hop]
    split at h
    · rename_i q hq
      simp only at h
      cases hb : q.f s with
      | false => rw [hb] at h; cases h
      | true =>
        rw [hb] at h
        have hqo : quietOp E F c = true := by
          unfold quietK at hq
          unfold quietOp
          split at hq
          · rename_i x hcal
            rw [Option.map_eq_some_iff] at hq
            obtain ⟨g, hg, rfl⟩ := hq
            simp only [hcal, evK_ok hs hg]
            simp only at hb
            generalize g.get s = u at hb ⊢
            cases u with
            | func fn x1 x2 => cases fn <;> first | exact hb | cases hb
            | _ => cases hb
          · cases hq
        exact ⟨.undef, M, m, by simp only [hqo, cond_true], hm, h⟩
    · cases h
  · rename_i hnd
    obtain ⟨v, M', m', h1, h2⟩ := opT_ok hs hc hm h
    refine ⟨v, M', m', ?_, h2⟩
    split
    · rename_i c hop
      exact absurd hop (hnd c)
    · simp only [stepOp, hw, cond_true, h1]

theorem opsDK_ok (hc : CallSim call callk) {ops : List Oper} : ∀ {l : List Oper} {k : SeqK}, opsDK E n ops l = some k → ∀ {s : T8} {F : Fr} {m : MK} {M : Mem} {κ : T8 → MK → Bool}, SimF n s F → SimM m M → k.run callk s m κ = true →
    ∃ F' M' s' m', runOpsD E call ops l F M = some (F', M') ∧ SimF n s' F' ∧ SimM m' M' ∧ κ s' m' = true
  | [], k, hk, s, F, m, M, κ, hs, hm, h => by
    simp only [opsDK, Option.some.injEq] at hk
    subst hk
    exact ⟨F, M, s, m, rfl, hs, hm, h⟩
  | o :: l, k, hk, s, F, m, M, κ, hs, hm, h => by
    simp only [opsDK] at hk
    split at hk
    · rename_i g r hg hr
      have step (hq : (opDT E o.op).run callk s m (fun v m => r.run callk ((dstK n o.dst).set v s) m κ) = true) (hw : wantedE ops F o = true) :
          ∃ F' M' s' m', runOpsD E call ops (o :: l) F M = some (F', M') ∧ SimF n s' F' ∧ SimM m' M' ∧ κ s' m' = true := by
        obtain ⟨v, M₁, m₁, h1, h2, h3⟩ := opDT_ok hs hc hm hw hq
        obtain ⟨F', M', s', m', h4, h5⟩ := opsDK_ok hc hr (hs.put o.dst v) h2 h3
        refine ⟨F', M', s', m', ?_, h5⟩
        simp only [runOpsD, h1, h4]
      split at hk
      · rename_i hno
        injection hk with hk; subst hk
        refine step h ?_
        simp only [wantedE, hno]
      · injection hk with hk; subst hk
        rcases guardK_ok hs hg h with ⟨hw, hq⟩ | ⟨hw, hq⟩
        · exact step hq hw
        · obtain ⟨F', M', s', m', h4, h5⟩ := opsDK_ok hc hr (hs.put o.dst .undef) hm hq
          refine ⟨F', M', s', m', ?_, h5⟩
          have hst : stepOpD E call ops o F M = some (.undef, M) := by
            unfold stepOpD
            split
            · simp only [hw, cond_false]
            · simp only [stepOp, hw, cond_false]
          simp only [runOpsD, hst, h4]
    · cases hk

/-! what is looked at again -/

structure SimR (n : Nat) (k : RecK) (r : Rec) : Prop where
  on : k.on = r.on
  o : k.o = r.o
  s : SimF n k.s r.F
  m : SimM k.m r.M
  v : k.v = r.v
  m' : SimM k.m' r.M'

def SimRs (n : Nat) : List RecK → List Rec → Prop
  | [], l => l = []
  | k :: ks, l => ∃ r rs, l = r :: rs ∧ SimR n k r ∧ SimRs n ks rs

theorem SimRs.get : ∀ {ks : List RecK} {rs : List Rec}, SimRs n ks rs → ∀ (i : Nat) (k : RecK), ks[i]? = some k → ∃ r, rs[i]? = some r ∧ SimR n k r
  | [], rs, h, i, k, hk => by simp at hk
  | k0 :: ks, rs, h, i, k, hk => by
    simp only [SimRs] at h
    obtain ⟨r, rs', rfl, h1, h2⟩ := h
    cases i with
    | zero => simp at hk; subst hk; exact ⟨r, rfl, h1⟩
    | succ i => simp at hk; obtain ⟨r', h3, h4⟩ := SimRs.get h2 i k hk; exact ⟨r', by simpa using h3, h4⟩

theorem recsK_ok (hc : CallSim call callk) {ops : List Oper} : ∀ {l : List Oper} {k : SeqRK}, recsK E n ops l = some k → ∀ {s : T8} {F : Fr} {m : MK} {M : Mem} {κ : T8 → MK → List RecK → Bool}, SimF n s F → SimM m M → k.run callk s m κ = true →
    ∃ rs F' M' s' m' ks, runRecs E call ops l F M = some (rs, F', M') ∧ SimF n s' F' ∧ SimM m' M' ∧ SimRs n ks rs ∧ κ s' m' ks = true
  | [], k, hk, s, F, m, M, κ, hs, hm, h => by
    simp only [recsK, Option.some.injEq] at hk
    subst hk
    exact ⟨[], F, M, s, m, [], rfl, hs, hm, rfl, h⟩
  | o :: l, k, hk, s, F, m, M, κ, hs, hm, h => by
    simp only [recsK] at hk
    split at hk
    · rename_i g r hg hr
      injection hk with hk; subst hk
      rcases guardK_ok hs hg h with ⟨hw, hq⟩ | ⟨hw, hq⟩
      · obtain ⟨v, M₁, m₁, h1, h2, h3⟩ := opT_ok hs hc hm hq
        obtain ⟨rs, F', M', s', m', ks, h4, h5, h6, h7, h8⟩ := recsK_ok hc hr (hs.put o.dst v) h2 h3
        refine ⟨⟨true, o, F, M, v, M₁⟩ :: rs, F', M', s', m', ⟨true, o, s, m, v, m₁⟩ :: ks, ?_, h5, h6, ⟨_, _, rfl, ⟨rfl, rfl, hs, hm, rfl, h2⟩, h7⟩, h8⟩
        simp only [runRecs, stepOp, hw, cond_true, h1, h4]
      · obtain ⟨rs, F', M', s', m', ks, h4, h5, h6, h7, h8⟩ := recsK_ok hc hr (hs.put o.dst .undef) hm hq
        refine ⟨⟨false, o, F, M, .undef, M⟩ :: rs, F', M', s', m', ⟨false, o, s, m, .undef, m⟩ :: ks, ?_, h5, h6, ⟨_, _, rfl, ⟨rfl, rfl, hs, hm, rfl, hm⟩, h7⟩, h8⟩
        simp only [runRecs, stepOp, hw, cond_false, h4]
    · cases hk

theorem stillK_ok {k1 k2 : RecK} {r1 r2 : Rec} (h1 : SimR n k1 r1) (h2 : SimR n k2 r2) (h : stillK E k1 k2 = true) : still E r1 r2 = true := by
  unfold stillK at h
  obtain ⟨f, hf, h⟩ := onO_true h
  obtain ⟨ha, hb⟩ := andK_true h
  rw [h2.m.get] at ha
  rw [h2.m'.get] at hb
  obtain ⟨v, e1, e2⟩ := rdK_ok h1.s hf ha
  obtain ⟨v', e3, e4⟩ := rdK_ok h1.s hf hb
  rw [h1.o] at e1 e3
  rw [h1.v] at e2 e4
  simp only [still, same, e1, e3, e2, e4, Bool.and_self]

theorem pairK_ok {k1 k2 : RecK} {r1 r2 : Rec} (h1 : SimR n k1 r1) (h2 : SimR n k2 r2) (h : pairK E k1 k2 = true) : pairOK E r1 r2 = true := by
  unfold pairK at h
  unfold pairOK
  rw [h1.on, h2.on] at h
  rw [h1.o, h2.o] at h
  cases hb : (r1.on && r2.on) with
  | false => rfl
  | true =>
    simp only [hb, cond_true] at h ⊢
    generalize cls E r1.o.op = c1 at h ⊢
    generalize cls E r2.o.op = c2 at h ⊢
    cases c1 <;> cases c2 <;> first | exact stillK_ok h1 h2 h | exact stillK_ok h2 h1 h | cases h

theorem pairsK_ok {ks : List RecK} {rs : List Rec} (hs : SimRs n ks rs) : ∀ (l : List (Nat × Nat)), pairsK E ks l = true → pairsOK E rs l = true
  | [], _ => rfl
  | (i, j) :: l, h => by
    simp only [pairsK] at h
    split at h
    · rename_i ki kj hi hj
      obtain ⟨ri, h1, h2⟩ := hs.get i ki hi
      obtain ⟨rj, h3, h4⟩ := hs.get j kj hj
      simp only [Bool.and_eq_true] at h
      simp only [pairsOK, h1, h3, Bool.and_eq_true]
      exact ⟨pairK_ok h2 h4 h.1, pairsK_ok hs l h.2⟩
    · cases h

theorem regionK_ok (hc : CallSim call callk) {ops : Array Oper} {d : Bool} {k : SeqK} (hk : regionK E n ops d = some k) {s : T8} {F : Fr} {m : MK} {M : Mem} {κ : T8 → MK → Bool} (hs : SimF n s F) (hm : SimM m M) (h : k.run callk s m κ = true) :
    ∃ F' M' s' m', region E call ops d F M = some (F', M') ∧ SimF n s' F' ∧ SimM m' M' ∧ κ s' m' = true := by
  unfold regionK at hk
  unfold region
  split at hk
  · cases hd : hasDefer ops.toList with
    | true =>
      rw [hd, bsel_true] at hk
      obtain ⟨F', M', s', m', h1, h2⟩ := opsDK_ok hc hk hs hm h
      exact ⟨F', M', s', m', by simp only [cond_false, cond_true, h1], h2⟩
    | false =>
      rw [hd] at hk
      obtain ⟨F', M', s', m', h1, h2⟩ := opsK_ok hc (show opsK E n ops.toList ops.toList = some k from hk) hs hm h
      exact ⟨F', M', s', m', by simp only [cond_false, h1], h2⟩
  · simp only [cond_true]
    split at hk
    · rename_i hp
      obtain ⟨F', M', s', m', h1, h2⟩ := opsK_ok hc hk hs hm h
      exact ⟨F', M', s', m', by simp only [hp, h1], h2⟩
    · rename_i ps hne hp
      split at hk
      · rename_i r hr
        injection hk with hk; subst hk
        obtain ⟨rs, F', M', s', m', ks, h1, h2, h3, h4, h5⟩ := recsK_ok hc hr hs hm h
        obtain ⟨h6, h7⟩ := andK_true h5
        refine ⟨F', M', s', m', ?_, h2, h3, h7⟩
        simp only [hp]
        cases ps with
        | nil => exact absurd rfl hne
        | cons p ps => simp only [h1, pairsK_ok h4 _ h6, cond_true]
      · cases hk
    · cases hk

/-! code -/

theorem onNormal_eq (e : Ex) (s : T8) (m : MK) (k : T8 → MK → Bool) (κ : Ex → T8 → MK → Bool) : onNormal e s m k κ = match e with
    | .normal => k s m
    | e => κ e s m := by cases e <;> rfl

def CodeSim (E : Env) (n fuel : Nat) (call : CallF) (callk : CallKT) (c : Code) : Prop :=
  ∀ k, codeK E n fuel c = some k → ∀ {s : T8} {F : Fr} {m : MK} {M : Mem} {κ : Ex → T8 → MK → Bool}, SimF n s F → SimM m M → k.run callk s m κ = true →
    ∃ ex F' M' s' m', code E fuel call c F M = some (ex, F', M') ∧ SimF n s' F' ∧ SimM m' M' ∧ κ ex s' m' = true

noncomputable def loopK (b : CK) (callk : CallKT) (κ : Ex → T8 → MK → Bool) (k : Nat) : T8 → MK → Bool :=
  @Nat.rec (fun _ => T8 → MK → Bool) (fun _ _ => false) (fun _ ih s m => b.run callk s m fun e s m => onNormal e s m ih κ) k

theorem loopK_ok {fuel : Nat} {c : Code} {b : CK} (hb : codeK E n fuel c = some b) (ih : CodeSim E n fuel call callk c) : ∀ (k : Nat) {s : T8} {F : Fr} {m : MK} {M : Mem} {κ : Ex → T8 → MK → Bool}, SimF n s F → SimM m M → loopK b callk κ k s m = true →
    ∃ ex F' M' s' m', iter (code E fuel call c) k F M = some (ex, F', M') ∧ SimF n s' F' ∧ SimM m' M' ∧ κ ex s' m' = true
  | 0, s, F, m, M, κ, hs, hm, h => by cases h
  | k + 1, s, F, m, M, κ, hs, hm, h => by
    have h' : b.run callk s m (fun e s m => onNormal e s m (loopK b callk κ k) κ) = true := h
    obtain ⟨ex, F₁, M₁, s₁, m₁, h1, h2, h3, h4⟩ := ih b hb hs hm h'
    rw [onNormal_eq] at h4
    cases ex with
    | normal =>
      obtain ⟨ex, F', M', s', m', h5, h6⟩ := loopK_ok hb ih k h2 h3 h4
      exact ⟨ex, F', M', s', m', by simp only [iter, h1, h5], h6⟩
    | exit i => exact ⟨_, F₁, M₁, s₁, m₁, by simp only [iter, h1], h2, h3, h4⟩
    | goto i => exact ⟨_, F₁, M₁, s₁, m₁, by simp only [iter, h1], h2, h3, h4⟩
    | ret => exact ⟨_, F₁, M₁, s₁, m₁, by simp only [iter, h1], h2, h3, h4⟩

theorem codeK_ok (hc : CallSim call callk) (fuel : Nat) : ∀ c, CodeSim E n fuel call callk c := by
  intro c
  induction c with
  | skip =>
    intro k hk s F m M κ hs hm h
    injection hk with hk; subst hk
    exact ⟨_, F, M, s, m, rfl, hs, hm, h⟩
  | region id ops d =>
    intro k hk s F m M κ hs hm h
    have hk' : (match regionK E n ops d with
      | some r => some (⟨fun call s m κ => r.run call s m (κ .normal)⟩ : CK)
      | none => some ⟨fun _ _ _ _ => false⟩) = some k := hk
    split at hk'
    · rename_i r hr
      injection hk' with hk'; subst hk'
      obtain ⟨F', M', s', m', h1, h2⟩ := regionK_ok hc hr hs hm h
      exact ⟨_, F', M', s', m', by simp only [code, h1], h2⟩
    · injection hk' with hk'; subst hk'; cases h
  | seq x y ihx ihy =>
    intro k hk s F m M κ hs hm h
    have hk' : (match codeK E n fuel x, codeK E n fuel y with
      | some a, some b => some (⟨fun call s m κ => a.run call s m fun e s m => onNormal e s m (fun s m => b.run call s m κ) κ⟩ : CK)
      | _, _ => none) = some k := hk
    split at hk'
    · rename_i a b ha hb
      injection hk' with hk'; subst hk'
      obtain ⟨ex, F₁, M₁, s₁, m₁, h1, h2, h3, h4⟩ := ihx a ha hs hm h
      rw [onNormal_eq] at h4
      cases ex with
      | normal =>
        obtain ⟨ex, F', M', s', m', h5, h6⟩ := ihy b hb h2 h3 h4
        exact ⟨ex, F', M', s', m', by simp only [code, h1, h5], h6⟩
      | exit i => exact ⟨_, F₁, M₁, s₁, m₁, by simp only [code, h1], h2, h3, h4⟩
      | goto i => exact ⟨_, F₁, M₁, s₁, m₁, by simp only [code, h1], h2, h3, h4⟩
      | ret => exact ⟨_, F₁, M₁, s₁, m₁, by simp only [code, h1], h2, h3, h4⟩
    · cases hk'
  | cond o x y ihx ihy =>
    intro k hk s F m M κ hs hm h
    have hk' : (match evK E o, codeK E n fuel x, codeK E n fuel y with
      | some x, some a, some b => some (⟨fun call s m κ => onBool (x.get s) fun q => bsel q (a.run call s m κ) (b.run call s m κ)⟩ : CK)
      | _, _, _ => none) = some k := hk
    split at hk'
    · rename_i g a b hg ha hb
      injection hk' with hk'; subst hk'
      obtain ⟨q, hq, h⟩ := onBool_true h
      have i1 := evK_ok hs hg
      rw [hq] at i1
      cases q with
      | true =>
        obtain ⟨ex, F', M', s', m', h5, h6⟩ := ihx a ha hs hm h
        exact ⟨ex, F', M', s', m', by simp only [code, i1, cond_true, h5], h6⟩
      | false =>
        obtain ⟨ex, F', M', s', m', h5, h6⟩ := ihy b hb hs hm h
        exact ⟨ex, F', M', s', m', by simp only [code, i1, cond_false, h5], h6⟩
    · cases hk'
  | block id b ih =>
    intro k hk s F m M κ hs hm h
    have hk' : (match codeK E n fuel b with
      | some b => some (⟨fun call s m κ => b.run call s m fun e s m => @Ex.rec (fun _ => Bool) (κ .normal s m) (fun i => bsel (Nat.beq i id) (κ .normal s m) (κ (.exit i) s m)) (fun l => κ (.goto l) s m) (κ .ret s m) e⟩ : CK)
      | none => none) = some k := hk
    split at hk'
    · rename_i a ha
      injection hk' with hk'; subst hk'
      obtain ⟨ex, F₁, M₁, s₁, m₁, h1, h2, h3, h4⟩ := ih a ha hs hm h
      cases ex with
      | normal => exact ⟨_, F₁, M₁, s₁, m₁, by simp only [code, h1], h2, h3, h4⟩
      | exit i =>
        simp only at h4
        cases hb : Nat.beq i id with
        | true =>
          rw [hb] at h4
          exact ⟨_, F₁, M₁, s₁, m₁, by simp only [code, h1, hb, cond_true], h2, h3, h4⟩
        | false =>
          rw [hb] at h4
          exact ⟨_, F₁, M₁, s₁, m₁, by simp only [code, h1, hb, cond_false], h2, h3, h4⟩
      | goto i => exact ⟨_, F₁, M₁, s₁, m₁, by simp only [code, h1], h2, h3, h4⟩
      | ret => exact ⟨_, F₁, M₁, s₁, m₁, by simp only [code, h1], h2, h3, h4⟩
    · cases hk'
  | loop b ih =>
    intro k hk s F m M κ hs hm h
    have hk' : (match codeK E n fuel b with
      | some b => some (⟨fun call s m κ => loopK b call κ fuel s m⟩ : CK)
      | none => none) = some k := hk
    split at hk'
    · rename_i a ha
      injection hk' with hk'; subst hk'
      obtain ⟨ex, F', M', s', m', h5, h6⟩ := loopK_ok ha ih fuel hs hm h
      exact ⟨ex, F', M', s', m', by simp only [code, h5], h6⟩
    · cases hk'
  | rangeFunc f ps x y _ _ =>
    intro k hk s F m M κ hs hm h
    injection hk with hk; subst hk; cases h
  | exit id =>
    intro k hk s F m M κ hs hm h
    injection hk with hk; subst hk
    exact ⟨_, F, M, s, m, rfl, hs, hm, h⟩
  | scope b _ =>
    intro k hk s F m M κ hs hm h
    injection hk with hk; subst hk; cases h
  | label l =>
    intro k hk s F m M κ hs hm h
    injection hk with hk; subst hk
    exact ⟨_, F, M, s, m, rfl, hs, hm, h⟩
  | goto l =>
    intro k hk s F m M κ hs hm h
    injection hk with hk; subst hk
    exact ⟨_, F, M, s, m, rfl, hs, hm, h⟩
  | ret =>
    intro k hk s F m M κ hs hm h
    injection hk with hk; subst hk
    exact ⟨_, F, M, s, m, rfl, hs, hm, h⟩
  | refuse w =>
    intro k hk s F m M κ hs hm h
    injection hk with hk; subst hk; cases h

/-! functions -/

theorem res1K_ok {s : T8} {F : Fr} (hs : SimF n s F) {m : MK} {M : Mem} (hm : SimM m M) {x : ResultVar} {r : RdK} (h : res1K E x = some r) {κ : AVal → Bool} (hr : r.f (hget m.heap) s κ = true) : ∃ v, results1 E F M x = some v ∧ κ v = true := by
  cases x with
  | tmp t =>
    obtain ⟨hb, h⟩ := bsel_some h
    injection h with h; subst h
    refine ⟨_, rfl, ?_⟩
    rw [← hs.get t (of_blt hb)]
    exact hr
  | cell a t =>
    obtain ⟨hb, h⟩ := bsel_some h
    rw [hm.get] at hr
    obtain ⟨v, h1, h2⟩ := loadK_ok h hr
    rw [hs.get a (of_blt hb)] at h1
    exact ⟨v, h1, h2⟩

theorem ressK_ok {s : T8} {F : Fr} (hs : SimF n s F) {m : MK} {M : Mem} (hm : SimM m M) : ∀ {l : List ResultVar} {r : ResK}, ressK E l = some r → ∀ {κ : List AVal → Bool}, r.f (hget m.heap) s κ = true → ∃ vs, optMap (results1 E F M) l = some vs ∧ κ vs = true
  | [], r, h, κ, hr => by
    simp only [ressK, Option.some.injEq] at h
    subst h
    exact ⟨[], rfl, hr⟩
  | x :: l, r, h, κ, hr => by
    simp only [ressK] at h
    split at h
    · rename_i a b ha hb
      injection h with h; subst h
      obtain ⟨v, h1, h2⟩ := res1K_ok hs hm ha hr
      obtain ⟨vs, h3, h4⟩ := ressK_ok hs hm hb h2
      exact ⟨v :: vs, by simp only [optMap, h1, h3], h4⟩
    · cases h

theorem resK_ok {s : T8} {F : Fr} (hs : SimF n s F) {m : MK} {M : Mem} (hm : SimM m M) {l : List ResultVar} {r : RdK} (h : resK E l = some r) {κ : AVal → Bool} (hr : r.f (hget m.heap) s κ = true) : ∃ v, Ev.results E F M l = some v ∧ κ v = true := by
  unfold resK at h
  split at h
  · rename_i x
    obtain ⟨v, h1, h2⟩ := res1K_ok hs hm h hr
    exact ⟨v, by simp only [Ev.results, optMap, h1], h2⟩
  · rename_i l' hne
    split at h
    · rename_i a ha
      injection h with h; subst h
      obtain ⟨vs, h1, h2⟩ := ressK_ok hs hm ha hr
      refine ⟨.tuple vs, ?_, h2⟩
      unfold Ev.results
      rw [h1]
      have hl := (optMap_some _ _ _ h1).1
      split
      · rename_i u hu
        injection hu with hu
        subst hu
        obtain ⟨x, rfl⟩ := List.length_eq_one_iff.1 (hl.trans rfl)
        exact absurd rfl (hne x)
      · rename_i us _ hu
        injection hu with hu; subst hu; rfl
      · rename_i hu; cases hu
    · cases h

theorem t0_get (i : Nat) : (mkGet i).get t0 = .undef := by
  have hl {α : Type} (d : Nat) (x : α) : (lens α d).g (fill8 x) = x := by
    rcases d with _ | _ | _ | _ | _ | _ | _ | _ <;> rfl
  simp only [mkGet, t0, hl]

theorem argsK_ok : ∀ (l : List AVal) (i : Nat) (s : T8) (F : Fr), i + l.length ≤ 512 → (∀ j, j < 512 → (mkGet j).get s = F.get j) → ∀ j, j < 512 → (mkGet j).get (argsK l i s) = (Fr.ofArgs l i F).get j
  | [], i, s, F, _, h => h
  | v :: l, i, s, F, hle, h => by
    simp only [List.length_cons] at hle
    have h1 : argsK (v :: l) i s = argsK l (i + 1) ((mkSet i).set v s) := rfl
    rw [h1]
    simp only [Fr.ofArgs]
    refine argsK_ok l (i + 1) _ _ (by omega) fun j hj => ?_
    rw [get_set hj (by omega)]
    simp only [Fr.get, Trie.get_set]
    by_cases hji : j = i
    · rw [if_pos hji, if_pos hji]
    · rw [if_neg hji, if_neg hji]
      exact h j hj

theorem callK_ok (fuel : Nat) : ∀ d, CallSim (callE E fuel d) (callK E fuel d)
  | 0 => fun f args m M κ hm h => by cases h
  | d + 1 => fun f args m M κ hm h => by
    have h' : onO (lookK E fuel f) (fun k => k.run (callK E fuel d) args m κ) = true := h
    obtain ⟨k, hk, h⟩ := onO_true h'
    unfold lookK at hk
    split at hk
    · rename_i fn hfn
      unfold fnK at hk
      simp only at hk
      split at hk
      · rename_i c hn hb
        split at hk
        · rename_i kc r hkc hr
          injection hk with hk; subst hk
          simp only at h
          cases hle : Nat.ble args.length fn.ntmps with
          | false => rw [hle] at h; cases h
          | true =>
            rw [hle, bsel_true] at h
            have hle := of_ble hle
            have hn := of_ble hn
            have hs : SimF fn.ntmps (argsK args 0 t0) (enter fn args) := by
              refine ⟨?_, hn, ?_⟩
              · unfold enter
                rw [(ofArgs_get args 0 _ 0).1]
                simp only
                omega
              · unfold enter
                exact argsK_ok args 0 t0 _ (by omega) fun j _ => by rw [t0_get]; simp [Fr.get, Trie.get_nil]
            obtain ⟨ex, F', M', s', m', h1, h2, h3, h4⟩ := codeK_ok (callK_ok fuel d) fuel c kc hkc hs hm h
            have fin (hq : r.f (hget m'.heap) s' (fun v => κ v m') = true) (hex : ex = .normal ∨ ex = .ret) : ∃ v M' m', callE E fuel (d + 1) f args M = some (v, M') ∧ SimM m' M' ∧ κ v m' = true := by
              obtain ⟨v, h5, h6⟩ := resK_ok h2 h3 hr hq
              refine ⟨v, M', m', ?_, h3, h6⟩
              rcases hex with rfl | rfl <;> simp only [callE, hfn, hb, h1, h5]
            cases ex with
            | normal => exact fin h4 (.inl rfl)
            | exit i => cases h4
            | goto i => cases h4
            | ret => exact fin h4 (.inr rfl)
        · cases hk
      · cases hk
    · cases hk

end
end Go.Ev
