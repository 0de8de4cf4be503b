/- A part of the proof that an evaluator of the machine's code is sound (EvSum). No conditions. -/
import Derived.Test.YtnklododmdplmaaGreatDoorEvStart
namespace Go.Ev

/-! Functions without arguments whose closed run was shown once: they answer true, and change nothing of old. -/

/-- one call, on top of calls that are taken -/
def callOn (E : Env) (N : Nat) (call : CallF) : CallF := fun f args M =>
  match E.fn f with
  | some fn => match fn.body with
    | some c => match code E N call c (enter fn args) M with
      | some (.normal, F, M') | some (.ret, F, M') => match Ev.results E F M' fn.results.toList with
        | some v => some (v, M')
        | none => none
      | _ => none
    | none => none
  | none => none

def sameInt (a b : AVal) : Bool :=
  match a, b with
  | .int k m, .int k' n => decide (k = k') && (m == n)
  | _, _ => false

def sameInts : List AVal → List AVal → Bool
  | [], [] => true
  | a :: as, b :: bs => sameInt a b && sameInts as bs
  | _, _ => false

def tabB (T : List (Nat × List AVal)) (g : Nat → Option AObj) : Bool :=
  match T with
  | [] => true
  | x :: l => match g x.1 with
    | some (.cells c _ _ _) => sameInts c x.2 && tabB l g
    | _ => false

/-- the tables, each with the type of its elements -/
def typed (T : List (Nat × List AVal)) (τ : Nat → Nat) : List (Nat × List AVal × Nat) := T.map fun x => (x.1, x.2, τ x.1)

def sumOn (S : List Nat) (T : List (Nat × List AVal)) (call : CallF) : CallF := fun f args M =>
  bif memN S f then
    match args with
    | [] => bif tabB T M.get then some (.bool true, M) else none
    | _ :: _ => none
  else call f args M

def callS (E : Env) (N : Nat) (S : List Nat) (T : List (Nat × List AVal)) : Nat → CallF
  | 0 => fun _ _ _ => none
  | n + 1 => sumOn S T (callOn E N (callS E N S T n))

noncomputable def callKOn (E : Env) (fuel : Nat) (call : CallKT) : CallKT := fun f args m κ => onO (lookK E fuel f) fun k => k.run call args m κ

noncomputable def sumK (S : List Nat) (T : List (Nat × List AVal)) (call : CallKT) : CallKT := fun f args m κ =>
  bsel (memN S f) (@List.rec AVal (fun _ => Bool) (bsel (tabB T (hget m.heap)) (κ (.bool true) m) false) (fun _ _ _ => false) args) (call f args m κ)

noncomputable def callKS (E : Env) (fuel : Nat) (S : List Nat) (T : List (Nat × List AVal)) (d : Nat) : CallKT :=
  @Nat.rec (fun _ => CallKT) (fun _ _ _ _ => false) (fun _ ih => sumK S T (callKOn E fuel ih)) d

/-! the twin -/

section
variable {E : Env}

theorem callKOn_ok (fuel : Nat) {call : CallF} {callk : CallKT} (hc : CallSim call callk) : CallSim (callOn E fuel call) (callKOn E fuel callk) := fun f args m M κ hm h => by
    have h' : onO (lookK E fuel f) (fun k => k.run callk args m κ) = true := h
    obtain ⟨k, hk, h⟩ := onO_true h'
    unfold lookK at hk
    split at hk
    · rename_i fn hfn
      unfold fnK at hk
      simp only at hk
      split at hk
      · rename_i c hn hb
        split at hk
        · rename_i kc r hkc hr
          injection hk with hk; subst hk
          simp only at h
          cases hle : Nat.ble args.length fn.ntmps with
          | false => rw [hle] at h; cases h
          | true =>
            rw [hle, bsel_true] at h
            have hle := of_ble hle
            have hn := of_ble hn
            have hs : SimF fn.ntmps (argsK args 0 t0) (enter fn args) := by
              refine ⟨?_, hn, ?_⟩
              · unfold enter
                rw [(ofArgs_get args 0 _ 0).1]
                simp only
                omega
              · unfold enter
                exact argsK_ok args 0 t0 _ (by omega) fun j _ => by rw [t0_get]; simp [Fr.get, Trie.get_nil]
            obtain ⟨ex, F', M', s', m', h1, h2, h3, h4⟩ := codeK_ok hc fuel c kc hkc hs hm h
            have fin (hq : r.f (hget m'.heap) s' (fun v => κ v m') = true) (hex : ex = .normal ∨ ex = .ret) : ∃ v M' m', callOn E fuel call f args M = some (v, M') ∧ SimM m' M' ∧ κ v m' = true := by
              obtain ⟨v, h5, h6⟩ := resK_ok h2 h3 hr hq
              refine ⟨v, M', m', ?_, h3, h6⟩
              rcases hex with rfl | rfl <;> simp only [callOn, hfn, hb, h1, h5]
            cases ex with
            | normal => exact fin h4 (.inl rfl)
            | exit i => cases h4
            | goto i => cases h4
            | ret => exact fin h4 (.inr rfl)
        · cases hk
      · cases hk
    · cases hk

theorem sumK_ok (S : List Nat) (T : List (Nat × List AVal)) {call : CallF} {callk : CallKT} (hc : CallSim call callk) : CallSim (sumOn S T call) (sumK S T callk) := fun f args m M κ hm h => by
  have h' : bsel (memN S f) (@List.rec AVal (fun _ => Bool) (bsel (tabB T (hget m.heap)) (κ (.bool true) m) false) (fun _ _ _ => false) args) (callk f args m κ) = true := h
  unfold sumOn
  cases hq : memN S f with
  | false =>
    rw [hq] at h'
    simp only [cond_false]
    exact hc f args m M κ hm h'
  | true =>
    rw [hq] at h'
    simp only [cond_true]
    cases args with
    | cons a l => cases h'
    | nil =>
      have h2 : bsel (tabB T (hget m.heap)) (κ (.bool true) m) false = true := h'
      rw [hm.get] at h2
      cases ht : tabB T M.get with
      | false => rw [ht] at h2; cases h2
      | true => rw [ht] at h2; exact ⟨.bool true, M, m, by simp, hm, h2⟩

theorem callKS_ok (fuel : Nat) (S : List Nat) (T : List (Nat × List AVal)) : ∀ d, CallSim (callS E fuel S T d) (callKS E fuel S T d)
  | 0 => fun f args m M κ hm h => by cases h
  | d + 1 => sumK_ok S T (callKOn_ok fuel (callKS_ok fuel S T d))

end

/-! the calls -/

theorem sameInts_eq : ∀ {a b : List AVal}, sameInts a b = true → a = b
  | [], [], _ => rfl
  | a :: as, b :: bs, h => by
    simp only [sameInts, Bool.and_eq_true] at h
    have h1 : a = b := by
      have := h.1
      unfold sameInt at this
      split at this
      · simp only [Bool.and_eq_true, decide_eq_true_eq, beq_iff_eq] at this
        rw [this.1, this.2]
      · cases this
    rw [h1, sameInts_eq h.2]
  | [], _ :: _, h => by cases h
  | _ :: _, [], h => by cases h

theorem tabB_get : ∀ {T : List (Nat × List AVal)} {g : Nat → Option AObj}, tabB T g = true → ∀ x ∈ T, ∃ e opn ro, g x.1 = some (.cells x.2 e opn ro)
  | [], g, h, x, hx => by cases hx
  | y :: l, g, h, x, hx => by
    simp only [tabB] at h
    split at h
    · rename_i c e opn ro hg
      simp only [Bool.and_eq_true] at h
      have h2 := sameInts_eq h.1
      rcases List.mem_cons.1 hx with rfl | hx
      · subst h2; exact ⟨_, _, _, hg⟩
      · exact tabB_get h.2 x hx
    · cases h

def typeAt (M : Mem) (g : Nat) : Nat := match M.get g with
  | some (.cells _ e _ _) => e
  | _ => 0

theorem typed_mem {T : List (Nat × List AVal)} {τ : Nat → Nat} {x : Nat × List AVal × Nat} (h : x ∈ typed T τ) : ∃ y ∈ T, x = (y.1, y.2, τ y.1) := by
  unfold typed at h
  obtain ⟨y, hy, rfl⟩ := List.mem_map.1 h
  exact ⟨y, hy, rfl⟩

section
variable {E : Env} {P : Program}

/-- a memory with the tables is one in which a closed run begins -/
theorem start_of_rel {ρ : Emb} {M : Mem} {w : World} {T : List (Nat × List AVal)} (hr : Rel E ρ M w) (hlt : ∀ x ∈ T, x.1 < E.ng) (hi : ∀ x ∈ T, ∃ k zs, x.2 = tabV k zs) (h : tabB T M.get = true) :
    Rel E (startE E.ng []) (startM E.ng (typed T (typeAt M))) w where
  glob g hg := ⟨0, by simp [startE, hg]⟩
  ngle := by rw [start_next]; exact Nat.le_refl _
  lt b o h := by
    obtain ⟨x, hx, rfl, _⟩ := start_get h
    obtain ⟨y, hy, rfl⟩ := typed_mem hx
    rw [start_next]
    exact hlt y hy
  heap b o hb := by
    obtain ⟨x, hx, rfl, rfl⟩ := start_get hb
    obtain ⟨y, hy, rfl⟩ := typed_mem hx
    obtain ⟨e, opn, ro, hg⟩ := tabB_get h y hy
    obtain ⟨l, ob, h1, h2, h3⟩ := hr.heap _ _ hg
    obtain ⟨z, hz⟩ := hr.glob y.1 (hlt y hy)
    rw [hz] at h1
    injection h1 with h1
    subst h1
    have ht : typeAt M y.1 = e := by unfold typeAt; rw [hg]
    obtain ⟨k, zs, hz⟩ := hi y hy
    refine ⟨⟨y.1, 0, 0, dv⟩, ob, by simp [startE, hlt y hy], h2, ?_⟩
    rw [ht]
    obtain ⟨c', fr, e1, e2, e3, e4, e5⟩ := h3
    refine ⟨c', fr, e1, e2, fun i a ha => ?_, (fun h => by cases h), (fun s hs => by cases hs), fun _ => rfl⟩
    obtain ⟨v, hv, hr⟩ := e3 i a ha
    refine ⟨v, hv, ?_⟩
    simp only at ha
    rw [hz] at ha
    simp only [tabV, List.getElem?_map, Option.map_eq_some_iff] at ha
    obtain ⟨n, _, rfl⟩ := ha
    simpa [AVal.rel] using hr
  inj b b' o o' l1 l2 h h' e e' hc := by
    obtain ⟨x, hx, rfl, _⟩ := start_get h
    obtain ⟨y, hy, rfl, _⟩ := start_get h'
    obtain ⟨x', hx', rfl⟩ := typed_mem hx
    obtain ⟨y', hy', rfl⟩ := typed_mem hy
    simp only [startE, hlt x' hx', hlt y' hy', if_true, Option.some.injEq] at e e'
    subst e; subst e'
    exact hc

/-- what is asked of a function whose run is taken as a whole -/
def SumOk (E : Env) (P : Program) (T : List (Nat × List AVal)) (f : Nat) : Prop :=
  ∀ τ w, Rel E (startE E.ng []) (startM E.ng (typed T τ)) w → Calls P f #[] w fun e w' => ∃ ρ' M', e = .returned (.bool true) ∧ Trans E (startE E.ng []) (startM E.ng (typed T τ)) w ρ' M' w'

def isTrueK (v : AVal) (_ : MK) : Bool := onBool v fun b => b

theorem typed_lt {T : List (Nat × List AVal)} {τ : Nat → Nat} {n : Nat} (h : ∀ x ∈ T, x.1 < n) : ∀ x ∈ typed T τ, x.1 < n := fun x hx => by
  obtain ⟨y, hy, rfl⟩ := typed_mem hx
  exact h y hy

theorem sumOk_of_run (ok : EnvOk E P) {T : List (Nat × List AVal)} (hng : ∀ x ∈ T, x.1 < 4096) {fuel d f : Nat} (h : ∀ τ, callK E fuel d f [] (startK E.ng (typed T τ)) isTrueK = true) : SumOk E P T f := by
  intro τ w hr
  obtain ⟨v, M', m', h1, _, h3⟩ := callK_ok fuel d f [] _ _ isTrueK (start_sim E.ng (typed T τ) (typed_lt hng)) (h τ)
  have hc := (callE_ok ok fuel d f [] _ v M' h1).2 (startE E.ng []) w #[] hr relL_nil (start_free _ _ _ _)
  obtain ⟨b, hv, hb⟩ := onBool_true h3
  subst hv; subst hb
  refine hc.mono fun e W' ⟨v', ρ', he, hv, ht⟩ => ⟨ρ', M', ?_, ht⟩
  simp only [AVal.rel] at hv
  rw [he, hv]

theorem trans_of_sum {ρ ρ₁ : Emb} {M M₁ : Mem} {w w' : World} {T : List (Nat × List AVal × Nat)} (hr : Rel E ρ M w) (ht : Trans E (startE E.ng []) (startM E.ng T) w ρ₁ M₁ w') : Trans E ρ M w ρ M w' where
  nxt := Nat.le_refl _
  ext _ _ := rfl
  rel := ⟨hr.glob, hr.ngle, hr.lt, fun b o h => by
    obtain ⟨l, ob, h1, h2, h3⟩ := hr.heap b o h
    refine ⟨l, ob, h1, ?_, h3⟩
    have hlt : l.c < w.heap.size := (Array.getElem?_eq_some_iff.1 h2).1
    rw [ht.frame _ hlt (start_wr _ _ _ _)]
    exact h2, hr.inj⟩
  frame c hc _ := ht.frame c hc (start_wr _ _ _ _)
  size := ht.size
  wsub _ h := .inl h
  lsub _ h := .inl h
  tape := ht.tape
  os := ht.os
  output := ht.output

theorem sumOn_ok {T : List (Nat × List AVal)} {S : List Nat} (hlt : ∀ x ∈ T, x.1 < E.ng) (hi : ∀ x ∈ T, ∃ k zs, x.2 = tabV k zs) (hs : ∀ f ∈ S, SumOk E P T f) {call : CallF} (hc : CallOk E P call) : CallOk E P (sumOn S T call) := by
  intro f args M v M' h
  unfold sumOn at h
  cases hq : memN S f with
  | false =>
    rw [hq, cond_false] at h
    exact hc f args M v M' h
  | true =>
    rw [hq, cond_true] at h
    cases args with
    | cons a l => cases h
    | nil =>
      simp only at h
      cases ht : tabB T M.get with
      | false => rw [ht] at h; cases h
      | true =>
        rw [ht, cond_true] at h
        simp only [Option.some.injEq, Prod.mk.injEq] at h
        obtain ⟨rfl, rfl⟩ := h
        refine ⟨Grow.refl _, fun ρ w args' hr ha _ => ?_⟩
        simp only [relL] at ha
        have ha' : args' = #[] := by apply Array.ext'; simpa using ha
        subst ha'
        refine (hs f (memN_mem hq) _ w (start_of_rel hr hlt hi ht)).mono fun e w' ⟨ρ', M', he, htr⟩ => ⟨.bool true, ρ, he, by simp [AVal.rel], trans_of_sum hr htr⟩

theorem callOn_ok (ok : EnvOk E P) (N : Nat) {call : CallF} (hcall : CallOk E P call) : CallOk E P (callOn E N call) := fun f args M v M' h => by
    have S := sound_of ok hcall
    simp only [callOn] at h
    split at h
    · rename_i fn hfn
      obtain ⟨h1, h2, h3⟩ := ok.fn f fn hfn
      split at h
      · rename_i c hc
        have key (ex : Ex) (F' : Fr) (M₁ : Mem) (hex : ex = .normal ∨ ex = .ret) (hcode : code E N call c (enter fn args) M = some (ex, F', M₁)) (hres : (match Ev.results E F' M₁ fn.results.toList with
            | some v => some (v, M₁)
            | none => none) = some (v, M')) : Grow M M' ∧ ∀ ρ w (args' : Array Value), Rel E ρ M w → relL ρ args args'.toList → Free ρ M M' →
              Calls P f args' w fun e w' => ∃ v' ρ', e = .returned v' ∧ v.rel ρ' v' ∧ Trans E ρ M w ρ' M' w' := by
          split at hres
          · rename_i u hu
            simp only [Option.some.injEq, Prod.mk.injEq] at hres
            obtain ⟨rfl, rfl⟩ := hres
            obtain ⟨g, wpc⟩ := code_ok S N c _ _ _ _ _ hcode
            refine ⟨g, fun ρ w args' hr ha hf => calls_of_wp_defers h1 hc (wpc ρ _ w hr (enter_rel ha) hf _ fun ρ' a' w' hF' hd ht => ?_)⟩
            obtain ⟨v', h4, h5⟩ := results_sound ok ht.rel hF' hu
            have hR : Leaves P fn a'.tmps (fun e w' => ∃ v' ρ', e = .returned v' ∧ u.rel ρ' v' ∧ Trans E ρ M w ρ' M₁ w') a'.defers .returning w' :=
              leaves_quiet ⟨v', h4, v', ρ', rfl, h5, ht⟩ _ (hd fun d hd => by cases hd)
            rcases hex with rfl | rfl
            · exact hR
            · exact hR
          · cases hres
        split at h
        · rename_i F' M₁ hcode
          exact key _ F' M₁ (.inl rfl) hcode h
        · rename_i F' M₁ hcode
          exact key _ F' M₁ (.inr rfl) hcode h
        · cases h
      · cases h
    · cases h

theorem callS_ok (ok : EnvOk E P) (N : Nat) {T : List (Nat × List AVal)} {S : List Nat} (hlt : ∀ x ∈ T, x.1 < E.ng) (hi : ∀ x ∈ T, ∃ k zs, x.2 = tabV k zs) (hs : ∀ f ∈ S, SumOk E P T f) : ∀ n, CallOk E P (callS E N S T n)
  | 0 => fun f args M v M' h => by simp [callS] at h
  | n + 1 => sumOn_ok hlt hi hs (callOn_ok ok N (callS_ok ok N hlt hi hs n))

/-- A run that K takes, with calls that are taken as a whole. -/
theorem run_sums (ok : EnvOk E P) {W : World} {vs : List Value} {T : List (Nat × List AVal)} {S : List Nat} {τ : Nat → Nat} (hlt : ∀ x ∈ T, x.1 < E.ng) (hng : ∀ x ∈ T, x.1 < 4096) (hl : ∀ x ∈ T, ∃ k zs, x.2 = tabV k zs ∧ TabAt W x.1 (τ x.1) k zs)
    (hs : ∀ f ∈ S, SumOk E P T f) {fuel d f : Nat} {args : List AVal} {args' : Array Value} {κ : AVal → MK → Bool} (ha : relL (startE E.ng vs) args args'.toList) (h : callKS E fuel S T d f args (startK (E.ng + vs.length) (typed T τ)) κ = true) :
    Calls P f args' W fun e W' => ∃ v v' ρ' m', e = .returned v' ∧ v.rel ρ' v' ∧ κ v m' = true ∧ Old W W' := by
  obtain ⟨v, M', m', h1, _, h3⟩ := callKS_ok fuel S T d f args _ _ κ (start_sim (E.ng + vs.length) (typed T τ) (typed_lt hng)) h
  have hi : ∀ x ∈ T, ∃ k zs, x.2 = tabV k zs := fun x hx => let ⟨k, zs, h, _⟩ := hl x hx; ⟨k, zs, h⟩
  have hl' : ∀ x ∈ typed T τ, ∃ k zs, x.2.1 = tabV k zs ∧ TabAt W x.1 x.2.2 k zs := fun x hx => by
    obtain ⟨y, hy, rfl⟩ := typed_mem hx
    exact hl y hy
  have hc := (callS_ok ok fuel hlt hi hs d f args _ v M' h1).2 (startE E.ng vs) W args' (start_rel (typed_lt hlt) hl') ha (start_free _ _ _ _)
  refine hc.mono fun e W' ⟨v', ρ', he, hv, ht⟩ => ⟨v, v', ρ', m', he, hv, h3, old_of_trans ht⟩

end
end Go.Ev
