/- A part of the proof that an evaluator of the machine's code is sound (EvK2). No conditions. -/
import Derived.Test.YtnklododmdplmaaGreatDoorEvK1
namespace Go.Ev

theorem addI_eq (a b : Int) : addI a b = a + b := by cases a <;> cases b <;> rfl
theorem subI_eq (a b : Int) : subI a b = a - b := by
  cases a with
  | ofNat m =>
    cases b with
    | ofNat n =>
      show bsel (Nat.ble n m) (Int.ofNat (Nat.sub m n)) (Int.sub (Int.ofNat m) (Int.ofNat n)) = _
      cases h : Nat.ble n m with
      | true =>
        have := of_ble h
        show Int.ofNat (m - n) = Int.ofNat m - Int.ofNat n
        simp only [Int.ofNat_eq_natCast]
        omega
      | false => rfl
    | negSucc n => rfl
  | negSucc m => cases b <;> rfl
theorem ltI_eq (a b : Int) : ltI a b = decide (a < b) := by
  cases a with
  | ofNat m =>
    cases b with
    | ofNat n =>
      show Nat.ble (Nat.succ m) n = _
      cases h : Nat.ble (Nat.succ m) n with
      | true =>
        have := of_ble h
        symm; rw [decide_eq_true_eq]
        simp only [Int.ofNat_eq_natCast]; omega
      | false =>
        symm; rw [decide_eq_false_iff_not]
        simp only [Int.ofNat_eq_natCast]
        intro hlt
        have : Nat.ble (Nat.succ m) n = true := Nat.ble_eq_true_of_le (by omega)
        rw [h] at this; cases this
    | negSucc n =>
      show false = _
      symm; rw [decide_eq_false_iff_not]
      simp only [Int.ofNat_eq_natCast, Int.negSucc_eq]; omega
  | negSucc m =>
    cases b with
    | ofNat n =>
      show true = _
      symm; rw [decide_eq_true_eq]
      simp only [Int.ofNat_eq_natCast, Int.negSucc_eq]; omega
    | negSucc n =>
      show Nat.ble (Nat.succ n) m = _
      cases h : Nat.ble (Nat.succ n) m with
      | true =>
        have := of_ble h
        symm; rw [decide_eq_true_eq]
        simp only [Int.negSucc_eq]; omega
      | false =>
        symm; rw [decide_eq_false_iff_not]
        simp only [Int.negSucc_eq]
        intro hlt
        have : Nat.ble (Nat.succ n) m = true := Nat.ble_eq_true_of_le (by omega)
        rw [h] at this; cases this
theorem nbeq (m n : Nat) : Nat.beq m n = decide (m = n) := by
  cases h : Nat.beq m n with
  | true => have := of_beq h; simp [this]
  | false =>
    symm; rw [decide_eq_false_iff_not]
    intro e; subst e; simp at h
theorem eqI_eq (a b : Int) : eqI a b = decide (a = b) := by
  cases a with
  | ofNat m =>
    cases b with
    | ofNat n => show Nat.beq m n = _; rw [nbeq]; simp; constructor <;> intro <;> omega
    | negSucc n => show false = _; simp
  | negSucc m =>
    cases b with
    | ofNat n => show false = _; simp
    | negSucc n => show Nat.beq m n = _; rw [nbeq]; simp
theorem notK_eq (a : Bool) : notK a = !a := by cases a <;> rfl

theorem wrap_small (k : IntKind) (m : Nat) (h : m ≤ topOf k) : k.wrap (Int.ofNat m) = Int.ofNat m := by
  cases k <;> simp only [topOf] at h <;> unfold IntKind.wrap <;> simp [IntKind.bits, IntKind.signed] <;> omega

theorem mkWrap_eq (k : IntKind) (i : Int) (κ : Int → Bool) : (mkWrap k).w i κ = κ (k.wrap i) := by
  cases i with
  | ofNat m =>
    show forceN m (fun m => bsel (Nat.ble m (topOf k)) (κ (Int.ofNat m)) (forceI (k.wrap (Int.ofNat m)) κ)) = _
    rw [forceN_eq]
    cases h : Nat.ble m (topOf k) with
    | true => rw [wrap_small k m (of_ble h)]; rfl
    | false => show forceI (k.wrap (Int.ofNat m)) κ = _; rw [forceI_eq]
  | negSucc m =>
    show forceI (k.wrap (Int.negSucc m)) κ = _
    rw [forceI_eq]

theorem kEq_true {a b : IntKind} (h : kEq a b = true) : a = b := by simpa [kEq] using h

theorem intF_ok {op : BinOp} {k : IntKind} {a b : Int} {κ : AVal → Bool} (h : (intF op k).f a b κ = true) : ∃ v, intBin op k a b = some v ∧ κ v = true := by
  unfold intF at h
  split at h
  · simp only [mkWrap_eq, addI_eq] at h; exact ⟨_, rfl, h⟩
  · simp only [mkWrap_eq, subI_eq] at h; exact ⟨_, rfl, h⟩
  · refine ⟨_, rfl, ?_⟩
    simp only [eqI_eq] at h
    exact h
  · refine ⟨_, rfl, ?_⟩
    simp only [eqI_eq, notK_eq] at h
    exact h
  · simp only [ltI_eq] at h; exact ⟨_, rfl, h⟩
  · refine ⟨_, rfl, ?_⟩
    simp only [ltI_eq, notK_eq] at h
    rw [← h]
    congr 2
    by_cases hab : a ≤ b
    · simp [hab] <;> omega
    · simp [hab] <;> omega
  · refine ⟨_, rfl, ?_⟩
    simp only [ltI_eq] at h
    exact h
  · refine ⟨_, rfl, ?_⟩
    simp only [ltI_eq, notK_eq] at h
    rw [← h]
    congr 2
    by_cases hab : a ≥ b
    · simp [hab] <;> omega
    · simp [hab] <;> omega
  · exact onO_true h

theorem bin_int {E : Env} {op : BinOp} (hs : isShift op = false) (t : Nat) (cx cy : Bool) (k : IntKind) (m n : Int) : bin E op t cx cy (.int k m) (.int k n) = intBin op k m n := by
  cases op <;> simp [isShift] at hs <;> simp [bin]

section
variable {E : Env} {n : Nat} {s : T8} {F : Fr}

theorem loadK_ok {t : Nat} {a : GetK} {r : RdK} (h : loadK E t a = some r) {g : Nat → Option AObj} {κ : AVal → Bool} (hr : r.f g s κ = true) : ∃ v, loadV E g t (a.get s) = some v ∧ κ v = true := by
  unfold loadK at h
  split at h
  · rename_i d m hd hm
    split at h
    · rename_i hagg
      obtain ⟨hb, h⟩ := bsel_some' h
      injection h with h; subst h
      simp only at hr
      obtain ⟨b, off, hx, hr⟩ := onPtr_true hr
      obtain ⟨c, e, opn, ro, hc, hr⟩ := onCells_true hr
      obtain ⟨h1, h2⟩ := takeK_true hr
      rw [dropK_eq] at h1 h2
      have hm0 : m ≠ 0 := fun e => by subst e; simp at hb
      have hle : Nat.ble (off + m) c.length = true := Nat.ble_eq_true_of_le (by simp at h1; omega)
      refine ⟨.agg ((c.drop off).take m), ?_, h2⟩
      simp only [loadV, hx, hd, hm, hagg, cond_true, getCells, hc, hle, Option.map_some]
    · rename_i hagg
      injection h with h; subst h
      simp only at hr
      obtain ⟨b, off, hx, hr⟩ := onPtr_true hr
      obtain ⟨c, e, opn, ro, hc, hr⟩ := onCells_true hr
      obtain ⟨v, h1, h2⟩ := nthK_true hr
      refine ⟨v, ?_, h2⟩
      simp only [loadV, hx, hd, hm, hagg, cond_false, hc, h1]
  · cases h

theorem rdK_ok (hs : SimF n s F) {o : Op} {r : RdK} (h : rdK E o = some r) {g : Nat → Option AObj} {κ : AVal → Bool} (hr : r.f g s κ = true) : ∃ v, rd E g F o = some v ∧ κ v = true := by
  have one {x : Operand} {f : GetK → RdK} (h : (evK E x).map f = some r) : ∃ a, ev E F x = some (a.get s) ∧ r = f a := by
    rw [Option.map_eq_some_iff] at h
    obtain ⟨a, h1, rfl⟩ := h
    exact ⟨a, evK_ok hs h1, rfl⟩
  cases o <;> simp only [rdK] at h <;> try (cases h; done)
  case move x =>
    obtain ⟨a, h1, rfl⟩ := one h
    exact ⟨_, h1, hr⟩
  case assign x =>
    obtain ⟨a, h1, rfl⟩ := one h
    exact ⟨_, h1, hr⟩
  case pick c x y =>
    split at h
    · rename_i a1 a2 a3 h1 h2 h3
      injection h with h; subst h
      obtain ⟨q, hq, hr⟩ := onBool_true hr
      have i1 := evK_ok hs h1
      rw [hq] at i1
      simp only [rd, pickV, i1]
      cases q with
      | true => exact ⟨_, evK_ok hs h2, hr⟩
      | false => exact ⟨_, evK_ok hs h3, hr⟩
    · cases h
  case nilCheck x =>
    obtain ⟨a, h1, rfl⟩ := one h
    simp only [rd, nilV, h1]
    simp only at hr
    generalize a.get s = v at hr h1
    cases v with
    | ptr p =>
      cases p with
      | none => cases hr
      | some p => exact ⟨_, rfl, hr⟩
    | func fn x1 x2 =>
      cases fn with
      | func f => exact ⟨_, rfl, hr⟩
      | _ => cases hr
    | _ => cases hr
  case binOp op t x y ty =>
    unfold binK at h
    split at h
    · rename_i a1 a2 h1 h2
      simp only [rd, binV, evK_ok hs h1, evK_ok hs h2]
      simp only at h
      split at h
      · rename_i k hsh hu
        injection h with h; subst h
        rcases (onIntR_true hr).symm with hr | ⟨k1, m1, e1, hr⟩
        · exact onO_true hr
        rcases (onIntR_true hr).symm with hr | ⟨k2, m2, e2, hr⟩
        · exact onO_true hr
        have hq : kEq k1 k = true ∧ kEq k2 k = true ∧ (intF op k).f m1 m2 κ = true := by
          cases q1 : kEq k1 k with
          | false => rw [q1] at hr; cases hr
          | true =>
            cases q2 : kEq k2 k with
            | false => rw [q1, q2] at hr; cases hr
            | true => rw [q1, q2] at hr; exact ⟨rfl, rfl, hr⟩
        obtain ⟨q1, q2, hr⟩ := hq
        have q1 := kEq_true q1
        have q2 := kEq_true q2
        subst q1; subst q2
        rw [e1, e2, bin_int hsh]
        exact intF_ok hr
      · injection h with h; subst h
        exact onO_true hr
    · cases h
  case unOp op ty x =>
    obtain ⟨a, h1, rfl⟩ := one h
    simp only [rd, unV, h1]
    exact onO_true hr
  case convert src dst x =>
    obtain ⟨a, h1, rfl⟩ := one h
    simp only [rd, convV, h1]
    exact onO_true hr
  case makeInterface t x =>
    split at h
    · rename_i a d h1 hd
      split at h
      · cases h
      · rename_i hi
        injection h with h; subst h
        simp only [rd, ifaceV, evK_ok hs h1, hd, hi, cond_false]
        exact ⟨_, rfl, hr⟩
    · cases h
  case makeFunc fn first cap =>
    split at h
    · rename_i a b h1 h2
      injection h with h; subst h
      simp only [rd, funcV, evsK_ok hs h1, evsK_ok hs h2]
      exact ⟨_, rfl, hr⟩
    · cases h
  case extract x i =>
    obtain ⟨a, h1, rfl⟩ := one h
    obtain ⟨vs, e1, hr⟩ := onTuple_true hr
    simp only [rd, extractV, h1, e1]
    exact nthK_true hr
  case typeAssert x xt t ok' =>
    obtain ⟨a, h1, rfl⟩ := one h
    simp only [rd, assertV, h1]
    exact onO_true hr
  case field t x i =>
    unfold fieldK at h
    split at h
    · rename_i a fs h1 hf
      split at h
      · rename_i f hfi
        injection h with h; subst h
        obtain ⟨cs, e1, hr⟩ := onAgg_true hr
        simp only [rd, fieldV, hf, evK_ok hs h1, e1, hfi]
        exact onO_true hr
      · cases h
    · cases h
  case index t x ix =>
    unfold indexK at h
    split at h
    · rename_i a i h1 h2 hu
      injection h with h; subst h
      obtain ⟨l, e1, hr⟩ := onStr_true hr
      obtain ⟨k, j, e2, hr⟩ := onInt_true hr
      obtain ⟨j, rfl, hq⟩ := onNat_true hr
      obtain ⟨c, h3, h4⟩ := nthK_true hq
      simp only [rd, indexV, hu, evK_ok hs h1, evK_ok hs h2, e1, e2]
      rw [if_pos (by omega)]
      refine ⟨.int .u8 (Int.ofNat c), ?_, h4⟩
      have : (j : Int).toNat = j := rfl
      rw [this, h3]; rfl
    · rename_i a i m e h1 h2 hu
      split at h
      · rename_i z hz
        injection h with h; subst h
        obtain ⟨cs, e1, hr⟩ := onAgg_true hr
        obtain ⟨k, j, e2, hr⟩ := onInt_true hr
        obtain ⟨j, rfl, hq⟩ := onNat_true hr
        cases hb : Nat.ble (Nat.succ j) m with
        | false => rw [hb] at hq; cases hq
        | true =>
          rw [hb] at hq
          have hlt := of_ble hb
          simp only [rd, indexV, hu, evK_ok hs h1, evK_ok hs h2, e1, e2, hz]
          rw [if_pos (by omega)]
          exact onO_true hq
      · cases h
    · cases h
  case fieldAddr t x i =>
    unfold fieldAddrK at h
    split at h
    · rename_i a fs h1 hf
      split at h
      · rename_i f hfi
        split at h
        · rename_i z hz
          obtain ⟨hb, h⟩ := bsel_some' h
          injection h with h; subst h
          simp only at hr
          obtain ⟨b, off, e1, hr⟩ := onPtr_true hr
          rw [forceN_eq] at hr
          simp only [rd, fieldAddrV, hf, evK_ok hs h1, e1, hfi, hz, hb, cond_false]
          exact ⟨_, rfl, hr⟩
        · cases h
      · cases h
    · cases h
  case indexAddr t x ix =>
    unfold indexAddrK at h
    split at h
    · rename_i a i e h1 h2 hu
      split at h
      · rename_i z hz
        injection h with h; subst h
        obtain ⟨p, m, c, o, e1, hr⟩ := onSlice_true hr
        obtain ⟨q, rfl, hr⟩ := onO_true hr
        obtain ⟨b, off⟩ := q
        obtain ⟨k, j, e2, hr⟩ := onInt_true hr
        obtain ⟨j, rfl, hq⟩ := onNat_true hr
        cases hb : Nat.ble (Nat.succ j) m with
        | false => rw [hb] at hq; cases hq
        | true =>
          rw [hb, bsel_true, forceN_eq] at hq
          have hlt := of_ble hb
          simp only [rd, indexAddrV, hu, evK_ok hs h1, evK_ok hs h2, e1, e2, hz]
          rw [if_pos (by omega)]
          exact ⟨_, rfl, hq⟩
      · cases h
    · rename_i a i m e h1 h2 hu
      split at h
      · rename_i z hz
        injection h with h; subst h
        simp only at hr
        obtain ⟨b, off, e1, hr⟩ := onPtr_true hr
        obtain ⟨k, j, e2, hr⟩ := onInt_true hr
        obtain ⟨j, rfl, hq⟩ := onNat_true hr
        cases hb : Nat.ble (Nat.succ j) m with
        | false => rw [hb] at hq; cases hq
        | true =>
          rw [hb, bsel_true, forceN_eq] at hq
          have hlt := of_ble hb
          simp only [rd, indexAddrV, hu, evK_ok hs h1, evK_ok hs h2, e1, e2, hz]
          rw [if_pos (by omega)]
          exact ⟨_, rfl, hq⟩
      · cases h
    · cases h
  case slice t x lo hi mx =>
    split at h
    · rename_i a l hh m h1 h2 h3 h4
      injection h with h; subst h
      simp only [rd, sliceOpV, evK_ok hs h1, evoK_ok hs h2, evoK_ok hs h3, evoK_ok hs h4]
      exact onO_true hr
    · cases h
  case build t ps =>
    rw [Option.map_eq_some_iff] at h
    obtain ⟨p, h1, rfl⟩ := h
    simp only [rd, buildOpV, evPartsK_ok hs h1]
    exact onO_true hr
  case load t x =>
    split at h
    · rename_i a h1
      simp only [rd, loadOpV, evK_ok hs h1]
      exact loadK_ok h hr
    · cases h
  case lookup t x k b =>
    split at h
    · rename_i a1 a2 h1 h2
      injection h with h; subst h
      simp only [rd, lookupOpV, evK_ok hs h1, evK_ok hs h2]
      exact onO_true hr
    · cases h
  case call c =>
    split at h
    · rename_i b hcal
      split at h
      · -- len
        split at h
        · rename_i x xs t ts e1 e2
          obtain ⟨a, h1, rfl⟩ := one h
          simp only [rd, hcal, lenOpV, e1, e2, h1]
          unfold lenK at hr
          split at hr
          · rename_i hu
            obtain ⟨l, e3, hr⟩ := onStr_true hr
            rw [forceN_eq] at hr
            simp only [lenV, hu, e3]
            exact ⟨_, rfl, hr⟩
          · rename_i e hu
            rcases onSliceR_true hr with ⟨p, m, c2, o2, e3, hr⟩ | ⟨e3, hr⟩
            · simp only [lenV, hu, e3]
              exact ⟨_, rfl, hr⟩
            · simp only [lenV, hu, e3]
              exact ⟨_, rfl, hr⟩
          · exact onO_true hr
        · cases h
      · split at h
        · rename_i x xs t ts e1 e2
          obtain ⟨a, h1, rfl⟩ := one h
          simp only [rd, hcal, capOpV, e1, e2, h1]
          exact onO_true hr
        · cases h
      · split at h
        · rename_i x xs e1
          split at h
          · rename_i a l h1 h2
            injection h with h; subst h
            have i2 := evsK_ok hs h2
            have : evs E F c.args.toList = some (a.get s :: l.get s) := by
              rw [e1]
              simp only [evs] at i2
              simp only [evs, optMap, evK_ok hs h1, i2]
            simp only [rd, hcal, minmaxOpV, this]
            exact onO_true hr
          · cases h
        · cases h
      · split at h
        · rename_i x xs e1
          split at h
          · rename_i a l h1 h2
            injection h with h; subst h
            have i2 := evsK_ok hs h2
            have : evs E F c.args.toList = some (a.get s :: l.get s) := by
              rw [e1]
              simp only [evs] at i2
              simp only [evs, optMap, evK_ok hs h1, i2]
            simp only [rd, hcal, minmaxOpV, this]
            exact onO_true hr
          · cases h
        · cases h
      · cases h
    · cases h

end
end Go.Ev
