/- A part of the proof that an evaluator of the machine's code is sound (EvK3). No conditions. -/
import Derived.Test.YtnklododmdplmaaGreatDoorEvK2
namespace Go.Ev

section
variable {E : Env} {n : Nat} {s : T8} {F : Fr}

theorem onF_true {r : Option (AObj × (Nat → AVal))} {κ : AObj → (Nat → AVal) → Bool} (h : onF r κ = true) : ∃ ob mk, r = some (ob, mk) ∧ κ ob mk = true := by
  obtain ⟨p, rfl, h⟩ := onO_true h
  exact ⟨p.1, p.2, rfl, h⟩

theorem flatK_true {z : Nat} : ∀ {l : List (Nat × AVal)} {κ : List AVal → Bool}, flatK z l κ = true → (∀ p ∈ l, p.2.cells.length = z) ∧ κ (l.map fun p => p.2.cells).flatten = true
  | [], κ, h => ⟨fun p hp => (by cases hp), h⟩
  | p :: l, κ, h => by
    have h' : bsel (Nat.beq p.2.cells.length z) (flatK z l fun r => κ (p.2.cells ++ r)) false = true := h
    cases hb : Nat.beq p.2.cells.length z with
    | false => rw [hb] at h'; cases h'
    | true =>
      rw [hb] at h'
      obtain ⟨h1, h2⟩ := flatK_true (l := l) h'
      refine ⟨fun q hq => ?_, by simpa using h2⟩
      rcases List.mem_cons.1 hq with rfl | hq
      · exact of_beq hb
      · exact h1 q hq

theorem setSeg_mid : ∀ (xs pre rest : List AVal), xs.length ≤ rest.length → setSeg (pre ++ rest) pre.length xs = pre ++ xs ++ rest.drop xs.length
  | [], pre, rest, _ => by simp [setSeg]
  | x :: xs, pre, [], h => by simp at h
  | x :: xs, pre, r :: rest, h => by
    simp only [setSeg]
    have h1 : (pre ++ r :: rest).set pre.length x = (pre ++ [x]) ++ rest := by simp
    rw [h1]
    have := setSeg_mid xs (pre ++ [x]) rest (by simpa using h)
    simp only [List.length_append, List.length_singleton] at this
    rw [this]
    simp

theorem fillF_seq (z : Nat) : ∀ (parts : List (Nat × AVal)) (k : Nat) (pre rest : List AVal), parts.map Prod.fst = List.range' k parts.length → pre.length = k * z → rest.length = parts.length * z → (∀ p ∈ parts, p.2.cells.length = z) →
    fillF (fun i => some (i * z, z)) (pre ++ rest) parts = some (pre ++ (parts.map fun p => p.2.cells).flatten)
  | [], k, pre, rest, _, hp, hr, _ => by
    have : rest = [] := List.eq_nil_of_length_eq_zero (by simpa using hr)
    subst this
    simp [fillF]
  | (i, v) :: parts, k, pre, rest, hi, hp, hr, hz => by
    simp only [List.map_cons, List.length_cons, List.range'_succ, List.cons.injEq] at hi
    obtain ⟨hik, hi⟩ := hi
    subst hik
    have hv : v.cells.length = z := hz (i, v) (by simp)
    have hrl : z ≤ rest.length := by rw [hr]; simp only [List.length_cons, Nat.succ_mul]; omega
    simp only [fillF]
    have hb : (Nat.beq v.cells.length z && Nat.ble (i * z + v.cells.length) (pre ++ rest).length) = true := by
      simp only [Bool.and_eq_true]
      exact ⟨by rw [hv]; simp, Nat.ble_eq_true_of_le (by simp; omega)⟩
    rw [hb, cond_true, ← hp, setSeg_mid v.cells pre rest (by omega)]
    have := fillF_seq z parts (i + 1) (pre ++ v.cells) (rest.drop v.cells.length) hi (by simp [hp, hv, Nat.succ_mul]) (by rw [List.length_drop, hr, hv]; simp only [List.length_cons, Nat.succ_mul]; omega) (fun p hp' => hz p (by simp [hp']))
    rw [this]
    simp

theorem evPartsK_fst : ∀ {l : List (Nat × Operand)} {a : GetPK}, evPartsK E l = some a → ∀ s, (a.get s).map Prod.fst = l.map Prod.fst
  | [], a, h, s => by simp only [evPartsK, Option.some.injEq] at h; subst h; rfl
  | (i, x) :: l, a, h, s => by
    simp only [evPartsK] at h
    split at h
    · rename_i a1 a2 h1 h2
      injection h with h; subst h
      simp only [List.map_cons, evPartsK_fst h2 s]
    · cases h

theorem isSeq_spec : ∀ {l : List (Nat × Operand)} {k m : Nat}, isSeq l k m = true → l.map Prod.fst = List.range' k l.length ∧ k + l.length = m
  | [], k, m, h => ⟨rfl, by have := of_beq h; simpa using this⟩
  | p :: l, k, m, h => by
    simp only [isSeq, Bool.and_eq_true] at h
    obtain ⟨h1, h2⟩ := isSeq_spec h.2
    have := of_beq h.1
    refine ⟨?_, by simp only [List.length_cons]; omega⟩
    simp only [List.map_cons, List.length_cons, List.range'_succ, h1, this]

theorem buildSliceK_ok {t len : Nat} {ps : List (Nat × Operand)} {p : GetPK} (hp : evPartsK E ps = some p) {κ : AObj → (Nat → AVal) → Bool} (hr : (buildSliceK E t len ps p).f s κ = true) : ∃ ob mk, buildSliceW E t len (p.get s) = some (ob, mk) ∧ κ ob mk = true := by
  unfold buildSliceK at hr
  split at hr
  · rename_i e hseq hu
    split at hr
    · rename_i z zv hz hzv
      cases hb : (Nat.ble (len * z) 65536 && Nat.beq zv.cells.length z) with
      | false => rw [hb, bsel_false] at hr; exact onF_true hr
      | true =>
        rw [hb, bsel_true] at hr
        obtain ⟨h1, h2⟩ := flatK_true hr
        obtain ⟨i1, i2⟩ := isSeq_spec hseq
        have hfst := evPartsK_fst hp s
        have hlen : (p.get s).length = ps.length := by
          have := congrArg List.length hfst
          simpa using this
        have hzl : zv.cells.length = z := by
          simp only [Bool.and_eq_true] at hb
          exact of_beq hb.2
        have hf := fillF_seq z (p.get s) 0 [] (replF len zv.cells) (by rw [hfst, i1, hlen]) (by simp) (by rw [replF_length, hzl, hlen]; congr 1; omega) h1
        refine ⟨_, _, ?_, h2⟩
        simp only [List.nil_append] at hf
        simp only [buildSliceW, hu, hz, hzv, hb, cond_true, hf]
    · exact onF_true hr
  · exact onF_true hr

theorem freshK_ok (hs : SimF n s F) {o : Op} {r : FreshK} (h : freshK E o = some r) {κ : AObj → (Nat → AVal) → Bool} (hr : r.f s κ = true) : ∃ ob mk, fresh E F o = some (ob, mk) ∧ κ ob mk = true := by
  have one {x : Operand} {f : GetK → FreshK} (h : (evK E x).map f = some r) : ∃ a, ev E F x = some (a.get s) ∧ r = f a := by
    rw [Option.map_eq_some_iff] at h
    obtain ⟨a, h1, rfl⟩ := h
    exact ⟨a, evK_ok hs h1, rfl⟩
  cases o <;> simp only [freshK] at h <;> try (cases h; done)
  case alloc t =>
    split at h
    · rename_i ob mk hq
      injection h with h; subst h
      exact ⟨ob, mk, hq, hr⟩
    · cases h
  case box t x =>
    obtain ⟨a, h1, rfl⟩ := one h
    simp only [fresh, boxF, h1]
    exact ⟨_, _, rfl, hr⟩
  case buildSlice t len ps =>
    rw [Option.map_eq_some_iff] at h
    obtain ⟨p, h1, rfl⟩ := h
    obtain ⟨ob, mk, h2, h3⟩ := buildSliceK_ok h1 hr
    refine ⟨ob, mk, ?_, h3⟩
    simp only [fresh, buildSliceF, evPartsK_ok hs h1]
    unfold buildSliceW at h2
    split at h2
    · rename_i e hu
      simp only [hu]
      exact h2
    · cases h2
  case makeSlice t l c =>
    split at h
    · rename_i a b h1 h2
      injection h with h; subst h
      obtain ⟨ob, mk, h3, h4⟩ := onF_true hr
      refine ⟨ob, mk, ?_, h4⟩
      simp only [fresh, makeSliceF, evK_ok hs h1, evK_ok hs h2]
      unfold makeSliceW at h3
      split at h3
      · rename_i e l1 c1 hu e1 e2
        simp only [hu, e1, e2]
        exact h3
      · cases h3
    · cases h
  case makeMap t r =>
    split at h
    · injection h with h; subst h
      exact ⟨_, _, rfl, hr⟩
    · cases h
  case range t x =>
    obtain ⟨a, h1, rfl⟩ := one h
    obtain ⟨ob, mk, h2, h3⟩ := onF_true hr
    refine ⟨ob, mk, ?_, h3⟩
    simp only [fresh, rangeF, h1]
    unfold rangeW at h2
    split at h2
    · rename_i l hu e1
      simp only [hu, e1]
      exact h2
    · cases h2
  case convert src dst x =>
    obtain ⟨a, h1, rfl⟩ := one h
    obtain ⟨ob, mk, h2, h3⟩ := onF_true hr
    refine ⟨ob, mk, ?_, h3⟩
    simp only [fresh, bytesF, h1]
    unfold bytesW at h2
    split at h2
    · rename_i e l hu1 hu2 e1
      simp only [hu1, hu2, e1]
      exact h2
    · cases h2

/-! what writes -/

theorem appK_true : ∀ {l : List MOp} {m : MK} {M : Mem} {κ : MK → Bool}, SimM m M → appK l m κ = true → ∃ m', SimM m' (appAll l M) ∧ κ m' = true
  | [], m, M, κ, hm, h => ⟨m, hm, h⟩
  | .put b o :: l, m, M, κ, hm, h => by
    have h1 : forceN b (fun b => bsel (Nat.ble b 4095) (appK l ⟨hput m.heap b (some o), m.next⟩ κ) false) = true := h
    rw [forceN_eq] at h1
    cases hb : Nat.ble b 4095 with
    | false => rw [hb] at h1; cases h1
    | true =>
      rw [hb] at h1
      have := of_ble hb
      have hm' : SimM ⟨hput m.heap b (some o), m.next⟩ (M.put b o) := hm.put (by omega) o
      exact appK_true (l := l) hm' h1
  | .kill b :: l, m, M, κ, hm, h => by
    have h1 : forceN b (fun b => bsel (Nat.ble b 4095) (appK l ⟨hput m.heap b none, m.next⟩ κ) false) = true := h
    rw [forceN_eq] at h1
    cases hb : Nat.ble b 4095 with
    | false => rw [hb] at h1; cases h1
    | true =>
      rw [hb] at h1
      have := of_ble hb
      have hm' : SimM ⟨hput m.heap b none, m.next⟩ (M.kill b) := hm.kill (by omega)
      exact appK_true (l := l) hm' h1
  | .add o :: l, m, M, κ, hm, h => by
    have h1 : forceN m.next (fun n => bsel (Nat.ble n 4095) (appK l ⟨hput m.heap n (some o), Nat.succ n⟩ κ) false) = true := h
    rw [forceN_eq] at h1
    cases hb : Nat.ble m.next 4095 with
    | false => rw [hb] at h1; cases h1
    | true =>
      rw [hb] at h1
      have := of_ble hb
      have hm' : SimM ⟨hput m.heap m.next (some o), Nat.succ m.next⟩ (M.add o) := hm.add (by omega) o
      exact appK_true (l := l) hm' h1

theorem onW_true {r : Option (List MOp)} {m : MK} {M : Mem} (hm : SimM m M) {κ : AVal → MK → Bool} (h : onW r m κ = true) : ∃ l m', r = some l ∧ SimM m' (appAll l M) ∧ κ .undef m' = true := by
  obtain ⟨l, rfl, h⟩ := onO_true h
  obtain ⟨m', h1, h2⟩ := appK_true hm h
  exact ⟨l, m', rfl, h1, h2⟩

theorem onVW_true {r : Option (AVal × List MOp)} {m : MK} {M : Mem} (hm : SimM m M) {κ : AVal → MK → Bool} (h : onVW r m κ = true) : ∃ v l m', r = some (v, l) ∧ SimM m' (appAll l M) ∧ κ v m' = true := by
  obtain ⟨p, rfl, h⟩ := onO_true h
  obtain ⟨m', h1, h2⟩ := appK_true hm h
  exact ⟨p.1, p.2, m', rfl, h1, h2⟩

theorem putCellsO_ok {M : Mem} {b off : Nat} {vs : List AVal} {l : List MOp} (h : putCellsO M.get b off vs = some l) : putCells M b off vs = some (appAll l M) := by
  unfold putCellsO at h
  unfold putCells
  split at h
  · rename_i c e opn hg
    obtain ⟨hb, h⟩ := bif_some h
    simp only [hg, hb, cond_true]
    injection h with h; subst h; rfl
  · cases h

theorem storeO_ok {M : Mem} {t : Nat} {a v : AVal} {l : List MOp} (h : storeO E M.get t a v = some l) : storeV E M t a v = some (appAll l M) := by
  unfold storeO at h
  unfold storeV
  split at h
  · rename_i b off z hz
    obtain ⟨hb, h⟩ := bif_some h
    simp only [hz, hb, cond_true]
    exact putCellsO_ok h
  · cases h

theorem mapPutO_ok {M : Mem} {t : Nat} {m k v : AVal} {l : List MOp} (h : mapPutO E M.get t m k v = some l) : mapPut E M t m k v = some (appAll l M) := by
  unfold mapPutO at h
  unfold mapPut
  split at h
  · rename_i kt et r hu
    split at h
    · rename_i kd es ck hk hg
      obtain ⟨hp, h⟩ := bif_some h
      simp only [hu, hk, hg, hp, cond_true]
      split at h
      · rename_i i u hf
        simp only [hf]
        injection h with h; subst h; rfl
      · rename_i hf
        simp only [hf]
        injection h with h; subst h; rfl
      · cases h
    · cases h
  · cases h

theorem mapEntryO_ok {M : Mem} {t : Nat} {m k v : AVal} {l : List MOp} (h : mapEntryO E M.get t m k = some (v, l)) : mapEntryV E M t m k = some (v, appAll l M) := by
  unfold mapEntryO at h
  unfold mapEntryV
  split at h
  · rename_i kt et r hu
    split at h
    · rename_i kd es ck z hk hg hz
      obtain ⟨hp, h⟩ := bif_some h
      simp only [hu, hk, hg, hz, hp, cond_true]
      split at h
      · rename_i i u hf
        simp only [hf]
        split at h
        · rename_i e he
          simp only [he]
          simp only [Option.some.injEq, Prod.mk.injEq] at h
          obtain ⟨rfl, rfl⟩ := h; rfl
        · cases h
      · rename_i hf
        simp only [hf]
        simp only [Option.some.injEq, Prod.mk.injEq] at h
        obtain ⟨rfl, rfl⟩ := h; rfl
      · cases h
    · cases h
  · cases h

theorem entryStoreO_ok {M : Mem} {m z v : AVal} {l : List MOp} (h : entryStoreO M.get m z v = some l) : entryStoreV M m z v = some (appAll l M) := by
  unfold entryStoreO at h
  unfold entryStoreV
  split at h
  · rename_i r k b
    split at h
    · rename_i es ck hg
      simp only [hg]
      split at h
      · rename_i hb
        rw [if_pos hb]
        rw [Option.map_eq_some_iff] at h
        obtain ⟨es', h1, rfl⟩ := h
        rw [h1]; rfl
      · cases h
    · cases h
  · cases h

theorem nextO_ok {M : Mem} {x : Operand} {a v : AVal} {l : List MOp} (hx : ev E F x = some a) (h : nextO M.get a = some (v, l)) : nextOp E F M x true = some (v, appAll l M) := by
  unfold nextO at h
  unfold nextOp
  simp only [cond_true, hx]
  split at h
  · rename_i b
    split at h
    · rename_i st pos hg
      simp only [hg]
      split at h
      · rename_i hc
        simp only [hc]
        simp only [Option.some.injEq, Prod.mk.injEq] at h
        obtain ⟨rfl, rfl⟩ := h; rfl
      · rename_i c hc
        obtain ⟨hb, h⟩ := bif_some h
        simp only [hc, hb, cond_true]
        simp only [Option.some.injEq, Prod.mk.injEq] at h
        obtain ⟨rfl, rfl⟩ := h; rfl
    · cases h
  · cases h

theorem firstCellsO_eq (M : Mem) (z k : Nat) (x : AVal) : firstCellsO M.get z k x = firstCells M z k x := by
  unfold firstCellsO firstCells
  cases x with
  | slice p a b c => cases p <;> rfl
  | _ => rfl

theorem growO_ok {M : Mem} {e z need : Nat} {base : Option (Nat × Nat)} {len cap : Nat} {opn : Bool} {new : List AVal} {v : AVal} {l : List MOp} (h : growO M.get M.next e z need base len cap opn new = some (v, l)) : growW M e z need base len cap opn new = some (v, appAll l M) := by
  unfold growO at h
  unfold growW
  split at h
  · simp only [Option.some.injEq, Prod.mk.injEq] at h
    obtain ⟨rfl, rfl⟩ := h; rfl
  · rename_i b off
    simp only
    split at h
    · cases h
    · rename_i old hold
      simp only [hold]
      cases opn with
      | true =>
        simp only [cond_true] at h ⊢
        split at h
        · rename_i c eb s' hg
          obtain ⟨hb, h⟩ := bif_some h
          simp only [hg, hb, cond_true]
          simp only [Option.some.injEq, Prod.mk.injEq] at h
          obtain ⟨rfl, rfl⟩ := h; rfl
        · cases h
      | false =>
        simp only [cond_false, Option.some.injEq, Prod.mk.injEq] at h ⊢
        obtain ⟨rfl, rfl⟩ := h
        exact ⟨rfl, rfl⟩

theorem inplaceO_ok {M : Mem} {z need k : Nat} {base : Option (Nat × Nat)} {len cap : Nat} {opn : Bool} {new : List AVal} {v : AVal} {l : List MOp} (h : inplaceO M.get z need k base len cap opn new = some (v, l)) : inplaceW M z need k base len cap opn new = some (v, appAll l M) := by
  unfold inplaceO at h
  unfold inplaceW
  split at h
  · obtain ⟨hb, h⟩ := bif_some h
    simp only [hb, cond_true]
    simp only [Option.some.injEq, Prod.mk.injEq] at h
    obtain ⟨rfl, rfl⟩ := h; rfl
  · rename_i b off
    rw [Option.map_eq_some_iff] at h
    obtain ⟨l', h1, h2⟩ := h
    simp only [Prod.mk.injEq] at h2
    obtain ⟨rfl, rfl⟩ := h2
    simp only [putCellsO_ok h1, Option.map_some]

theorem appendO_ok {M : Mem} {ts : List Nat} {args : List AVal} {v : AVal} {l : List MOp} (h : appendO E M.get M.next ts args = some (v, l)) : appendV E M ts args = some (v, appAll l M) := by
  unfold appendO at h
  unfold appendV
  split at h
  · rename_i t tx tr base len cap opn x
    simp only
    split at h
    · rename_i e dx hu hdx
      simp only [hu, hdx]
      cases hd : isIntD dx with
      | true => simp [hd] at h
      | false =>
        simp only [hd, cond_false] at h ⊢
        split at h
        · rename_i i k hi hk
          simp only [hi, hk]
          unfold appendW
          rw [firstCellsO_eq] at h
          split at h
          · cases h
          · rename_i new hnew
            obtain ⟨hb, h⟩ := bif_some h
            simp only [hnew, hb, cond_true]
            cases hc : Nat.ble (len + k) cap with
            | true =>
              simp only [hc, cond_true] at h ⊢
              exact inplaceO_ok h
            | false =>
              simp only [hc, cond_false] at h ⊢
              obtain ⟨hb2, h⟩ := bif_some h
              simp only [hb2, cond_true]
              exact growO_ok h
        · cases h
    · cases h
  · rename_i t tx tr x
    simp only
    split at h
    · rename_i e dx hu hdx
      simp only [hu, hdx]
      cases hd : isIntD dx with
      | true => simp [hd] at h
      | false =>
        simp only [hd, cond_false] at h ⊢
        split at h
        · rename_i i k hi hk
          simp only [hi, hk]
          rw [firstCellsO_eq] at h
          split at h
          · rename_i hnew
            simp only [hnew]
            obtain ⟨hb, h⟩ := bif_some h
            simp only [hb, cond_true]
            simp only [Option.some.injEq, Prod.mk.injEq] at h
            obtain ⟨rfl, rfl⟩ := h
            rfl
          · cases h
        · cases h
    · cases h
  · cases h

theorem copyO_ok {M : Mem} {ts : List Nat} {args : List AVal} {v : AVal} {l : List MOp} (h : copyO E M.get ts args = some (v, l)) : copyV E M ts args = some (v, appAll l M) := by
  unfold copyO at h
  unfold copyV
  split at h
  · rename_i t tr base dlen c1 o1 x
    simp only
    split at h
    · rename_i e m hu hm
      simp only [hu, hm]
      split at h
      · rename_i z hz
        simp only [hz]
        rw [firstCellsO_eq] at h
        split at h
        · rename_i cs hcs
          simp only [hcs]
          split at h
          · simp only [Option.some.injEq, Prod.mk.injEq] at h
            obtain ⟨rfl, rfl⟩ := h; rfl
          · rename_i b off
            rw [Option.map_eq_some_iff] at h
            obtain ⟨l', h1, h2⟩ := h
            simp only [Prod.mk.injEq] at h2
            obtain ⟨rfl, rfl⟩ := h2
            simp only [putCellsO_ok h1, Option.map_some]
        · cases h
      · cases h
    · cases h
  · cases h

theorem setSeg_one (c : List AVal) (off : Nat) (v : AVal) : setSeg c off [v] = c.set off v := rfl

theorem storeK_ok {t : Nat} {a x : GetK} {m : MK} {M : Mem} (hm : SimM m M) {κ : AVal → MK → Bool} (h : (storeK E t a x).f s m κ = true) : ∃ M' m', storeV E M t (a.get s) (x.get s) = some M' ∧ SimM m' M' ∧ κ .undef m' = true := by
  have gen (h : onW (storeO E (hget m.heap) t (a.get s) (x.get s)) m κ = true) : ∃ M' m', storeV E M t (a.get s) (x.get s) = some M' ∧ SimM m' M' ∧ κ .undef m' = true := by
    obtain ⟨l, m', h1, h2, h3⟩ := onW_true hm h
    rw [hm.get] at h1
    exact ⟨_, m', storeO_ok h1, h2, h3⟩
  unfold storeK at h
  split at h
  · rename_i hz
    simp only at h
    obtain ⟨b, off, e1, h⟩ := onPtr_true h
    obtain ⟨c, e, opn, ro, hc, h⟩ := onCells_true h
    cases ro with
    | true => cases h
    | false =>
      rw [bsel_false] at h
      have one (hcell : (x.get s).isCell = true) (hcs : (x.get s).cells = [x.get s]) (h : (forceN b fun b => setNthK (x.get s) c off fun c => κ .undef ⟨hput m.heap b (some (.cells c e opn false)), m.next⟩) = true) :
          ∃ M' m', storeV E M t (a.get s) (x.get s) = some M' ∧ SimM m' M' ∧ κ .undef m' = true := by
        rw [forceN_eq] at h
        obtain ⟨h1, h2⟩ := setNthK_true h
        rw [hm.get] at hc
        have hlt := hm.lt hc
        refine ⟨_, _, ?_, hm.put hlt (.cells (c.set off (x.get s)) e opn false), h2⟩
        have hle : Nat.ble (off + 1) c.length = true := Nat.ble_eq_true_of_le (by omega)
        simp only [storeV, e1, hz, hcs, List.length_singleton, putCells, hc, hle, List.all_cons, hcell, List.all_nil, Bool.and_true, cond_true, setSeg_one]
        rfl
      generalize hv : x.get s = v at h gen one
      cases v with
      | agg vs => exact gen h
      | tuple vs => cases h
      | _ => exact one rfl rfl h
  · exact gen h

theorem effK_ok (hs : SimF n s F) {o : Op} {r : EffK} (h : effK E o = some r) {m : MK} {M : Mem} (hm : SimM m M) {κ : AVal → MK → Bool} (hr : r.f s m κ = true) : ∃ v M' m', eff E F M o = some (v, M') ∧ SimM m' M' ∧ κ v m' = true := by
  have putm {t : Nat} {x k y : Operand} (h : (match evK E x, evK E k, evK E y with
      | some a, some b, some c => some (⟨fun s m κ => onW (mapPutO E (hget m.heap) t (a.get s) (b.get s) (c.get s)) m κ⟩ : EffK)
      | _, _, _ => none) = some r) : ∃ v M' m', mapPutOp E F M t x k y = some (v, M') ∧ SimM m' M' ∧ κ v m' = true := by
    split at h
    · rename_i a b c h1 h2 h3
      injection h with h; subst h
      obtain ⟨l, m', h4, h5, h6⟩ := onW_true hm hr
      rw [hm.get] at h4
      refine ⟨_, _, m', ?_, h5, h6⟩
      simp only [mapPutOp, evK_ok hs h1, evK_ok hs h2, evK_ok hs h3, mapPutO_ok h4, Option.map_some]
    · cases h
  cases o <;> simp only [effK] at h <;> try (cases h; done)
  case store t a x =>
    split at h
    · rename_i a1 a2 h1 h2
      injection h with h; subst h
      obtain ⟨M', m', h3, h4, h5⟩ := storeK_ok hm hr
      refine ⟨_, M', m', ?_, h4, h5⟩
      simp only [eff, storeOp, evK_ok hs h1, evK_ok hs h2, h3]
    · cases h
  case mapUpdate t x k y => exact putm h
  case insert t x k y => exact putm h
  case mapEntry t x k =>
    split at h
    · rename_i a b h1 h2
      injection h with h; subst h
      obtain ⟨v, l, m', h4, h5, h6⟩ := onVW_true hm hr
      rw [hm.get] at h4
      refine ⟨v, _, m', ?_, h5, h6⟩
      simp only [eff, mapEntryOp, evK_ok hs h1, evK_ok hs h2, mapEntryO_ok h4]
    · cases h
  case entryStore t x k y =>
    split at h
    · rename_i a b c h1 h2 h3
      injection h with h; subst h
      obtain ⟨l, m', h4, h5, h6⟩ := onW_true hm hr
      rw [hm.get] at h4
      refine ⟨_, _, m', ?_, h5, h6⟩
      simp only [eff, entryStoreOp, evK_ok hs h1, evK_ok hs h2, evK_ok hs h3, entryStoreO_ok h4, Option.map_some]
    · cases h
  case convert sx dx x =>
    split at h
    · rename_i a hb h1
      injection h with h; subst h
      obtain ⟨v, l, m', h4, h5, h6⟩ := onVW_true hm hr
      rw [hm.get] at h4
      refine ⟨v, _, m', ?_, h5, h6⟩
      simp only [eff, hb, cond_true, convSliceOp, evK_ok hs h1]
      unfold convSliceO at h4
      split at h4
      · rename_i b off n k o hv
        simp only [hv]
        split at h4
        · rename_i c e opn hg
          simp only [Option.some.injEq, Prod.mk.injEq] at h4
          obtain ⟨rfl, rfl⟩ := h4
          simp only [hg]
          rfl
        · cases h4
      · cases h4
    · cases h
  case next x b =>
    split at h
    · rename_i a h1
      injection h with h; subst h
      obtain ⟨v, l, m', h4, h5, h6⟩ := onVW_true hm hr
      rw [hm.get] at h4
      refine ⟨v, _, m', ?_, h5, h6⟩
      simp only [eff]
      exact nextO_ok (evK_ok hs h1) h4
    · cases h
  case call c =>
    split at h
    · rename_i b hcal
      split at h
      · rw [Option.map_eq_some_iff] at h
        obtain ⟨a, h1, rfl⟩ := h
        simp only [forceN_eq] at hr
        obtain ⟨v, l, m', h4, h5, h6⟩ := onVW_true hm hr
        rw [hm.get, hm.next] at h4
        refine ⟨v, _, m', ?_, h5, h6⟩
        simp only [eff, hcal, appendOp, evsK_ok hs h1, appendO_ok h4]
      · rw [Option.map_eq_some_iff] at h
        obtain ⟨a, h1, rfl⟩ := h
        obtain ⟨v, l, m', h4, h5, h6⟩ := onVW_true hm hr
        rw [hm.get] at h4
        refine ⟨v, _, m', ?_, h5, h6⟩
        simp only [eff, hcal, copyOp, evsK_ok hs h1, copyO_ok h4]
      · cases h
    · cases h

end
end Go.Ev
