/- A part of the proof that an evaluator of the machine's code is sound (EvRd3). No conditions. -/
import Derived.Test.YtnklododmdplmaaGreatDoorEvRd2
namespace Go.Ev

theorem binOp_eql_eq (t : Nat) {a b : Value} (h1 : ∀ k n k' m, ¬ (a = .int k n ∧ b = .int k' m)) (h2 : ∀ k n k' m, ¬ (a = .float k n ∧ b = .float k' m)) (h3 : ∀ s s', ¬ (a = .string s ∧ b = .string s'))
    (h4 : ∀ k re im k' re' im', ¬ (a = .complex k re im ∧ b = .complex k' re' im')) : (binOp .eql t a b : Sem Value) = (do pure (.bool (← Op.equal t a b))) := by
  cases a <;> cases b <;> first
    | rfl
    | exact absurd ⟨rfl, rfl⟩ (h1 _ _ _ _)
    | exact absurd ⟨rfl, rfl⟩ (h2 _ _ _ _)
    | exact absurd ⟨rfl, rfl⟩ (h3 _ _)
    | exact absurd ⟨rfl, rfl⟩ (h4 _ _ _ _ _ _)

theorem binOp_neq_eq (t : Nat) {a b : Value} (h1 : ∀ k n k' m, ¬ (a = .int k n ∧ b = .int k' m)) (h2 : ∀ k n k' m, ¬ (a = .float k n ∧ b = .float k' m)) (h3 : ∀ s s', ¬ (a = .string s ∧ b = .string s'))
    (h4 : ∀ k re im k' re' im', ¬ (a = .complex k re im ∧ b = .complex k' re' im')) : (binOp .neq t a b : Sem Value) = (do pure (.bool (!(← Op.equal t a b)))) := by
  cases a <;> cases b <;> first
    | rfl
    | exact absurd ⟨rfl, rfl⟩ (h1 _ _ _ _)
    | exact absurd ⟨rfl, rfl⟩ (h2 _ _ _ _)
    | exact absurd ⟨rfl, rfl⟩ (h3 _ _)
    | exact absurd ⟨rfl, rfl⟩ (h4 _ _ _ _ _ _)

theorem rngCmp_int {op : BinOp} {k : IntKind} {lo hi x b : Int} {r : Bool} (h1 : lo ≤ x) (h2 : x ≤ hi) (h : rngCmp op lo hi b = some r) :
    intBin op k x b = some (.bool r) ∧ op ≠ .shl ∧ op ≠ .shr := by
  cases op <;> simp only [rngCmp, reduceCtorEq] at h <;>
    (refine ⟨?_, by simp, by simp⟩
     simp only [intBin, Option.some.injEq, AVal.bool.injEq]
     split at h
     · injection h with h; subst h; simp; omega
     · split at h
       · injection h with h; subst h; simp; omega
       · cases h)

theorem rngCmp_flip {op : BinOp} {k : IntKind} {lo hi x b : Int} {r : Bool} (h1 : lo ≤ x) (h2 : x ≤ hi) (h : rngCmp (flipOp op) lo hi b = some r) :
    intBin op k b x = some (.bool r) ∧ op ≠ .shl ∧ op ≠ .shr := by
  cases op <;> simp only [flipOp, rngCmp, reduceCtorEq] at h <;>
    (refine ⟨?_, by simp, by simp⟩
     simp only [intBin, Option.some.injEq, AVal.bool.injEq]
     split at h
     · injection h with h; subst h; simp; omega
     · split at h
       · injection h with h; subst h; simp; omega
       · cases h)

section
variable {E : Env} {P : Program} (ok : EnvOk E P) {w : World} {ρ : Emb}
include ok

theorem bin_sound {op : BinOp} {t : Nat} {x y : Operand} {a b : AVal} {a' b' : Value} {v : AVal} (ha : a.rel ρ a') (hb : b.rel ρ b') (h : bin E op t (isConst x) (isConst y) a b = some v) :
    ∃ v', (do eqGuard op t x y a' b'; binOp op t a' b' : Sem Value).run P w = .ok v' w ∧ v.rel ρ v' := by
  unfold bin at h
  split at h
  · rename_i k n k' m
    rw [rel_int] at ha hb
    subst ha; subst hb
    have hg : (eqGuard op t x y (.int k n) (.int k' m)).run P w = .ok () w := by
      unfold eqGuard; cases op <;> rfl
    simp only [Sem.run_bind, hg, Result.andThen_ok]
    split at h
    · obtain ⟨v', h1, h2⟩ := shiftBin_sound (w := w) (P := P) (ρ := ρ) (yk := k') h
      exact ⟨v', by simpa [binOp] using h1, h2⟩
    · obtain ⟨v', h1, h2⟩ := shiftBin_sound (w := w) (P := P) (ρ := ρ) (yk := k') h
      exact ⟨v', by simpa [binOp] using h1, h2⟩
    · rename_i hs1 hs2
      split at h
      · rename_i hk
        subst hk
        obtain ⟨v', h1, h2⟩ := intBin_sound (w := w) (P := P) (ρ := ρ) h
        refine ⟨v', ?_, h2⟩
        unfold binOp
        cases op <;> first | exact absurd rfl hs1 | exact absurd rfl hs2 | (simp only [ne_eq, not_true, if_false]; exact h1)
      · cases h
  · rename_i k n k' m
    rw [rel_float] at ha hb
    subst ha; subst hb
    have hg : (eqGuard op t x y (.float k n) (.float k' m)).run P w = .ok () w := by
      unfold eqGuard; cases op <;> rfl
    simp only [Sem.run_bind, hg, Result.andThen_ok]
    split at h
    · rename_i hk
      subst hk
      obtain ⟨v', h1, h2⟩ := floatBin_sound (w := w) (P := P) (ρ := ρ) h
      refine ⟨v', ?_, h2⟩
      unfold binOp
      cases op <;> (simp only [ne_eq, not_true, if_false]; exact h1)
    · cases h
  · rename_i n m
    rw [rel_str] at ha hb
    obtain ⟨s, rfl, rfl⟩ := ha
    obtain ⟨s', rfl, rfl⟩ := hb
    have hg : (eqGuard op t x y (.string s) (.string s')).run P w = .ok () w := by
      unfold eqGuard; cases op <;> rfl
    simp only [Sem.run_bind, hg, Result.andThen_ok]
    obtain ⟨v', h1, h2⟩ := strBin_sound (w := w) (P := P) (ρ := ρ) h
    refine ⟨v', ?_, h2⟩
    unfold binOp
    cases op <;> exact h1
  · rename_i k lo hi n0 k' m
    simp only [AVal.rel] at ha
    obtain ⟨_, n, _, _, rfl, h1, h2⟩ := ha
    rw [rel_int] at hb
    subst hb
    split at h
    · rename_i hk
      subst hk
      simp only [Option.map_eq_some_iff] at h
      obtain ⟨r, hr, rfl⟩ := h
      obtain ⟨hi2, hs1, hs2⟩ := rngCmp_int (k := k) h1 h2 hr
      have hg : (eqGuard op t x y (.int k n) (.int k m)).run P w = .ok () w := by
        unfold eqGuard; cases op <;> rfl
      simp only [Sem.run_bind, hg, Result.andThen_ok]
      obtain ⟨v', h1, h2⟩ := intBin_sound (w := w) (P := P) (ρ := ρ) hi2
      refine ⟨v', ?_, h2⟩
      unfold binOp
      cases op <;> first | exact absurd rfl hs1 | exact absurd rfl hs2 | (simp only [ne_eq, not_true, if_false]; exact h1)
    · cases h
  · rename_i k n k' lo hi m0
    simp only [AVal.rel] at hb
    obtain ⟨_, m, _, _, rfl, h1, h2⟩ := hb
    rw [rel_int] at ha
    subst ha
    split at h
    · rename_i hk
      subst hk
      simp only [Option.map_eq_some_iff] at h
      obtain ⟨r, hr, rfl⟩ := h
      obtain ⟨hi2, hs1, hs2⟩ := rngCmp_flip (k := k) h1 h2 hr
      have hg : (eqGuard op t x y (.int k n) (.int k m)).run P w = .ok () w := by
        unfold eqGuard; cases op <;> rfl
      simp only [Sem.run_bind, hg, Result.andThen_ok]
      obtain ⟨v', h1, h2⟩ := intBin_sound (w := w) (P := P) (ρ := ρ) hi2
      refine ⟨v', ?_, h2⟩
      unfold binOp
      cases op <;> first | exact absurd rfl hs1 | exact absurd rfl hs2 | (simp only [ne_eq, not_true, if_false]; exact h1)
    · cases h
  · rename_i hi hf hs _ _
    -- equality of other values
    have hq : eqv E 20 t a b ≠ none := by
      intro hn
      simp only [hn, Option.map_none] at h
      split at h
      · cases hg : guardOK E t (isConst x) (isConst y) a b <;> simp [hg] at h
      · cases hg : guardOK E t (isConst x) (isConst y) a b <;> simp [hg] at h
      · cases h
    have hqa : ∀ z, a ≠ .opq z := by
      rintro z rfl
      apply hq
      unfold eqv
      split <;> first | rfl | (rename_i he; cases he; done) | (rename_i he _; cases he; done) | contradiction | (exfalso; simp_all; done)
    have hra : ∀ k lo hi z, a ≠ .rng k lo hi z := by
      rintro k lo hi z rfl
      apply hq
      unfold eqv
      split <;> first | rfl | (rename_i he; cases he; done) | (rename_i he _; cases he; done) | contradiction | (exfalso; simp_all; done)
    have hrb : ∀ k lo hi z, b ≠ .rng k lo hi z := by
      rintro k lo hi z rfl
      apply hq
      unfold eqv
      split <;> first | rfl | (rename_i he; cases he; done) | (rename_i he _; cases he; done) | contradiction | (exfalso; simp_all; done)
    have hqb : ∀ z, b ≠ .opq z := by
      rintro z rfl
      apply hq
      unfold eqv
      split <;> first | rfl | (rename_i he; cases he; done) | (rename_i he _; cases he; done) | contradiction | (exfalso; simp_all; done)
    have hne : (∀ k n k' m, ¬ (a' = .int k n ∧ b' = .int k' m)) ∧ (∀ k n k' m, ¬ (a' = .float k n ∧ b' = .float k' m)) ∧ (∀ s s', ¬ (a' = .string s ∧ b' = .string s')) := by
      refine ⟨?_, ?_, ?_⟩
      · rintro k n k' m ⟨rfl, rfl⟩
        have h1 : ∃ k n, a = .int k n := by
          cases a with
          | int k n => exact ⟨k, n, rfl⟩
          | ptr p => cases p <;> simp [AVal.rel] at ha
          | slice p _ _ _ => cases p <;> simp [AVal.rel] at ha
          | map p => cases p <;> simp [AVal.rel] at ha
          | opq z => exact absurd rfl (hqa z)
          | rng k lo up z => exact absurd rfl (hra k lo up z)
          | _ => simp [AVal.rel] at ha
        have h2 : ∃ k n, b = .int k n := by
          cases b with
          | int k n => exact ⟨k, n, rfl⟩
          | ptr p => cases p <;> simp [AVal.rel] at hb
          | slice p _ _ _ => cases p <;> simp [AVal.rel] at hb
          | map p => cases p <;> simp [AVal.rel] at hb
          | opq z => exact absurd rfl (hqb z)
          | rng k lo up z => exact absurd rfl (hrb k lo up z)
          | _ => simp [AVal.rel] at hb
        obtain ⟨_, _, h1⟩ := h1
        obtain ⟨_, _, h2⟩ := h2
        exact hi _ _ _ _ h1 h2
      · rintro k n k' m ⟨rfl, rfl⟩
        have h1 : ∃ k n, a = .float k n := by
          cases a with
          | float k n => exact ⟨k, n, rfl⟩
          | ptr p => cases p <;> simp [AVal.rel] at ha
          | slice p _ _ _ => cases p <;> simp [AVal.rel] at ha
          | map p => cases p <;> simp [AVal.rel] at ha
          | opq z => exact absurd rfl (hqa z)
          | rng k lo up z => exact absurd rfl (hra k lo up z)
          | _ => simp [AVal.rel] at ha
        have h2 : ∃ k n, b = .float k n := by
          cases b with
          | float k n => exact ⟨k, n, rfl⟩
          | ptr p => cases p <;> simp [AVal.rel] at hb
          | slice p _ _ _ => cases p <;> simp [AVal.rel] at hb
          | map p => cases p <;> simp [AVal.rel] at hb
          | opq z => exact absurd rfl (hqb z)
          | rng k lo up z => exact absurd rfl (hrb k lo up z)
          | _ => simp [AVal.rel] at hb
        obtain ⟨_, _, h1⟩ := h1
        obtain ⟨_, _, h2⟩ := h2
        exact hf _ _ _ _ h1 h2
      · rintro s s' ⟨rfl, rfl⟩
        have h1 : ∃ s, a = .str s := by
          cases a with
          | str s => exact ⟨s, rfl⟩
          | ptr p => cases p <;> simp [AVal.rel] at ha
          | slice p _ _ _ => cases p <;> simp [AVal.rel] at ha
          | map p => cases p <;> simp [AVal.rel] at ha
          | opq z => exact absurd rfl (hqa z)
          | rng k lo up z => exact absurd rfl (hra k lo up z)
          | _ => simp [AVal.rel] at ha
        have h2 : ∃ s, b = .str s := by
          cases b with
          | str s => exact ⟨s, rfl⟩
          | ptr p => cases p <;> simp [AVal.rel] at hb
          | slice p _ _ _ => cases p <;> simp [AVal.rel] at hb
          | map p => cases p <;> simp [AVal.rel] at hb
          | opq z => exact absurd rfl (hqb z)
          | rng k lo up z => exact absurd rfl (hrb k lo up z)
          | _ => simp [AVal.rel] at hb
        obtain ⟨_, h1⟩ := h1
        obtain ⟨_, h2⟩ := h2
        exact hs _ _ h1 h2
    have hcx : ∀ k re im k' re' im', ¬ (a' = .complex k re im ∧ b' = .complex k' re' im') := by
      rintro k re im k' re' im' ⟨rfl, _⟩
      cases a with
      | ptr p => cases p <;> simp [AVal.rel] at ha
      | slice p _ _ _ => cases p <;> simp [AVal.rel] at ha
      | map p => cases p <;> simp [AVal.rel] at ha
      | opq z => exact absurd rfl (hqa z)
      | rng k lo up z => exact absurd rfl (hra k lo up z)
      | _ => simp [AVal.rel] at ha
    split at h
    · cases hg : guardOK E t (isConst x) (isConst y) a b with
      | false => simp [hg] at h
      | true =>
        simp only [hg, cond_true, Option.map_eq_some_iff] at h
        obtain ⟨r, hr, rfl⟩ := h
        rw [Sem.run_bind, guard_sound ok ha hb (fun _ => hg)]
        have he := eqv_sound ok (w := w) 20 10000 (by omega) hr ha hb
        refine ⟨.bool r, ?_, by simp [AVal.rel]⟩
        have := binOp_eql_eq t hne.1 hne.2.1 hne.2.2 hcx
        simp only [Result.andThen_ok, this, Op.equal, Op.maxDepth, Sem.run_bind, he, Sem.run_pure]
    · cases hg : guardOK E t (isConst x) (isConst y) a b with
      | false => simp [hg] at h
      | true =>
        simp only [hg, cond_true, Option.map_eq_some_iff] at h
        obtain ⟨r, hr, rfl⟩ := h
        rw [Sem.run_bind, guard_sound ok ha hb (fun _ => hg)]
        have he := eqv_sound ok (w := w) 20 10000 (by omega) hr ha hb
        refine ⟨.bool (!r), ?_, by simp [AVal.rel]⟩
        have := binOp_neq_eq t hne.1 hne.2.1 hne.2.2 hcx
        simp only [Result.andThen_ok, this, Op.equal, Op.maxDepth, Sem.run_bind, he, Sem.run_pure]
    · cases h

omit ok in
theorem un_sound {op : UnOp} {a : AVal} {a' : Value} {v : AVal} (ha : a.rel ρ a') (h : un op a = some v) : ∃ v', (Op.unary op a').run P w = .ok v' w ∧ v.rel ρ v' := by
  unfold un at h
  split at h
  · rw [rel_int] at ha; subst ha
    injection h with h; subst h
    exact ⟨_, rfl, by simp [AVal.rel]⟩
  · rw [rel_int] at ha; subst ha
    injection h with h; subst h
    exact ⟨_, rfl, by simp [AVal.rel]⟩
  · rw [rel_bool'] at ha; subst ha
    injection h with h; subst h
    exact ⟨_, rfl, by simp [AVal.rel]⟩
  · cases h

end
end Go.Ev
