/- A part of the proof that an evaluator of the machine's code is sound (EvRd4). No conditions. -/
import Derived.Test.YtnklododmdplmaaGreatDoorEvRd3
import Derived.Laws.Slices
import Derived.Laws.Tables
import Derived.Laws.BytesString
import Derived.Laws.Strings2
namespace Go.Ev

theorem bytesNat_push (b : ByteArray) (x : UInt8) : bytesNat (b.push x) = bytesNat b ++ [x.toNat] := by simp [bytesNat, ByteArray.push]

theorem bytes_foldl : ∀ (ns : List Int) (b : ByteArray), (∀ n ∈ ns, 0 ≤ n ∧ n < 256) → bytesNat (ns.foldl (fun r n => r.push (UInt8.ofNat n.toNat)) b) = bytesNat b ++ ns.map Int.toNat
  | [], b, _ => by simp
  | n :: ns, b, h => by
    simp only [List.foldl_cons, List.map_cons]
    rw [bytes_foldl ns _ (fun m hm => h m (by simp [hm])), bytesNat_push]
    have := h n (by simp)
    have h2 : (UInt8.ofNat n.toNat).toNat = n.toNat := by
      rw [UInt8.toNat_ofNat']
      exact Nat.mod_eq_of_lt (by omega)
    rw [h2]
    simp

theorem optMap_bytes {ρ : Emb} : ∀ {cs : List AVal} {l : List Nat} {vs : List Value}, optMap byteOf cs = some l → relL ρ cs vs → ∃ ns : List Int, vs = ns.map (Value.int .u8) ∧ l = ns.map Int.toNat ∧ ∀ n ∈ ns, 0 ≤ n ∧ n < 256
  | [], l, vs, h, hr => by
    simp [optMap] at h; subst h
    simp only [relL] at hr; subst hr
    exact ⟨[], rfl, rfl, by simp⟩
  | c :: cs, l, vs, h, hr => by
    simp only [optMap] at h
    simp only [relL] at hr
    obtain ⟨y, ys, rfl, h1, h2⟩ := hr
    cases hc : byteOf c with
    | none => simp [hc] at h
    | some n =>
      cases hcs : optMap byteOf cs with
      | none => simp [hc, hcs] at h
      | some l' =>
        simp only [hc, hcs, Option.some.injEq] at h
        subst h
        obtain ⟨ns, rfl, rfl, hb⟩ := optMap_bytes hcs h2
        unfold byteOf at hc
        split at hc
        · rename_i m
          rw [rel_int] at h1; subst h1
          split at hc
          · rename_i hm
            simp only [Option.some.injEq] at hc
            subst hc
            exact ⟨m :: ns, rfl, rfl, by simpa using ⟨hm, hb⟩⟩
          · cases hc
        · cases hc

def relO (ρ : Emb) : Option AVal → Option Value → Prop
  | none, none => True
  | some x, some y => x.rel ρ y
  | _, _ => False

section
variable {E : Env} {P : Program} (ok : EnvOk E P) {w : World} {ρ : Emb}

theorem bound_sound {x : AVal} {x' : Value} {y n : Nat} (yC : Nat) {code : BoundsCode} (hx : x.rel ρ x') (h : bound x y = some n) (hy : y ≤ yC) : (Instr.sliceBound x' yC code).run P w = .ok n w ∧ n ≤ y := by
  unfold bound at h
  split at h
  · rename_i k i
    rw [rel_int] at hx; subst hx
    split at h
    · rename_i hi
      injection h with h; subst h
      exact ⟨run_sliceBound w k i yC code hi.1 (by omega), by omega⟩
    · cases h
  · cases h

theorem bounds_sound {isSlice : Bool} {len cap capC : Nat} {lo hi mx : Option AVal} {lo' hi' mx' : Option Value} {l h m : Nat} (hc : cap ≤ capC) (hlo : relO ρ lo lo') (hhi : relO ρ hi hi') (hmx : relO ρ mx mx') (hb : bounds len cap lo hi mx = some (l, h, m)) :
    (Instr.sliceBounds isSlice len capC lo' hi' mx').run P w = .ok (l, h, if mx.isNone then capC else m) w ∧ (mx = none → m = cap) := by
  unfold bounds at hb
  cases mx with
  | none =>
    cases mx' with
    | some y => exact hmx.elim
    | none =>
      refine ⟨?_, fun _ => ?_⟩
      · cases hi with
        | none =>
          cases hi' with
          | some y => exact hhi.elim
          | none =>
            simp only [obound] at hb
            cases lo with
            | none =>
              cases lo' with
              | some y => exact hlo.elim
              | none =>
                simp only [Option.some.injEq, Prod.mk.injEq] at hb
                obtain ⟨rfl, rfl, rfl⟩ := hb
                simp [Instr.sliceBounds]
            | some x =>
              cases lo' with
              | none => exact hlo.elim
              | some y =>
                simp only at hb
                cases hl : bound x len with
                | none => simp [hl] at hb
                | some l0 =>
                  simp only [hl, Option.some.injEq, Prod.mk.injEq] at hb
                  obtain ⟨rfl, rfl, rfl⟩ := hb
                  have r1 := fun code => (bound_sound (P := P) (w := w) (code := code) len hlo hl (Nat.le_refl _)).1
                  simp [Instr.sliceBounds, r1]
        | some xh =>
          cases hi' with
          | none => exact hhi.elim
          | some yh =>
            simp only [obound] at hb
            cases hh : bound xh cap with
            | none => simp [hh] at hb
            | some h0 =>
              have r2 := fun code => (bound_sound (P := P) (w := w) (code := code) capC hhi hh hc).1
              simp only [hh] at hb
              cases lo with
              | none =>
                cases lo' with
                | some y => exact hlo.elim
                | none =>
                  simp only [Option.some.injEq, Prod.mk.injEq] at hb
                  obtain ⟨rfl, rfl, rfl⟩ := hb
                  simp [Instr.sliceBounds, r2]
              | some x =>
                cases lo' with
                | none => exact hlo.elim
                | some y =>
                  simp only at hb
                  cases hl : bound x h0 with
                  | none => simp [hl] at hb
                  | some l0 =>
                    simp only [hl, Option.some.injEq, Prod.mk.injEq] at hb
                    obtain ⟨rfl, rfl, rfl⟩ := hb
                    have r1 := fun code => (bound_sound (P := P) (w := w) (code := code) h0 hlo hl (Nat.le_refl _)).1
                    simp [Instr.sliceBounds, r1, r2]
      · cases hi with
        | none =>
          simp only [obound] at hb
          cases lo with
          | none =>
            simp only [Option.some.injEq, Prod.mk.injEq] at hb
            exact hb.2.2.symm
          | some x =>
            simp only at hb
            cases hl : bound x len with
            | none => simp [hl] at hb
            | some l0 => simp only [hl, Option.some.injEq, Prod.mk.injEq] at hb; exact hb.2.2.symm
        | some xh =>
          simp only [obound] at hb
          cases hh : bound xh cap with
          | none => simp [hh] at hb
          | some h0 =>
            simp only [hh] at hb
            cases lo with
            | none =>
              simp only [Option.some.injEq, Prod.mk.injEq] at hb
              exact hb.2.2.symm
            | some x =>
              simp only at hb
              cases hl : bound x h0 with
              | none => simp [hl] at hb
              | some l0 => simp only [hl, Option.some.injEq, Prod.mk.injEq] at hb; exact hb.2.2.symm
  | some xm =>
    cases mx' with
    | none => exact hmx.elim
    | some ym =>
      refine ⟨?_, fun h => by cases h⟩
      simp only [obound] at hb
      cases hm : bound xm cap with
      | none => simp [hm] at hb
      | some m0 =>
        have r3 := fun code => (bound_sound (P := P) (w := w) (code := code) capC hmx hm hc).1
        simp only [hm] at hb
        cases hi with
        | none => simp at hb
        | some xh =>
          cases hi' with
          | none => exact hhi.elim
          | some yh =>
            simp only at hb
            cases hh : bound xh m0 with
            | none => simp [hh] at hb
            | some h0 =>
              have r2 := fun code => (bound_sound (P := P) (w := w) (code := code) m0 hhi hh (Nat.le_refl _)).1
              simp only [hh] at hb
              cases lo with
              | none =>
                cases lo' with
                | some y => exact hlo.elim
                | none =>
                  simp only [Option.some.injEq, Prod.mk.injEq] at hb
                  obtain ⟨rfl, rfl, rfl⟩ := hb
                  simp [Instr.sliceBounds, r2, r3]
              | some x =>
                cases lo' with
                | none => exact hlo.elim
                | some y =>
                  simp only at hb
                  cases hl : bound x h0 with
                  | none => simp [hl] at hb
                  | some l0 =>
                    simp only [hl, Option.some.injEq, Prod.mk.injEq] at hb
                    obtain ⟨rfl, rfl, rfl⟩ := hb
                    have r1 := fun code => (bound_sound (P := P) (w := w) (code := code) h0 hlo hl (Nat.le_refl _)).1
                    simp [Instr.sliceBounds, r1, r2, r3]

include ok

theorem conv_sound {g : Nat → Option AObj} (hl : LookRel ρ g w) {s d : Nat} {a : AVal} {a' : Value} {v : AVal} (ha : a.rel ρ a') (h : conv E g s d a = some v) : ∃ v', (convert s d a').run P w = .ok v' w ∧ v.rel ρ v' := by
  unfold conv at h
  cases hs : E.under s with
  | none => simp [hs] at h
  | some ds =>
    cases hd : E.under d with
    | none => simp [hs, hd] at h
    | some dd =>
      simp only [hs, hd] at h
      have r1 := run_under ok (w := w) hs
      have r2 := run_under ok (w := w) hd
      split at h
      · rw [rel_int] at ha; subst ha
        injection h with h; subst h
        refine ⟨_, by simp only [convert, Sem.run_bind, r1, r2, Result.andThen_ok]; rfl, by simp [AVal.rel]⟩
      · rw [rel_int] at ha; subst ha
        injection h with h; subst h
        refine ⟨_, by simp only [convert, Sem.run_bind, r1, r2, Result.andThen_ok]; rfl, by simp [AVal.rel]⟩
      · rename_i k sk b
        rw [rel_float] at ha; subst ha
        split at h
        · rename_i n hn
          split at h
          · rename_i hr
            injection h with h; subst h
            refine ⟨.int k n, ?_, by simp [AVal.rel]⟩
            simp only [convert, Sem.run_bind, r1, r2, Result.andThen_ok]
            unfold Conv.floatToInt
            simp only [hn, hr, and_self, if_true]
            rfl
          · cases h
        · cases h
      · rw [rel_str] at ha
        obtain ⟨b, rfl, rfl⟩ := ha
        injection h with h; subst h
        refine ⟨.string b, by simp only [convert, Sem.run_bind, r1, r2, Result.andThen_ok]; rfl, rel_str.2 ⟨b, rfl, rfl⟩⟩
      · simp only [AVal.rel] at ha; subst ha
        split at h
        · rename_i e
          split at h
          · rename_i he
            injection h with h; subst h
            refine ⟨.string .empty, ?_, rel_str.2 ⟨.empty, rfl, rfl⟩⟩
            rw [run_convert_bytes_string w s d e _ _ _ (under_eq ok hs) (under_eq ok he) (under_eq ok hd)]
            rfl
          · cases h
        · cases h
      · rename_i b off len cap opn
        simp only [AVal.rel] at ha
        obtain ⟨l, hρ, rfl⟩ := ha
        split at h
        · rename_i e
          split at h
          · rename_i he
            split at h
            · rename_i cs hcs
              simp only [Option.map_eq_some_iff] at h
              obtain ⟨bs, hbs, rfl⟩ := h
              obtain ⟨vs, hv1, _, hv2, hv3⟩ := cells_read hl hcs hρ
              obtain ⟨ns, rfl, rfl, hn⟩ := optMap_bytes hbs hv2
              have hld := run_loadCells_list (P := P) w _ _ hv3
              rw [hv1] at hld
              rw [run_convert_bytes_string w s d e _ _ _ (under_eq ok hs) (under_eq ok he) (under_eq ok hd), run_bytesToString w _ _ _ _ hld]
              exact ⟨_, rfl, rel_str.2 ⟨_, rfl, by rw [bytes_foldl ns _ hn]; exact List.nil_append _⟩⟩
            · cases h
          · cases h
        · cases h
      · cases h

omit ok in
theorem emp_some (p : Prop) [Decidable p] (a : Addr) (f : Addr → Addr) (k : Nat) : ∃ a' k', Value.slice (if p then some a else Option.map f (some a)) 0 k = .slice (some a') 0 k' := by
  split <;> exact ⟨_, _, rfl⟩

theorem sliceV_sound {t : Nat} {x : AVal} {x' : Value} {lo hi mx : Option AVal} {lo' hi' mx' : Option Value} {v : AVal} (hx : x.rel ρ x') (hlo : relO ρ lo lo') (hhi : relO ρ hi hi') (hmx : relO ρ mx mx') (h : sliceV E t x lo hi mx = some v) :
    ∃ v', (Instr.sliceAt t x' lo' hi' mx').run P w = .ok v' w ∧ v.rel ρ v' := by
  unfold sliceV at h
  split at h
  · rename_i n e b off hu
    simp only [AVal.rel] at hx
    obtain ⟨lc, hρ, rfl⟩ := hx
    split at h
    · rename_i l hh m s hb hs
      injection h with h; subst h
      obtain ⟨h1, h2⟩ := bounds_sound (P := P) (w := w) (isSlice := false) (Nat.le_refl n) hlo hhi hmx hb
      have hm : (if mx.isNone then n else m) = m := by
        cases mx with
        | none => simp [h2 rfl]
        | some _ => rfl
      rw [hm] at h1
      simp only [Instr.sliceAt, Sem.run_bind, run_under ok hu, Result.andThen_ok, Instr.sureAddr, Sem.run_pure, h1, run_size ok hs]
      refine ⟨_, rfl, ?_⟩
      simp only [AVal.rel]
      refine ⟨lc, hρ, ?_⟩
      by_cases hml : m = l
      · simp [hml]
      · simp only [hml, if_false, beq_no hml, cond_false, addr_add_off, Nat.add_zero, Nat.add_assoc]
    · cases h
  · rename_i s0 hu
    split at h
    · cases h
    · split at h
      · rename_i l hh m hb
        injection h with h; subst h
        rw [rel_str] at hx
        obtain ⟨b, rfl, rfl⟩ := hx
        rw [bytesNat_length] at hb
        cases mx' with
        | some y => exact hmx.elim
        | none =>
          obtain ⟨h1, _⟩ := bounds_sound (P := P) (w := w) (isSlice := false) (mx' := none) (Nat.le_refl b.size) hlo hhi hmx hb
          rw [run_sliceAt_string w t _ _ _ _ (under_eq ok hu)]
          simp only [Instr.slice, Sem.run_bind, run_under ok hu, Result.andThen_ok, Option.isSome_none, Bool.false_eq_true, if_false, h1, Sem.run_pure]
          refine ⟨_, rfl, rel_str.2 ⟨_, rfl, ?_⟩⟩
          have : b.extract l hh = ByteArray.mk ((b.data.toList.drop l).take (hh - l)).toArray := by
            have := ByteArray.extract_mk b.data.toList l hh
            simpa using this
          rw [this]
          simp [bytesNat, List.map_take, List.map_drop]
      · cases h
  · rename_i e len cap opn hu
    simp only [AVal.rel] at hx; subst hx
    split at h
    · rename_i l hh m s hb hs
      injection h with h; subst h
      obtain ⟨h1, h2⟩ := bounds_sound (P := P) (w := w) (isSlice := true) (Nat.le_refl cap) hlo hhi hmx hb
      have hm : (if mx.isNone then cap else m) = m := by
        cases mx with
        | none => simp [h2 rfl]
        | some _ => rfl
      rw [hm] at h1
      simp only [Instr.sliceAt, Instr.slice, Sem.run_bind, run_under ok hu, Result.andThen_ok, h1, run_size ok hs, Sem.run_pure]
      exact ⟨_, rfl, by simp [AVal.rel]⟩
    · cases h
  · rename_i e b off len cap opn hu
    simp only [AVal.rel] at hx
    obtain ⟨lc, hρ, rfl⟩ := hx
    split at h
    · rename_i l hh m s hb hs
      simp only at h
      cases hbad : ((opn && mx.isNone && Nat.beq m l && !Nat.beq (l * s) 0) || !Nat.ble l m) with
      | true =>
        simp only [hbad, cond_true] at h
        cases hq : (Nat.ble l m && Nat.beq hh l) with
        | false => simp [hq] at h
        | true =>
          simp only [hq, cond_true, Option.some.injEq] at h
          subst h
          simp only [Bool.and_eq_true] at hq
          have hhl := of_beq hq.2
          subst hhl
          obtain ⟨h1, h2⟩ := bounds_sound (P := P) (w := w) (isSlice := true) (capC := cap + bif opn then lc.xe else 0) (by omega) hlo hhi hmx hb
          simp only [Instr.sliceAt, Instr.slice, Sem.run_bind, run_under ok hu, Result.andThen_ok, h1, run_size ok hs, Sem.run_pure]
          refine ⟨_, rfl, ?_⟩
          simp only [AVal.rel, Nat.sub_self]
          exact emp_some _ _ _ _
      | false =>
        simp only [hbad, cond_false, Option.some.injEq] at h
        subst h
        simp only [Bool.or_eq_false_iff, Bool.not_eq_false'] at hbad
        obtain ⟨hbad, hlm⟩ := hbad
        have hlm := of_ble hlm
        obtain ⟨h1, h2⟩ := bounds_sound (P := P) (w := w) (isSlice := true) (capC := cap + bif opn then lc.xe else 0) (by omega) hlo hhi hmx hb
        simp only [Instr.sliceAt, Instr.slice, Sem.run_bind, run_under ok hu, Result.andThen_ok, h1, run_size ok hs, Sem.run_pure]
        refine ⟨_, rfl, ?_⟩
        simp only [AVal.rel]
        refine ⟨lc, hρ, ?_⟩
        cases mx with
        | some xm =>
          simp only [Option.isNone_some, Bool.and_false, cond_false, Bool.false_eq_true, if_false, Nat.add_zero]
          by_cases hml : m = l
          · simp [hml]
          · simp only [hml, if_false, beq_no hml, cond_false, Option.map_some, addr_add_off, Nat.add_assoc]
        | none =>
          have hmc := h2 rfl
          subst hmc
          simp only [Option.isNone_none, Bool.and_true, if_true] at hbad ⊢
          cases opn with
          | false =>
            simp only [cond_false, Nat.add_zero]
            by_cases hml : m = l
            · simp [hml]
            · simp only [hml, if_false, beq_no hml, cond_false, Option.map_some, addr_add_off, Nat.add_assoc]
          | true =>
            simp only [cond_true, Bool.true_and] at hbad ⊢
            by_cases hml : m = l
            · subst hml
              simp only [Nat.beq_refl, Bool.true_and, Bool.not_eq_false', cond_true] at hbad ⊢
              have hz := of_beq hbad
              by_cases hx : m + lc.xe = m
              · have : lc.xe = 0 := by omega
                simp [this]
              · rw [if_neg hx, hz, Option.map_some, addr_add_off]
                congr 1; omega
            · rw [if_neg (by omega)]
              simp only [beq_no hml, cond_false, Option.map_some, addr_add_off, Nat.add_assoc]
              congr 1; omega
    · cases h
  · rename_i e hu
    simp only [AVal.rel] at hx
    obtain ⟨a, k, rfl⟩ := hx
    split at h
    · rename_i l hh m s hb hs
      cases hq : Nat.beq hh l with
      | false => simp [hq] at h
      | true =>
        simp only [hq, cond_true, Option.some.injEq] at h
        subst h
        have hhl := of_beq hq
        subst hhl
        obtain ⟨h1, h2⟩ := bounds_sound (P := P) (w := w) (isSlice := true) (capC := k) (Nat.zero_le _) hlo hhi hmx hb
        simp only [Instr.sliceAt, Instr.slice, Sem.run_bind, run_under ok hu, Result.andThen_ok, h1, run_size ok hs, Sem.run_pure]
        refine ⟨_, rfl, ?_⟩
        simp only [AVal.rel, Nat.sub_self]
        exact emp_some _ _ _ _
    · cases h
  · cases h

end
end Go.Ev
