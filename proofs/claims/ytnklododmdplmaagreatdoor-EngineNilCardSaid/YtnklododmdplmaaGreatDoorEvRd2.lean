/- A part of the proof that an evaluator of the machine's code is sound (EvRd2). No conditions. -/
import Derived.Test.YtnklododmdplmaaGreatDoorEvRd
import Derived.ChangeKeysEq
import Derived.Laws.StructEq
namespace Go.Ev

section
variable {E : Env} {P : Program} (ok : EnvOk E P) {w : World} {ρ : Emb}
include ok

theorem part_sound {t off : Nat} {cs : List AVal} {cs' : Array Value} {v : AVal} (hcs : relL ρ cs cs'.toList) (h : Ev.part E t cs off = some v) : ∃ v', (Go.part t cs' off).run P w = .ok v' w ∧ v.rel ρ v' := by
  unfold Ev.part at h
  cases hd : E.under t with
  | none => simp [hd] at h
  | some d =>
    cases hn : E.size t with
    | none => simp [hd, hn] at h
    | some n =>
      simp only [hd, hn] at h
      unfold Go.part
      simp only [Sem.run_bind, run_isAgg ok hd, Result.andThen_ok]
      cases ha : isAggD d with
      | true =>
        simp only [ha, cond_true] at h
        cases hb : Nat.ble (off + n) cs.length with
        | false => simp [hb] at h
        | true =>
          simp only [hb, cond_true, Option.some.injEq] at h
          subst h
          simp only [if_true, Sem.run_bind, run_size ok hn, Result.andThen_ok, Sem.run_pure]
          refine ⟨_, rfl, ?_⟩
          simp only [AVal.rel]
          refine ⟨_, rfl, ?_⟩
          have := relL_take n (relL_drop off hcs)
          simpa [Array.toList_extract, List.extract_eq_take_drop] using this
      | false =>
        simp only [ha, cond_false] at h
        simp only [Bool.false_eq_true, if_false]
        obtain ⟨v', hv, hr⟩ := relL_get hcs off v h
        have : cs'[off]? = some v' := by simpa using hv
        simp only [this, Sem.run_pure]
        exact ⟨v', rfl, hr⟩

theorem eqFields_sound {d D : Nat} (ih : ∀ {t : Nat} {x y : AVal} {x' y' : Value} {b : Bool}, eqv E d t x y = some b → x.rel ρ x' → y.rel ρ y' → (Op.equalIn D t x' y').run P w = .ok b w) {xs ys : List AVal} {xs' ys' : Array Value} (hx : relL ρ xs xs'.toList) (hy : relL ρ ys ys'.toList) :
    ∀ (fs : List Field) (b : Bool), eqv.eqFields E (fun t a b => eqv E d t a b) fs xs ys = some b → (Op.eqFields D xs' ys' fs).run P w = .ok b w
  | [], b, h => by simp [eqv.eqFields] at h; subst h; simp [Op.eqFields]
  | f :: fs, b, h => by
    simp only [eqv.eqFields] at h
    simp only [Op.eqFields]
    by_cases hn : f.name = "_"
    · simp only [hn, if_true] at h
      simp only [hn, ne_eq, not_true, if_false]
      exact eqFields_sound ih hx hy fs b h
    · simp only [hn, if_false] at h
      simp only [hn, ne_eq, not_false_iff, if_true]
      cases h1 : Ev.part E f.type xs f.offset with
      | none => simp [h1] at h
      | some a =>
        cases h2 : Ev.part E f.type ys f.offset with
        | none => simp [h1, h2] at h
        | some c =>
          simp only [h1, h2] at h
          obtain ⟨a', ha, hra⟩ := part_sound ok (w := w) hx h1
          obtain ⟨c', hc, hrc⟩ := part_sound ok (w := w) hy h2
          simp only [Sem.run_bind, ha, hc, Result.andThen_ok]
          cases he : eqv E d f.type a c with
          | none => simp [he] at h
          | some r =>
            rw [ih he hra hrc]
            simp only [he] at h
            cases r with
            | true =>
              simp only [Result.andThen_ok, Bool.not_true, Bool.false_eq_true, if_false]
              exact eqFields_sound ih hx hy fs b h
            | false =>
              simp only [Option.some.injEq] at h
              subst h
              simp

theorem eqItems_sound {d D : Nat} {e s : Nat} (ih : ∀ {x y : AVal} {x' y' : Value} {b : Bool}, eqv E d e x y = some b → x.rel ρ x' → y.rel ρ y' → (Op.equalIn D e x' y').run P w = .ok b w) {xs ys : List AVal} {xs' ys' : Array Value} (hx : relL ρ xs xs'.toList) (hy : relL ρ ys ys'.toList) :
    ∀ (is : List Nat) (b : Bool), eqv.eqItems E (fun a b => eqv E d e a b) e s xs ys is = some b → (Op.eqItems D e s xs' ys' is).run P w = .ok b w
  | [], b, h => by simp [eqv.eqItems] at h; subst h; simp [Op.eqItems]
  | i :: is, b, h => by
    simp only [eqv.eqItems] at h
    simp only [Op.eqItems]
    cases h1 : Ev.part E e xs (i * s) with
    | none => simp [h1] at h
    | some a =>
      cases h2 : Ev.part E e ys (i * s) with
      | none => simp [h1, h2] at h
      | some c =>
        simp only [h1, h2] at h
        obtain ⟨a', ha, hra⟩ := part_sound ok (w := w) hx h1
        obtain ⟨c', hc, hrc⟩ := part_sound ok (w := w) hy h2
        simp only [Sem.run_bind, ha, hc, Result.andThen_ok]
        cases he : eqv E d e a c with
        | none => simp [he] at h
        | some r =>
          rw [ih he hra hrc]
          simp only [he] at h
          cases r with
          | true =>
            simp only [Result.andThen_ok, Bool.not_true, Bool.false_eq_true, if_false]
            exact eqItems_sound ih hx hy is b h
          | false =>
            simp only [Option.some.injEq] at h
            subst h
            simp

set_option maxHeartbeats 4000000 in
theorem eqv_sound : ∀ (d D : Nat), d ≤ D → ∀ {t : Nat} {x y : AVal} {x' y' : Value} {b : Bool}, eqv E d t x y = some b → x.rel ρ x' → y.rel ρ y' → (Op.equalIn D t x' y').run P w = .ok b w
  | 0, _, _, t, x, y, x', y', b, h, _, _ => by simp [eqv] at h
  | d + 1, 0, hD, _, _, _, _, _, _, _, _, _ => by omega
  | d + 1, D + 1, hD, t, x, y, x', y', b, h, hx, hy => by
    unfold eqv at h
    split at h
    · rename_i a c hu
      simp only [AVal.rel] at hx hy; subst hx; subst hy
      simp at h; subst h
      simp [Op.equalIn, run_under ok hu]
    · rename_i k0 k a k' c hu
      simp only [AVal.rel] at hx hy; subst hx; subst hy
      split at h
      · rename_i hk; subst hk
        simp at h; subst h
        simp [Op.equalIn, run_under ok hu]
      · cases h
    · rename_i a c hu
      simp only [AVal.rel] at hx hy
      obtain ⟨a', rfl, rfl⟩ := hx
      obtain ⟨c', rfl, rfl⟩ := hy
      simp only [Option.some.injEq] at h; subst h
      simp only [Op.equalIn, Sem.run_bind, run_under ok hu, Result.andThen_ok, Sem.run_pure]
      rw [listEq_bytes, beq_toListBytes, ByteArray_toList, ByteArray_toList]
    · rename_i e c hu
      simp only [Option.some.injEq] at h; subst h
      simp only [AVal.rel] at hx; subst hx
      cases c with
      | none => simp only [AVal.rel] at hy; subst hy; simp [Op.equalIn, run_under ok hu, eqNil]
      | some q => simp only [AVal.rel] at hy; obtain ⟨l, _, rfl⟩ := hy; simp [Op.equalIn, run_under ok hu, eqNil]
    · rename_i e q hu
      simp only [Option.some.injEq] at h; subst h
      simp only [AVal.rel] at hx hy
      obtain ⟨l, _, rfl⟩ := hx
      subst hy
      simp [Op.equalIn, run_under ok hu]
    · rename_i ms hu
      simp only [Option.some.injEq] at h; subst h
      simp only [AVal.rel] at hx hy; subst hx; subst hy
      simp [Op.equalIn, run_under ok hu]
    · rename_i ms t' v' hu
      simp only [Option.some.injEq] at h; subst h
      simp only [AVal.rel] at hx hy
      obtain ⟨z, rfl, _⟩ := hy
      subst hx
      simp [Op.equalIn, run_under ok hu]
    · rename_i ms t' v' hu
      simp only [Option.some.injEq] at h; subst h
      simp only [AVal.rel] at hx hy
      obtain ⟨z, rfl, _⟩ := hx
      subst hy
      simp [Op.equalIn, run_under ok hu]
    · rename_i e l1 c1 o1 q l2 c2 o2 hu
      simp only [Option.some.injEq] at h; subst h
      simp only [AVal.rel] at hx; subst hx
      cases q with
      | none => simp only [AVal.rel] at hy; subst hy; simp [Op.equalIn, run_under ok hu, eqNil]
      | some q => simp only [AVal.rel] at hy; obtain ⟨l, _, rfl⟩ := hy; simp [Op.equalIn, run_under ok hu, eqNil]
    · rename_i e q l1 c1 o1 l2 c2 o2 hu
      simp only [Option.some.injEq] at h; subst h
      simp only [AVal.rel] at hx hy
      obtain ⟨l, _, rfl⟩ := hx
      subst hy
      simp [Op.equalIn, run_under ok hu]
    · rename_i e l2 c2 o2 hu
      simp only [Option.some.injEq] at h; subst h
      simp only [AVal.rel] at hx hy
      obtain ⟨a, k, rfl⟩ := hx
      subst hy
      simp [Op.equalIn, run_under ok hu]
    · rename_i e l2 c2 o2 hu
      simp only [Option.some.injEq] at h; subst h
      simp only [AVal.rel] at hx hy
      obtain ⟨a, k, rfl⟩ := hy
      subst hx
      simp [Op.equalIn, run_under ok hu]
    · rename_i k e q hu
      simp only [Option.some.injEq] at h; subst h
      simp only [AVal.rel] at hx; subst hx
      cases q with
      | none => simp only [AVal.rel] at hy; subst hy; simp [Op.equalIn, run_under ok hu]
      | some q => simp only [AVal.rel] at hy; obtain ⟨l, _, rfl⟩ := hy; simp [Op.equalIn, run_under ok hu]
    · rename_i k e q hu
      simp only [Option.some.injEq] at h; subst h
      simp only [AVal.rel] at hx hy
      obtain ⟨l, _, rfl⟩ := hx
      subst hy
      simp [Op.equalIn, run_under ok hu]
    · rename_i a c r hu
      simp only [Option.some.injEq] at h; subst h
      simp only [AVal.rel] at hx hy; subst hx; subst hy
      simp [Op.equalIn, run_under ok hu]
    · rename_i a c r f x1 x2 hu
      simp only [Option.some.injEq] at h; subst h
      simp only [AVal.rel] at hx hy
      obtain ⟨z1, z2, rfl, _, _⟩ := hy
      subst hx
      simp [Op.equalIn, run_under ok hu]
    · rename_i a c r f x1 x2 hu
      simp only [Option.some.injEq] at h; subst h
      simp only [AVal.rel] at hx hy
      obtain ⟨z1, z2, rfl, _, _⟩ := hx
      subst hy
      simp [Op.equalIn, run_under ok hu]
    · rename_i fs xs ys hu
      cases he : E.eqOK t with
      | false => simp [he] at h
      | true =>
        simp only [he, cond_true] at h
        simp only [AVal.rel] at hx hy
        obtain ⟨xs', rfl, hx⟩ := hx
        obtain ⟨ys', rfl, hy⟩ := hy
        have hfs : P.fieldsOf t = fs := by unfold Program.fieldsOf; rw [under_eq ok hu]
        rw [run_equalIn_struct w D t xs' ys' (by rw [under_eq ok hu, hfs]) (ok.eqOK t he).2, hfs]
        exact eqFields_sound ok (fun h1 h2 h3 => eqv_sound d D (by omega) h1 h2 h3) hx hy fs.toList b h
    · rename_i n e xs ys hu
      split at h
      · rename_i s hs
        simp only [AVal.rel] at hx hy
        obtain ⟨xs', rfl, hx⟩ := hx
        obtain ⟨ys', rfl, hy⟩ := hy
        unfold Env.size at hs
        rw [Option.map_eq_some_iff] at hs
        obtain ⟨i, hi, rfl⟩ := hs
        have hP := ok.info e i hi
        have hc : P.cellsOf e = i.size := by simp [Program.cellsOf, hP]
        rw [run_equalIn_array w D xs' ys' (under_eq ok hu) hP, hc]
        exact eqItems_sound ok (fun h1 h2 h3 => eqv_sound d D (by omega) h1 h2 h3) hx hy (List.range n) b h
      · cases h
    · cases h

omit ok in
theorem of_nilIface {ρ : Emb} {u : AVal} (hx : u.rel ρ .nilIface) : u = .nilIface := by
  cases u with
  | ptr p => cases p <;> simp [AVal.rel] at hx
  | slice p _ _ _ => cases p <;> simp [AVal.rel] at hx
  | map p => cases p <;> simp [AVal.rel] at hx
  | nilIface => rfl
  | opq y => simp only [AVal.rel] at hx; obtain ⟨_, _, _, h⟩ := hx; simp [okOpq] at h
  | _ => simp [AVal.rel] at hx

omit ok in
theorem of_agg {ρ : Emb} {u : AVal} {xs : Array Value} (hx : u.rel ρ (.agg xs)) : ∃ a, u = .agg a := by
  cases u with
  | ptr p => cases p <;> simp [AVal.rel] at hx
  | slice p _ _ _ => cases p <;> simp [AVal.rel] at hx
  | map p => cases p <;> simp [AVal.rel] at hx
  | agg a => exact ⟨a, rfl⟩
  | opq y => simp only [AVal.rel] at hx; obtain ⟨_, _, _, h⟩ := hx; simp [okOpq] at h
  | _ => simp [AVal.rel] at hx

theorem guard_sound {op : BinOp} {t : Nat} {x y : Operand} {u v : AVal} {u' v' : Value} (hx : u.rel ρ u') (hy : v.rel ρ v') (h : (op = .eql ∨ op = .neq) → guardOK E t (isConst x) (isConst y) u v = true) : (eqGuard op t x y u' v').run P w = .ok () w := by
  by_cases hop : op = .eql ∨ op = .neq
  · have hg := h hop
    clear h
    by_cases hn : u' = .nilIface ∧ v' = .nilIface
    · obtain ⟨rfl, rfl⟩ := hn
      rw [of_nilIface hx, of_nilIface hy] at hg
      rcases hop with rfl | rfl <;> cases x <;> cases y <;> first | rfl | exact absurd hg Bool.false_ne_true
    · by_cases ha : (∃ xs, u' = .agg xs) ∧ ∃ ys, v' = .agg ys
      · obtain ⟨⟨xs, rfl⟩, ys, rfl⟩ := ha
        obtain ⟨a, rfl⟩ := of_agg hx
        obtain ⟨c, rfl⟩ := of_agg hy
        exact run_eqGuard_agg w op t x y xs ys (ok.eqOK t hg).1
      · rcases hop with rfl | rfl <;> cases u' <;> cases v' <;> first | rfl | exact absurd ⟨rfl, rfl⟩ hn | exact absurd ⟨⟨_, rfl⟩, _, rfl⟩ ha
  · cases op <;> first | rfl | (exact absurd (.inl rfl) hop) | (exact absurd (.inr rfl) hop)

end
end Go.Ev
