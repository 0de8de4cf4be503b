/- A part of the proof that an evaluator of the machine's code is sound (EvCall). No conditions. -/
import Derived.Test.YtnklododmdplmaaGreatDoorEvRef
namespace Go.Ev

section
variable {E : Env} {P : Program} {ρ : Emb}

/-! memories that grow -/

theorem Grow.put {M : Mem} {b : Nat} {o o' : AObj} (h : M.get b = some o) : Grow M (M.put b o') :=
  ⟨Nat.le_refl _, fun hw b' o2 h2 => by
    rw [Mem.get_put] at h2
    by_cases hb : b' = b
    · subst hb; exact hw _ _ h
    · rw [if_neg hb] at h2; exact hw _ _ h2⟩

theorem Grow.add (M : Mem) (o : AObj) : Grow M (M.add o) :=
  ⟨by simp [Mem.add], fun hw b' o2 h2 => by
    rw [Mem.get_add] at h2
    by_cases hb : b' = M.next
    · subst hb; simp [Mem.add]
    · rw [if_neg hb] at h2
      have := hw _ _ h2
      simp only [Mem.add]; omega⟩

theorem Grow.kill (M : Mem) (b : Nat) : Grow M (M.kill b) :=
  ⟨Nat.le_refl _, fun hw b' o2 h2 => by
    rw [Mem.get_kill] at h2
    by_cases hb : b' = b
    · rw [if_pos hb] at h2; cases h2
    · rw [if_neg hb] at h2; exact hw _ _ h2⟩

theorem putCells_grow {M M' : Mem} {b off : Nat} {xs : List AVal} (h : putCells M b off xs = some M') : Grow M M' := by
  unfold putCells at h
  split at h
  · rename_i c e opn hg
    cases hb : (Nat.ble (off + xs.length) c.length && xs.all AVal.isCell) with
    | false => simp [hb] at h
    | true =>
      simp only [hb, cond_true, Option.some.injEq] at h
      subst h
      exact Grow.put hg
  · cases h

theorem mapPut_grow {M M' : Mem} {t : Nat} {m k x : AVal} (h : mapPut E M t m k x = some M') : Grow M M' := by
  unfold mapPut at h
  split at h
  · split at h
    · rename_i kd es ck _ hg
      have h := (bif_some h).2
      split at h
      · injection h with h; subst h; exact Grow.put hg
      · injection h with h; subst h; exact Grow.put hg
      · cases h
    · cases h
  · cases h

theorem growW_grow {M M' : Mem} {e s need : Nat} {base : Option (Nat × Nat)} {len cap : Nat} {opn : Bool} {new : List AVal} {v : AVal} (h : growW M e s need base len cap opn new = some (v, M')) : Grow M M' := by
  unfold growW at h
  split at h
  · simp only [Option.some.injEq, Prod.mk.injEq] at h
    obtain ⟨_, rfl⟩ := h
    exact Grow.add _ _
  · split at h
    · cases h
    · cases opn with
      | true =>
        simp only [cond_true] at h
        split at h
        · have h := (bif_some h).2
          simp only [Option.some.injEq, Prod.mk.injEq] at h
          obtain ⟨_, rfl⟩ := h
          exact (Grow.kill _ _).trans (Grow.add _ _)
        · cases h
      | false =>
        simp only [cond_false, Option.some.injEq, Prod.mk.injEq] at h
        obtain ⟨_, rfl⟩ := h
        exact Grow.add _ _

theorem inplaceW_grow {M M' : Mem} {s need n : Nat} {base : Option (Nat × Nat)} {len cap : Nat} {opn : Bool} {new : List AVal} {v : AVal} (h : inplaceW M s need n base len cap opn new = some (v, M')) : Grow M M' := by
  unfold inplaceW at h
  split at h
  · have h := (bif_some h).2
    simp only [Option.some.injEq, Prod.mk.injEq] at h
    obtain ⟨_, rfl⟩ := h
    exact Grow.refl _
  · simp only [Option.map_eq_some_iff, Prod.mk.injEq] at h
    obtain ⟨M₁, h, _, rfl⟩ := h
    exact putCells_grow h

theorem appendV_grow {M M' : Mem} {ts : List Nat} {args : List AVal} {v : AVal} (h : appendV E M ts args = some (v, M')) : Grow M M' := by
  unfold appendV at h
  split at h
  · split at h
    · rename_i e dx _ _
      cases hd : isIntD dx with
      | true => simp [hd] at h
      | false =>
        simp only [hd, cond_false] at h
        split at h
        · unfold appendW at h
          split at h
          · cases h
          · rename_i i n _ _ new _
            have h := (bif_some h).2
            generalize hc : Nat.ble _ _ = q at h
            cases q with
            | true => simp only [cond_true] at h; exact inplaceW_grow h
            | false =>
              simp only [cond_false] at h
              exact growW_grow (bif_some h).2
        · cases h
    · cases h
  · split at h
    · rename_i e dx _ _
      cases hd : isIntD dx with
      | true => simp [hd] at h
      | false =>
        simp only [hd, cond_false] at h
        split at h
        · split at h
          · have h := (bif_some h).2
            simp only [Option.some.injEq, Prod.mk.injEq] at h
            obtain ⟨_, rfl⟩ := h
            exact Grow.refl M
          · cases h
        · cases h
    · cases h
  · cases h

theorem copyV_grow {M M' : Mem} {ts : List Nat} {args : List AVal} {v : AVal} (h : copyV E M ts args = some (v, M')) : Grow M M' := by
  unfold copyV at h
  split at h
  · split at h
    · split at h
      · simp only at h
        split at h
        · split at h
          · simp only [Option.some.injEq, Prod.mk.injEq] at h
            obtain ⟨_, rfl⟩ := h
            exact Grow.refl _
          · simp only [Option.map_eq_some_iff, Prod.mk.injEq] at h
            obtain ⟨M₁, h, _, rfl⟩ := h
            exact putCells_grow h
        · cases h
      · cases h
    · cases h
  · cases h

theorem eff_grow {F : Fr} {M M' : Mem} {o : Op} {v : AVal} (h : eff E F M o = some (v, M')) : Grow M M' := by
  have hput {t : Nat} {m k x : Operand} (h : mapPutOp E F M t m k x = some (v, M')) : Grow M M' := by
    unfold mapPutOp at h
    split at h
    · simp only [Option.map_eq_some_iff, Prod.mk.injEq] at h
      obtain ⟨M₁, hp, _, rfl⟩ := h
      exact mapPut_grow hp
    · cases h
  cases o <;> simp only [eff] at h <;> try (cases h; done)
  case store t a x =>
    unfold storeOp at h
    split at h
    · split at h
      · rename_i M₁ hs
        simp only [Option.some.injEq, Prod.mk.injEq] at h
        obtain ⟨_, rfl⟩ := h
        unfold storeV at hs
        split at hs
        · exact putCells_grow (bif_some hs).2
        · cases hs
      · cases h
    · cases h
  case convert sx dx x =>
    have h := (bif_some h).2
    unfold convSliceOp at h
    split at h
    · split at h
      · rename_i c e opn hg
        simp only [Option.some.injEq, Prod.mk.injEq] at h
        obtain ⟨_, rfl⟩ := h
        exact Grow.put hg
      · cases h
    · cases h
  case mapUpdate t m k x => exact hput h
  case insert t m k x => exact hput h
  case mapEntry t m k =>
    unfold mapEntryOp at h
    split at h
    · unfold mapEntryV at h
      split at h
      · split at h
        · rename_i kd es ck z _ hg _
          have h := (bif_some h).2
          split at h
          · split at h
            · simp only [Option.some.injEq, Prod.mk.injEq] at h
              obtain ⟨_, rfl⟩ := h
              exact Grow.put hg
            · cases h
          · simp only [Option.some.injEq, Prod.mk.injEq] at h
            obtain ⟨_, rfl⟩ := h
            exact Grow.put hg
          · cases h
        · cases h
      · cases h
    · cases h
  case entryStore t m s x =>
    unfold entryStoreOp at h
    split at h
    · simp only [Option.map_eq_some_iff, Prod.mk.injEq] at h
      obtain ⟨M₁, h, _, rfl⟩ := h
      unfold entryStoreV at h
      split at h
      · split at h
        · rename_i es ck hg
          split at h
          · simp only [Option.map_eq_some_iff] at h
            obtain ⟨es', _, rfl⟩ := h
            exact Grow.put hg
          · cases h
        · cases h
      · cases h
    · cases h
  case next x b =>
    unfold nextOp at h
    have h := (bif_some h).2
    split at h
    · split at h
      · rename_i s pos hg
        split at h
        · simp only [Option.some.injEq, Prod.mk.injEq] at h
          obtain ⟨_, rfl⟩ := h
          exact Grow.refl _
        · have h := (bif_some h).2
          simp only [Option.some.injEq, Prod.mk.injEq] at h
          obtain ⟨_, rfl⟩ := h
          exact Grow.put hg
      · cases h
    · cases h
  case call c =>
    split at h
    · split at h
      · unfold appendOp at h
        split at h
        · exact appendV_grow h
        · cases h
      · unfold copyOp at h
        split at h
        · exact copyV_grow h
        · cases h
      · cases h
    · cases h

theorem refRun_grow {R : RefT} {r : RefOp} {M M' : Mem} {args : List AVal} {v : AVal} (h : refRun E R r M args = some (v, M')) : Grow M M' := by
  have fin {x : AVal} (h : some (x, M) = some (v, M')) : Grow M M' := by
    simp only [Option.some.injEq, Prod.mk.injEq] at h
    obtain ⟨_, rfl⟩ := h
    exact Grow.refl M
  unfold refRun at h
  split at h
  · split at h
    · simp only [Option.some.injEq, Prod.mk.injEq] at h
      obtain ⟨_, rfl⟩ := h
      exact Grow.add _ _
    · cases h
  · split at h
    · exact fin h
    · cases h
  · split at h
    · replace h := (bif_some h).2
      split at h
      · exact fin h
      · exact fin h
      · cases h
    · cases h
  · split at h
    · replace h := (bif_some h).2
      split at h
      · split at h
        · exact fin h
        · cases h
      · cases h
    · cases h
  · split at h
    · replace h := (bif_some h).2
      split at h
      · split at h
        · rename_i M₁ hs
          simp only [Option.some.injEq, Prod.mk.injEq] at h
          obtain ⟨_, rfl⟩ := h
          unfold storeV at hs
          split at hs
          · exact putCells_grow (bif_some hs).2
          · cases hs
        · cases h
      · cases h
    · cases h
  · split at h
    · exact fin h
    · cases h
  · split at h
    · split at h
      · exact fin h
      · cases h
    · cases h
  · split at h
    · split at h
      · exact fin h
      · cases h
    · cases h
  · split at h
    · exact fin (bif_some h).2
    · cases h
  · split at h
    · exact fin (bif_some h).2
    · cases h
  · cases h

/-- a function that is called -/
def CallOk (E : Env) (P : Program) (call : CallF) : Prop :=
  ∀ f args M v M', call f args M = some (v, M') → Grow M M' ∧
    ∀ ρ w (args' : Array Value), Rel E ρ M w → relL ρ args args'.toList → Free ρ M M' →
      Calls P f args' w fun e w' => ∃ v' ρ', e = .returned v' ∧ v.rel ρ' v' ∧ Trans E ρ M w ρ' M' w'

theorem doOp_grow {call : CallF} (hc : CallOk E P call) {F : Fr} {M M' : Mem} {o : Op} {v : AVal} (h : doOp E call F M o = some (v, M')) : Grow M M' := by
  unfold doOp at h
  have hret {r : Option AVal} (h : retV M r = some (v, M')) : Grow M M' := by
    unfold retV at h
    split at h
    · simp only [Option.some.injEq, Prod.mk.injEq] at h
      obtain ⟨_, rfl⟩ := h
      exact Grow.refl _
    · cases h
  split at h
  · exact hret h
  · exact hret h
  · unfold retF at h
    split at h
    · simp only [Option.some.injEq, Prod.mk.injEq] at h
      obtain ⟨_, rfl⟩ := h
      exact Grow.add _ _
    · cases h
  · exact eff_grow h
  · unfold callOp at h
    split at h
    · split at h
      · exact (hc _ _ _ _ _ h).1
      · split at h
        · exact hret h
        · split at h
          · exact refRun_grow h
          · cases h
    · cases h

variable (ok : EnvOk E P)
include ok

omit ok in
theorem run_wrapNil {w : World} (ts : Array TypeId) (t : TypeId) (a : Addr) (x y : String) : (Builtin.ssaWrapNilChk_ ts t #[.pointer (some a), strVal x, strVal y]).run P w = .ok (.pointer (some a)) w := rfl

theorem method_sound {w : World} {g : Nat → Option AObj} (hl : LookRel ρ g w) {t f : Nat} {v recv : AVal} {v' : Value} {name : String} (hv : v.rel ρ v') (h : methodOf E g t v name = some (f, recv)) (n : Nat) :
    ∃ r', (method (n + 1) t v' name).run P w = .ok (f, r') w ∧ recv.rel ρ r' := by
  unfold methodOf at h
  split at h
  · rename_i i hi
    split at h
    · rename_i m hm
      split at h
      · rename_i f2 ptr d hp hf hu
        have hfind : i.methods.find? (·.name == name) = some m := by
          rw [← Array.find?_toList]; exact hm
        have hgo : ∃ r', f2 = f ∧ recv.rel ρ r' ∧ (receiverAt t (.val v') ptr (if m.path.isEmpty then some ((name.splitOn ".").getLastD name) else none)).run P w = .ok r' w := by
          split at h
          · simp only [Option.some.injEq, Prod.mk.injEq] at h
            obtain ⟨rfl, rfl⟩ := h
            exact ⟨v', rfl, hv, by simp [receiverAt, run_under ok hu, Place.get]⟩
          · rename_i e
            split at h
            · rename_i u hld
              simp only [Option.some.injEq, Prod.mk.injEq] at h
              obtain ⟨rfl, rfl⟩ := h
              obtain ⟨ad, r', rfl, h3, h4⟩ := loadV_sound ok hl hv hld
              refine ⟨r', rfl, h4, ?_⟩
              have hemp : m.path.isEmpty = true := by
                cases hq : m.path with
                | mk l => rw [hq] at hp; simp at hp; subst hp; rfl
              simp [receiverAt, run_under ok hu, Place.get, hemp, run_wrapNil, asAddr, h3]
            · cases h
          · rename_i hnp
            simp only [Option.some.injEq, Prod.mk.injEq] at h
            obtain ⟨rfl, rfl⟩ := h
            refine ⟨v', rfl, hv, ?_⟩
            cases d <;> first | exact absurd rfl (hnp _) | simp [receiverAt, run_under ok hu, Place.get]
          · cases h
        obtain ⟨r', rfl, hrec, hrun⟩ := hgo
        refine ⟨r', ?_, hrec⟩
        simp only [method, Sem.run_bind, run_info ok hi, Result.andThen_ok, hfind, hp, follow, Sem.run_pure, hf, hrun]
      · rename_i st f2 ptr hp hf
        have hfind : i.methods.find? (·.name == name) = some m := by
          rw [← Array.find?_toList]; exact hm
        cases hdr : st.deref with
        | true => simp [hdr] at h
        | false =>
          simp only [hdr, cond_false] at h
          split at h
          · rename_i fs cs hfs
            split at h
            · rename_i fd hfd
              split at h
              · rename_i u e hpart hu
                obtain ⟨hptr, h⟩ := bif_some h
                simp only [Option.some.injEq, Prod.mk.injEq] at h
                obtain ⟨rfl, rfl⟩ := h
                subst hptr
                obtain ⟨fa, hua, rfl⟩ := fields_eq hfs
                simp only [AVal.rel] at hv
                obtain ⟨x, rfl, hv⟩ := hv
                obtain ⟨u', hp2, hr2⟩ := part_sound ok (w := w) hv hpart
                refine ⟨u', ?_, hr2⟩
                have hfa : fa[st.index]? = some fd := by simpa using hfd
                have hemp : m.path.isEmpty = false := by
                  cases hq : m.path with
                  | mk l => rw [hq] at hp; simp at hp; subst hp; rfl
                simp only [method, Sem.run_bind, run_info ok hi, Result.andThen_ok, hfind, hp, follow, run_under ok hua, hfa, hdr, Bool.false_eq_true, if_false, hp2, Sem.run_pure, hf, receiverAt, run_under ok hu, Place.get]
              · cases h
            · cases h
          · cases h
      · cases h
    · cases h
  · cases h

theorem target_sound {g : Nat → Option AObj} {F : Fr} {a : Act} {w : World} {c : Call} {f : Nat} {args : List AVal} (hnb : ∀ b, c.callee ≠ .builtin b) (hl : LookRel ρ g w) (he : HE E ρ F a (.call c)) (h : target E g F c = some (f, args)) (ty : TypeId) :
    ∃ args' : Array Value, relL ρ args args'.toList ∧ (do let d ← resolve a.eval c ty; invoke d.target d.args : Sem Next).run P w = (callFunc f args').run P w := by
  obtain ⟨callee, cargs, ts⟩ := c
  unfold target at h
  split at h
  · rename_i vs hvs
    have hargs : relL ρ vs (cargs.map a.eval).toList := by
      have := relL_evs (ρ := ρ) (a := a) cargs.toList vs (fun x hx v hv => he x v (by
        cases callee <;> simp [Op.operands, Call.operands] <;> simp at hx <;> simp [hx]) hv) hvs
      simpa using this
    split at h
    · rename_i x hcal
      simp only at hcal
      subst hcal
      split at h
      · rename_i f2 first cap hx
        simp only [Option.some.injEq, Prod.mk.injEq] at h
        obtain ⟨rfl, rfl⟩ := h
        have hr := he x _ (by simp [Op.operands, Call.operands]) hx
        simp only [AVal.rel] at hr
        obtain ⟨x1, x2, hv, h1, h2⟩ := hr
        refine ⟨x1 ++ cargs.map a.eval ++ x2, ?_, ?_⟩
        · simp only [Array.toList_append]
          exact relL_append (relL_append h1 hargs) h2
        · simp only [resolve, hv, Deferred.ofValue, Sem.run_bind, Sem.run_pure, Result.andThen_ok, invoke]
      · cases h
    · rename_i r m hcal
      simp only at hcal
      subst hcal
      split at h
      · rename_i t v hx
        split at h
        · rename_i f2 recv hm
          simp only [Option.some.injEq, Prod.mk.injEq] at h
          obtain ⟨rfl, rfl⟩ := h
          have hr := he r _ (by simp [Op.operands, Call.operands]) hx
          simp only [AVal.rel] at hr
          obtain ⟨y, hv, h1⟩ := hr
          obtain ⟨r', h2, h3⟩ := method_sound ok (w := w) hl h1 hm (P.types.size + 99)
          refine ⟨#[r'] ++ cargs.map a.eval, ?_, ?_⟩
          · simp only [Array.toList_append]
            exact relL_append (xs := [recv]) (relL_cons.2 ⟨h3, relL_nil⟩) hargs
          · have hfuel : P.types.size + Made.depth = P.types.size + 99 + 1 := rfl
            have hex : (#[Value.iface t y] ++ cargs.map a.eval).extract 1 (#[Value.iface t y] ++ cargs.map a.eval).size = cargs.map a.eval := by
              apply Array.ext'
              simp [Array.toList_extract, List.extract_eq_take_drop]
              rw [List.take_of_length_le (by simp)]
            have h0 : (#[Value.iface t y] ++ cargs.map a.eval)[0]? = some (.iface t y) := by rw [Array.getElem?_append_left (by simp)]; rfl
            simp only [resolve, Sem.run_bind, Sem.run_pure, Result.andThen_ok, invoke, hv, h0, callMethod, hex, run_program, hfuel, h2]
        · cases h
      · cases h
    · cases h
  · cases h

theorem callFunc_enter {w : World} {f : Nat} {fn : Func} (h : E.fn f = some fn) (args' : Array Value) : (callFunc f args').run P w = .ok (.enter f args') w := by
  obtain ⟨h1, h2, h3⟩ := ok.fn f fn h
  have hn : fn.body.isNone = false := by cases hb : fn.body <;> simp [hb] at h2 ⊢
  simp only [callFunc, Sem.run_bind, run_program, Result.andThen_ok, h1, h3, hn, Bool.false_eq_true, if_false, Sem.run_pure]

theorem convSlice_sound {M : Mem} {w : World} (hr : Rel E ρ M w) {b e : Nat} {c : List AVal} {opn : Option Nat} {l : Loc} (hg : M.get b = some (.cells c e opn false)) (hρ : ρ b = some l) {s d : Nat} (hsc : sliceConv E s d = true) {off n k : Nat} :
    ∃ w', (convert s d (.slice (some ⟨l.c, l.sh + off, none⟩) n k)).run P w = .ok (.slice (some ⟨l.c, l.sh + off, none⟩) n k) w' ∧ Trans E ρ M w ρ (M.put b (.cells c e opn false)) w' := by
  unfold sliceConv at hsc
  split at hsc
  · rename_i e1 e2 hs hd
    simp only [Bool.and_eq_true] at hsc
    obtain ⟨hsd, he⟩ := hsc
    have hsd := of_beq hsd
    subst hsd
    have hee : E.under e2 = some (.int .u8) := by
      split at he
      · assumption
      · cases he
    have he12 := hs.symm.trans hd
    simp only [Option.some.injEq, TypeDesc.slice.injEq] at he12
    subst he12
    obtain ⟨l2, ob, h1, h2, h3⟩ := hr.heap b _ hg
    rw [hρ] at h1
    injection h1 with h1
    subst h1
    obtain ⟨c', fr, rfl, q2, q3, q4, q5⟩ := h3
    refine ⟨{ w with heap := w.heap.setIfInBounds l.c (.cells c' e (if fr.1 == fr.2 then (c'.size, c'.size + 1) else (min fr.1 c'.size, max fr.2 (c'.size + 1)))) }, ?_, Trans.of_put hr hg rfl hρ ?_⟩
    · have hsh : (shape l.c).run P w = .ok (some (e, c'.size)) w := by simp [shape, Sem.run, World.shape?, h2]
      simp only [convert, Sem.run_bind, run_under ok hs, Result.andThen_ok, beq_self_eq_true, run_under ok hee, markStringish, hsh]
      have hfz : w.freeze { block := l.c, off := c'.size } 1 = { w with heap := w.heap.setIfInBounds l.c (.cells c' e (if fr.1 == fr.2 then (c'.size, c'.size + 1) else (min fr.1 c'.size, max fr.2 (c'.size + 1)))) } := by
        have hlt : l.c < w.heap.size := (Array.getElem?_eq_some_iff.1 h2).1
        have hget : w.heap[l.c] = .cells c' e fr := (Array.getElem?_eq_some_iff.1 h2).2
        unfold World.freeze
        simp only [Nat.one_ne_zero, if_false]
        congr 1
        apply Array.ext
        · simp
        · intro i h1 h2
          simp only [Array.getElem_modify]
          by_cases hi : l.c = i
          · subst hi; simp [hget]
          · have hi2 : i < w.heap.size := by simpa using h1
            simp [Array.getElem_setIfInBounds_ne hi2 hi, hi]
      simp only [run_freeze, hfz, Result.andThen_ok, Sem.run_pure]
    · refine ⟨c', _, rfl, q2, q3, (fun _ => ?_), q5⟩
      rcases q4 rfl with q4 | q4
      · rw [if_pos (by simp [q4])]
        exact .inr (Nat.le_refl _)
      · by_cases hq : fr.1 == fr.2
        · rw [if_pos hq]; exact .inr (Nat.le_refl _)
        · rw [if_neg hq]
          exact .inr (by simp only; omega)
  · cases hsc

theorem eff_sound {F : Fr} {a : Act} {M M' : Mem} {w : World} {o : Oper} {v : AVal} (hr : Rel E ρ M w) (he : HE E ρ F a o.op) (h : eff E F M o.op = some (v, M')) (hf : Free ρ M M') :
    ∃ r ρ' v' w', (execOp a.eval o).run P w = .ok r w' ∧ (r = .value v' ∨ (r = .skip ∧ v' = Go.undef)) ∧ v.rel ρ' v' ∧ Trans E ρ M w ρ' M' w' := by
  obtain ⟨dst, op, type, pos, after, guard⟩ := o
  simp only at he h
  have unit (s : Sem Unit) (hv : v = .undef) (H : ∃ w', s.run P w = .ok () w' ∧ Trans E ρ M w ρ M' w') :
      ∃ r ρ' v' w', (do s; pure Next.skip : Sem Next).run P w = .ok r w' ∧ (r = .value v' ∨ (r = .skip ∧ v' = Go.undef)) ∧ v.rel ρ' v' ∧ Trans E ρ M w ρ' M' w' := by
    obtain ⟨w', h1, h2⟩ := H
    refine ⟨.skip, ρ, Go.undef, w', ?_, .inr ⟨rfl, rfl⟩, hv ▸ undef_rel, h2⟩
    simp only [Sem.run_bind, h1, Result.andThen_ok, Sem.run_pure]
  have val (s : Sem Value) (H : ∃ ρ' v' w', s.run P w = .ok v' w' ∧ v.rel ρ' v' ∧ Trans E ρ M w ρ' M' w') :
      ∃ r ρ' v' w', (do pure (Next.value (← s)) : Sem Next).run P w = .ok r w' ∧ (r = .value v' ∨ (r = .skip ∧ v' = Go.undef)) ∧ v.rel ρ' v' ∧ Trans E ρ M w ρ' M' w' := by
    obtain ⟨ρ', v', w', h1, h2, h3⟩ := H
    exact ⟨.value v', ρ', v', w', by simp only [Sem.run_bind, h1, Result.andThen_ok, Sem.run_pure], .inl rfl, h2, h3⟩
  have hput {t : Nat} {m k x : Operand} (hm : m ∈ op.operands) (hk : k ∈ op.operands) (hx : x ∈ op.operands) (h : mapPutOp E F M t m k x = some (v, M')) : v = .undef ∧ ∃ w', (Instr.mapUpdate t (a.eval m) (a.eval k) (a.eval x)).run P w = .ok () w' ∧ Trans E ρ M w ρ M' w' := by
    unfold mapPutOp at h
    split at h
    · rename_i u1 u2 u3 h1 h2 h3
      simp only [Option.map_eq_some_iff, Prod.mk.injEq] at h
      obtain ⟨M₁, hp, rfl, rfl⟩ := h
      exact ⟨rfl, mapPut_sound ok hr (he m _ (Array.mem_toList_iff.2 hm) h1) (he k _ (Array.mem_toList_iff.2 hk) h2) (he x _ (Array.mem_toList_iff.2 hx) h3) hp⟩
    · cases h
  cases op <;> simp only [eff] at h <;> try (cases h; done)
  case store t p x =>
    unfold storeOp at h
    split at h
    · rename_i u1 u2 h1 h2
      split at h
      · rename_i M₁ hs
        simp only [Option.some.injEq, Prod.mk.injEq] at h
        obtain ⟨rfl, rfl⟩ := h
        refine unit _ rfl ?_
        unfold storeV at hs
        split at hs
        · rename_i b off n hsz
          obtain ⟨hb, hs⟩ := bif_some hs
          have r1 := he p _ (by simp [Op.operands]) h1
          have r2 := he x _ (by simp [Op.operands]) h2
          simp only [AVal.rel] at r1
          obtain ⟨l, hρ, hv⟩ := r1
          have hc := rel_cells r2
          have hlen := relL_length hc
          obtain ⟨w', h3, h4⟩ := putCells_sound (P := P) hr hs hρ hc
          refine ⟨w', ?_, h4⟩
          have hne : ¬ ((a.eval x).cells.size ≠ n) := by
            have := of_beq hb
            simp at hlen ⊢; omega
          simp only [Instr.storeAt, hv, Instr.sureAddr, storeVar, Sem.run_bind, Sem.run_pure, Result.andThen_ok, run_size ok hsz, if_neg hne, h3]
        · cases hs
      · cases h
    · cases h
  case mapUpdate t m k x =>
    obtain ⟨h1, h2⟩ := hput (by simp [Op.operands]) (by simp [Op.operands]) (by simp [Op.operands]) h
    exact unit _ h1 h2
  case insert t m k x =>
    obtain ⟨h1, h2⟩ := hput (by simp [Op.operands]) (by simp [Op.operands]) (by simp [Op.operands]) h
    exact unit _ h1 h2
  case mapEntry t m k =>
    unfold mapEntryOp at h
    split at h
    · rename_i u1 u2 h1 h2
      obtain ⟨v', w', h3, h4, h5⟩ := mapEntry_sound ok hr (he m _ (by simp [Op.operands]) h1) (he k _ (by simp [Op.operands]) h2) h
      exact val _ ⟨ρ, v', w', h3, h4, h5⟩
    · cases h
  case entryStore t m s x =>
    unfold entryStoreOp at h
    split at h
    · rename_i u1 u2 u3 h1 h2 h3
      simp only [Option.map_eq_some_iff, Prod.mk.injEq] at h
      obtain ⟨M₁, h, rfl, rfl⟩ := h
      exact unit _ rfl (entryStore_sound hr (he m _ (by simp [Op.operands]) h1) (he s _ (by simp [Op.operands]) h2) (he x _ (by simp [Op.operands]) h3) h)
    · cases h
  case convert sx dx x =>
    obtain ⟨hsc, h⟩ := bif_some h
    unfold convSliceOp at h
    split at h
    · rename_i b off n k o hx
      split at h
      · rename_i c e opn hg
        simp only [Option.some.injEq, Prod.mk.injEq] at h
        obtain ⟨rfl, rfl⟩ := h
        have hrx := he x _ (by simp [Op.operands]) hx
        simp only [AVal.rel] at hrx
        obtain ⟨l, hρ, hv⟩ := hrx
        obtain ⟨w', h3, h4⟩ := convSlice_sound ok hr hg hρ hsc (off := off) (n := n) (k := k + bif o then l.xe else 0)
        refine val _ ⟨ρ, a.eval x, w', by rw [hv]; exact h3, ?_, h4⟩
        simp only [AVal.rel]
        exact ⟨l, hρ, hv⟩
      · cases h
    · cases h
  case next x b =>
    obtain ⟨v', w', h3, h4, h5⟩ := next_sound (P := P) (t := type) hr (fun u hu => he x u (by simp [Op.operands]) hu) h
    exact val _ ⟨ρ, v', w', h3, h4, h5⟩
  case call c =>
    obtain ⟨callee, args, ts⟩ := c
    cases callee with
    | value f => simp at h
    | invoke r m => simp at h
    | builtin b =>
      have hargs : ∀ x ∈ args.toList, ∀ v, ev E F x = some v → v.rel ρ (a.eval x) := fun x hx v hv => he x v (by simp [Op.operands, Call.operands]; simpa using hx) hv
      cases b <;> simp only at h <;> try (cases h; done)
      case append =>
        unfold appendOp at h
        split at h
        · rename_i l hl
          have hrl := relL_evs (ρ := ρ) (a := a) args.toList _ hargs hl
          obtain ⟨ρ', v', w', h1, h2, h3⟩ := append_sound (ty := type) (args' := args.map a.eval) ok hr hf (by simpa using hrl) h
          exact val _ ⟨ρ', v', w', h1, h2, h3⟩
        · cases h
      case copy =>
        unfold copyOp at h
        split at h
        · rename_i l hl
          have hrl := relL_evs (ρ := ρ) (a := a) args.toList _ hargs hl
          obtain ⟨v', w', h1, h2, h3⟩ := copy_sound (ty := type) (args' := args.map a.eval) ok hr (by simpa using hrl) h
          exact val _ ⟨ρ, v', w', h1, h2, h3⟩
        · cases h

theorem sound_of {call : CallF} (hc : CallOk E P call) : Sound E P call where
  mixed := ok.mixed
  rd := fun hg he hl h => rd_sound ok he hl h
  fresh := fun w hg he h => fresh_sound ok w he h
  eff := fun hr he h hf => eff_sound ok hr he h hf
  calls := by
    intro ρ F a M w o c v M' ho hnb hr he h hf K Q hK
    rw [ho] at he
    unfold callOp at h
    split at h
    · rename_i f args ht
      obtain ⟨args', h1, h2⟩ := target_sound ok (w := w) hnb (LookRel.of_rel hr) he ht o.type
      have hex : (execOp a.eval o).run P w = (callFunc f args').run P w := by
        unfold execOp
        rw [ho]
        exact h2
      unfold Oper.wp
      rw [hex]
      split at h
      · rename_i fn hfn
        rw [callFunc_enter ok hfn]
        rw [Oper.upon_enter]
        refine Calls.mono ((hc f args M v M' h).2 ρ w args' hr h1 hf) ?_
        rintro e w' ⟨v', ρ', rfl, h3, h4⟩
        exact hK ρ' v' w' h3 h4
      · split at h
        · rename_i x hx
          unfold retV at h
          split at h
          · rename_i u hu
            simp only [Option.some.injEq, Prod.mk.injEq] at h
            obtain ⟨rfl, rfl⟩ := h
            obtain ⟨v', h3, h4⟩ := ok.ext f x hx ρ args args' w u h1 hu
            rw [h3]
            exact hK ρ v' w h4 (Trans.refl hr)
          · cases h
        · split at h
          · rename_i r hrf
            obtain ⟨v', ρ', w', h3, h4, h5⟩ := ref_sound ok (ok.rok f r hrf) hr hf h1 h
            rw [ok.ref f r hrf _ _ _ _ h3]
            exact hK ρ' v' w' h4 h5
          · cases h
    · cases h
  quiet := by
    intro ρ F a w o c ho he hq
    unfold quietOp at hq
    split at hq
    · rename_i x hcal
      split at hq
      · rename_i g first cap hx
        simp only [Bool.and_eq_true] at hq
        have hr := he x _ (by rw [ho]; simp [Op.operands, Call.operands, hcal]) hx
        simp only [AVal.rel] at hr
        obtain ⟨x1, x2, hv, _, _⟩ := hr
        obtain ⟨fn, hfn⟩ := Option.isSome_iff_exists.1 hq.1
        refine ⟨{ target := .fn (.func g) x2, args := x1 ++ c.args.map a.eval }, ?_, .func g, x2, g, x1 ++ c.args.map a.eval ++ x2, rfl, fun w => ?_, fun w => ok.quiet g hq.2 _ w⟩
        · unfold execOp
          rw [ho]
          simp only [resolve, hcal, hv, Deferred.ofValue, Sem.run_bind, Sem.run_pure, Result.andThen_ok]
        · simp only [invoke]
          exact callFunc_enter ok hfn _
      · cases hq
    · cases hq
  grow := fun h => doOp_grow hc h

end
end Go.Ev
