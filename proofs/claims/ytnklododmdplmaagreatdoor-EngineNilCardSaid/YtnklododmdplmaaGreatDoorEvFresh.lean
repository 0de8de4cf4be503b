/- A part of the proof that an evaluator of the machine's code is sound (EvFresh). No conditions. -/
import Derived.Test.YtnklododmdplmaaGreatDoorEvRd6
namespace Go.Ev

/-! rows of one value again and again -/

theorem replF_length (n : Nat) (zs : List AVal) : (replF n zs).length = n * zs.length := by
  unfold replF
  induction n with
  | zero => simp
  | succ n ih => rw [List.replicate_succ, List.flatten_cons, List.length_append, ih, Nat.succ_mul]; omega

theorem replF_get (zs : List AVal) : ∀ (n i : Nat) (x : AVal), (replF n zs)[i]? = some x → zs[i % zs.length]? = some x
  | 0, i, x, h => by simp [replF] at h
  | n + 1, i, x, h => by
    have : replF (n + 1) zs = zs ++ replF n zs := by simp [replF, List.replicate_succ]
    rw [this] at h
    by_cases hi : i < zs.length
    · rw [List.getElem?_append_left hi] at h
      rwa [Nat.mod_eq_of_lt hi]
    · rw [List.getElem?_append_right (by omega)] at h
      have := replF_get zs n (i - zs.length) x h
      rwa [show i % zs.length = (i - zs.length) % zs.length from Nat.mod_eq_sub_mod (by omega)]

theorem relL_repl {ρ : Emb} {zs : List AVal} {z : Array Value} (h : relL ρ zs z.toList) (n : Nat) : relL ρ (replF n zs) ((Array.range (n * zs.length)).map (fun i => z[i % z.size]!)).toList := by
  refine relL_of_get (by rw [replF_length]; simp) fun i x hx => ?_
  have hi : i < n * zs.length := by rw [← replF_length]; exact (List.getElem?_eq_some_iff.1 hx).1
  have h1 := replF_get zs n i x hx
  obtain ⟨v, hv, hr⟩ := relL_get h _ x h1
  have hz : z.size = zs.length := by have := relL_length h; simpa using this.symm
  refine ⟨v, ?_, hr⟩
  have hv' : z[i % z.size]? = some v := by rw [hz]; simpa using hv
  simp only [Array.toList_map, List.getElem?_map, Array.toList_range, List.getElem?_range hi, Option.map_some]
  congr 1
  rw [getElem!_def, hv']

/-- a block that is laid -/
theorem AObj.rel_cells {ρ : Emb} {c xe : Nat} {cs : List AVal} {cs' : Array Value} {e : Nat} (h : relL ρ cs cs'.toList) : (AObj.cells cs e none false).rel ρ ⟨c, 0, xe, dv⟩ (.cells cs' e (0, 0)) := by
  have hl := relL_length h
  refine ⟨cs', (0, 0), rfl, by simp at hl ⊢; omega, fun i x hx => ?_, (fun _ => .inl rfl), (fun s hs => by cases hs), fun _ => rfl⟩
  obtain ⟨v, hv, hr⟩ := relL_get h i x hx
  exact ⟨v, by simpa using hv, hr⟩

theorem range0 (f : Nat → Value) : (Array.range 0).map f = #[] := by simp

section
variable {E : Env} {P : Program} (ok : EnvOk E P) {ρ : Emb}
include ok

omit ok in
theorem run_newRow (w : World) (e : Nat) (cs : Array Value) : (newRow e cs).run P w = .ok ⟨w.heap.size, 0, none⟩ { w with heap := w.heap.push (.cells cs e) } := by
  simp [newRow]

theorem fresh_sound {F : Fr} {a : Act} {o : Oper} {ob : AObj} {mk : Nat → AVal} (w : World) (he : HE E ρ F a o.op) (h : fresh E F o.op = some (ob, mk)) :
    ∃ v' w' obj xe, (execOp a.eval o).run P w = .ok (.value v') w' ∧ w'.heap = w.heap.push obj ∧ w'.tape = w.tape ∧ w'.os = w.os ∧ w'.output = w.output ∧ ob.wr = true ∧
      ∀ (ρ' : Emb) (b : Nat), ρ.le ρ' → ρ' b = some ⟨w.heap.size, 0, xe, dv⟩ → (mk b).rel ρ' v' ∧ ob.rel ρ' ⟨w.heap.size, 0, xe, dv⟩ obj := by
  obtain ⟨dst, op, type, pos, after, guard⟩ := o
  simp only at he h
  have ptrRel (ρ' : Emb) (b c xe : Nat) (hb : ρ' b = some ⟨c, 0, xe, dv⟩) : (AVal.ptr (some (b, 0))).rel ρ' (.pointer (some ⟨c, 0, none⟩)) := by
    simp only [AVal.rel]; exact ⟨_, hb, rfl⟩
  have sliceRel (ρ' : Emb) (b c xe n m : Nat) (hb : ρ' b = some ⟨c, 0, xe, dv⟩) : (AVal.slice (some (b, 0)) n m false).rel ρ' (.slice (some ⟨c, 0, none⟩) n m) := by
    simp only [AVal.rel]; exact ⟨_, hb, rfl⟩
  cases op <;> simp only [fresh] at h <;> try (cases h; done)
  case alloc t =>
    unfold allocF at h
    split at h
    · rename_i z hz
      simp only [Option.some.injEq, Prod.mk.injEq] at h
      obtain ⟨rfl, rfl⟩ := h
      obtain ⟨z', h1, h2⟩ := run_zero ok (w := w) hz
      refine ⟨.pointer (some ⟨w.heap.size, 0, none⟩), { w with heap := w.heap.push (.cells z'.cells t) }, .cells z'.cells t, 0, ?_, rfl, rfl, rfl, rfl, rfl, fun ρ' b _ hb => ⟨ptrRel ρ' b _ _ hb, AObj.rel_cells (rel_cells (h2 ρ'))⟩⟩
      simp [execOp, Instr.alloc, h1, newVar, newRow]
    · cases h
  case box t x =>
    unfold boxF at h
    split at h
    · rename_i u hx
      simp only [Option.some.injEq, Prod.mk.injEq] at h
      obtain ⟨rfl, rfl⟩ := h
      have hr := he x u (by simp [Op.operands]) hx
      refine ⟨.pointer (some ⟨w.heap.size, 0, none⟩), { w with heap := w.heap.push (.cells (a.eval x).cells t) }, .cells (a.eval x).cells t, 0, ?_, rfl, rfl, rfl, rfl, rfl, fun ρ' b hle hb => ⟨ptrRel ρ' b _ _ hb, AObj.rel_cells (rel_cells (AVal.rel_mono hle _ _ hr))⟩⟩
      simp [execOp, Instr.box, newVar, newRow]
    · cases h
  case buildSlice t len ps =>
    unfold buildSliceF at h
    split at h
    · rename_i parts e h1 hu
      split at h
      · rename_i s z hs hz
        cases hb : (Nat.ble (len * s) 65536 && Nat.beq z.cells.length s) with
        | false => simp [hb] at h
        | true =>
          simp only [hb, cond_true] at h
          simp only [Bool.and_eq_true] at hb
          have hle := of_ble hb.1
          have hzl := of_beq hb.2
          split at h
          · rename_i cs hf
            simp only [Option.some.injEq, Prod.mk.injEq] at h
            obtain ⟨rfl, rfl⟩ := h
            obtain ⟨z', hz1, hz2⟩ := run_zero ok (w := w) hz
            have hp := evParts_rel (ρ := ρ) (a := a) ps.toList parts (fun p hp v hv => he p.2 v (by simp only [Op.operands]; simp; exact ⟨p.1, by simpa using hp⟩) hv) h1
            have hzr := rel_cells (hz2 ρ)
            have hbase := relL_repl hzr len
            rw [hzl] at hbase
            obtain ⟨cs2, hf', hr⟩ := fill_sound parts (ps.map fun (i, x) => (i, a.eval x)).toList _ cs _ (by simpa using hp) hbase hf
            have hsz : z'.cells.size = s := by have := relL_length hzr; simp at this; omega
            refine ⟨.slice (some ⟨w.heap.size, 0, none⟩) len len, { w with heap := w.heap.push (.cells cs2 e) }, .cells cs2 e, 0, ?_, rfl, rfl, rfl, rfl, rfl, fun ρ' b hle hb => ⟨sliceRel ρ' b _ _ _ _ hb, AObj.rel_cells (relL_mono hle _ _ hr)⟩⟩
            simp only [execOp, Instr.buildSlice, Sem.run_bind, run_under ok hu, Result.andThen_ok, run_size ok hs]
            rw [if_neg (by omega)]
            have hzero : (if len * s = 0 then (pure #[] : Sem (Array Value)) else do pure (← zeroValue e).cells).run P w = .ok (if len * s = 0 then #[] else z'.cells) w := by
              split
              · rfl
              · simp [hz1]
            have hcells : ((Array.range (len * s)).map (fun i => (if len * s = 0 then (#[] : Array Value) else z'.cells)[i % (if len * s = 0 then (#[] : Array Value) else z'.cells).size]!)) = (Array.range (len * s)).map (fun i => z'.cells[i % z'.cells.size]!) := by
              by_cases hl0 : len * s = 0
              · simp [hl0]
              · simp [hl0]
            simp only [Sem.run_pure]
            by_cases hl0 : len * s = 0
            · simp only [hl0, if_true, Sem.run_pure, Sem.run_bind, Result.andThen_ok]
              have hf2 : Instr.fill (fun i => some (i * s, s)) ((Array.range 0).map fun i => (#[] : Array Value)[i % (#[] : Array Value).size]!) (ps.map fun (i, x) => (i, a.eval x)).toList = some cs2 := by
                have := hf'
                rw [hl0, range0] at this
                rw [range0]
                exact this
              rw [hf2]
              simp [newRow]
            · simp only [hl0, if_false, Sem.run_bind, hz1, Result.andThen_ok, Sem.run_pure]
              rw [hf']
              simp [newRow]
          · cases h
      · cases h
    · cases h
  case makeSlice t l c =>
    unfold makeSliceF at h
    split at h
    · rename_i e len cap hu h1 h2
      split at h
      · rename_i i z hi hz
        split at h
        · rename_i hc
          simp only [Option.some.injEq, Prod.mk.injEq] at h
          obtain ⟨rfl, rfl⟩ := h
          obtain ⟨c0, c1, c2, c3, c4⟩ := hc
          obtain ⟨z', hz1, hz2⟩ := run_zero ok (w := w) hz
          have r1 := he l _ (by simp [Op.operands]) h1
          have r2 := he c _ (by simp [Op.operands]) h2
          rw [rel_int] at r1 r2
          have wl : IntKind.i64.wrap len = len := by unfold IntKind.wrap; simp [IntKind.bits, IntKind.signed]; omega
          have wc : IntKind.i64.wrap cap = cap := by unfold IntKind.wrap; simp [IntKind.bits, IntKind.signed]; omega
          have hbound : (i.bytes : Int) * cap ≤ 100000 * 1000000 := by
            calc (i.bytes : Int) * cap ≤ 100000 * cap := Int.mul_le_mul_of_nonneg_right (by omega) (by omega)
              _ ≤ 100000 * 1000000 := Int.mul_le_mul_of_nonneg_left c2 (by omega)
          have hzr := rel_cells (hz2 ρ)
          have hsz : z'.cells.size = i.size := by have := relL_length hzr; simp at this; omega
          have hsize : E.size e = some i.size := by simp [Env.size, hi]
          refine ⟨.slice (some ⟨w.heap.size, 0, none⟩) len.toNat cap.toNat, { w with heap := w.heap.push (.cells ((Array.range (cap.toNat * i.size)).map (fun j => z'.cells[j % z'.cells.size]!)) e) }, _, 0, ?_, rfl, rfl, rfl, rfl, rfl, fun ρ' b hle hb => ⟨sliceRel ρ' b _ _ _ _ hb, ?_⟩⟩
          · simp only [execOp, r1, r2, Instr.makeSlice, Sem.run_bind, run_under ok hu, Result.andThen_ok, asInt, asIntOf, Sem.run_pure, run_info ok hi, wl, wc]
            have ht1 : ¬ ((decide (cap < 0) || decide ((i.bytes : Int) * cap > 2 ^ 48)) || decide (len < 0) || decide (len > cap)) = true := by
              simp; omega
            rw [if_neg ht1]
            simp only [Sem.run_bind, Result.andThen_ok, run_askRoom, run_size ok hsize]
            by_cases hl0 : cap.toNat * i.size = 0
            · simp only [hl0, if_true, Sem.run_pure, Result.andThen_ok, range0, newRow, Sem.run_bind, run_newObj]
            · simp only [hl0, if_false, Sem.run_bind, hz1, Sem.run_pure, Result.andThen_ok, newRow, run_newObj]
          · have := relL_repl (rel_cells (hz2 ρ')) cap.toNat
            rw [c4] at this
            exact AObj.rel_cells this
        · cases h
      · cases h
    · cases h
  case makeMap t r =>
    unfold makeMapF at h
    split at h
    · simp only [Option.some.injEq, Prod.mk.injEq] at h
      obtain ⟨rfl, rfl⟩ := h
      refine ⟨.map (some w.heap.size), { w with heap := w.heap.push (.map #[] 0) }, .map #[] 0, 0, ?_, rfl, rfl, rfl, rfl, rfl, fun ρ' b hle hb => ⟨by simp only [AVal.rel]; exact ⟨_, hb, rfl⟩, #[], rfl, by simp [relEs]⟩⟩
      simp [execOp, Instr.makeMap]
    · cases h
  case range t x =>
    unfold rangeF at h
    split at h
    · rename_i s hu h1
      simp only [Option.some.injEq, Prod.mk.injEq] at h
      obtain ⟨rfl, rfl⟩ := h
      have r1 := he x _ (by simp [Op.operands]) h1
      rw [rel_str] at r1
      obtain ⟨b0, hv, rfl⟩ := r1
      refine ⟨.pointer (some ⟨w.heap.size, 0, none⟩), { w with heap := w.heap.push (.stringIter b0 0) }, .stringIter b0 0, 0, ?_, rfl, rfl, rfl, rfl, rfl, fun ρ' b hle hb => ⟨ptrRel ρ' b _ _ hb, rfl, b0, rfl, rfl⟩⟩
      simp [execOp, Instr.range, run_under ok hu, hv]
    · cases h
  case convert s d x =>
    unfold bytesF at h
    split at h
    · rename_i e l hs hd h1
      split at h
      · rename_i hu8
        simp only [Option.some.injEq, Prod.mk.injEq] at h
        obtain ⟨rfl, rfl⟩ := h
        have r1 := he x _ (by simp [Op.operands]) h1
        rw [rel_str] at r1
        obtain ⟨b0, hv, rfl⟩ := r1
        have hcap : ∃ cap, b0.size ≤ cap ∧ (choose (.appendCap b0.size 0 e)).run P w = .ok cap { w with drawn := w.drawn + 1 } := by
          exact ⟨b0.size + w.tape w.drawn (.appendCap b0.size 0 e) % (2 ^ 63 - b0.size), Nat.le_add_right _ _, rfl⟩
        obtain ⟨cap, hcap1, hcap2⟩ := hcap
        have hlen : (bytesNat b0).length = b0.size := bytesNat_length b0
        refine ⟨.slice (some ⟨w.heap.size, 0, none⟩) b0.size cap, { w with drawn := w.drawn + 1, heap := w.heap.push (.cells (Array.map (fun (c : UInt8) => Value.int .u8 (c.toNat : Int)) b0.data ++ Array.replicate (cap - b0.size) (Value.int .u8 0)) e (cap, cap + 1)) },
          .cells (Array.map (fun (c : UInt8) => Value.int .u8 (c.toNat : Int)) b0.data ++ Array.replicate (cap - b0.size) (Value.int .u8 0)) e (cap, cap + 1), cap - b0.size, ?_, rfl, rfl, rfl, rfl, rfl, fun ρ' b hle hb => ⟨?_, ?_⟩⟩
        · have hsz : (Array.map (fun (c : UInt8) => Value.int .u8 (c.toNat : Int)) b0.data ++ Array.replicate (cap - b0.size) (Value.int .u8 0)).size = cap := by
            have : b0.data.size = b0.size := rfl
            simp; omega
          have hshape (w' : World) (c : Array Value) : ({ w' with heap := w'.heap.push (.cells c e) } : World).shape? w'.heap.size = some (e, c.size) := by
            simp [World.shape?]
          have hfr (w' : World) (c : Array Value) (n : Nat) : ({ w' with heap := w'.heap.push (.cells c e) } : World).freeze ⟨w'.heap.size, n, none⟩ 1 = { w' with heap := w'.heap.push (.cells c e (n, n + 1)) } := by
            simp only [World.freeze]
            simp only [Nat.succ_ne_zero, if_false]
            congr 1
            apply Array.ext
            · simp
            · intro i h1 h2
              rw [Array.getElem_modify]
              by_cases hi : w'.heap.size = i
              · subst hi; simp
              · have : i < w'.heap.size := by simp at h1; omega
                simp [hi, Array.getElem_push, this]
          simp only [execOp, convert, hv, Sem.run_bind, run_under ok hs, run_under ok hd, Result.andThen_ok, run_under ok hu8, Conv.stringToBytes, hcap2, newRow, run_newObj, Sem.run_pure, markStringish, run_shape, hshape, run_freeze, hfr, hsz]
        · simp only [AVal.rel]
          refine ⟨_, hb, ?_⟩
          rw [hlen]
          simp; omega
        · refine ⟨_, _, rfl, ?_, fun i x hx => ?_, (fun _ => .inr ?_), (fun s hs => ?_), fun hs => by cases hs⟩
          · simp [hlen]
          · simp only [List.getElem?_map, Option.map_eq_some_iff] at hx
            obtain ⟨n, hn, rfl⟩ := hx
            simp only [bytesNat, List.getElem?_map, Option.map_eq_some_iff] at hn
            obtain ⟨u, hu, rfl⟩ := hn
            refine ⟨.int .u8 u.toNat, ?_, by simp [AVal.rel]⟩
            have hlt := (List.getElem?_eq_some_iff.1 hu).1
            have hlt' : i < b0.data.size := hlt
            have hget : b0.data[i]? = some u := by simpa using hu
            rw [Nat.zero_add, Array.getElem?_append_left (by simpa using hlt')]
            simp [hget]
          · have : b0.data.size = b0.size := rfl
            simp; omega
          · injection hs with hs; subst hs
            have : b0.data.size = b0.size := rfl
            simp [hlen]
      · cases h
    · cases h

end
end Go.Ev
