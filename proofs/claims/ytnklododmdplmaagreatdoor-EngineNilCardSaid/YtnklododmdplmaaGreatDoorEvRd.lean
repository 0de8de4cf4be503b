/- A part of the proof that an evaluator of the machine's code is sound (EvRd). No conditions. -/
import Derived.Test.YtnklododmdplmaaGreatDoorEvOk
namespace Go.Ev

section
variable {E : Env} {P : Program} (ok : EnvOk E P) {w : World} {ρ : Emb}

theorem rel_int {k : IntKind} {n : Int} {v : Value} : (AVal.int k n).rel ρ v ↔ v = .int k n := by simp [AVal.rel]
theorem rel_bool' {b : Bool} {v : Value} : (AVal.bool b).rel ρ v ↔ v = .bool b := by simp [AVal.rel]
theorem rel_float {k : FloatKind} {n : Nat} {v : Value} : (AVal.float k n).rel ρ v ↔ v = .float k n := by simp [AVal.rel]
theorem rel_str {s : List Nat} {v : Value} : (AVal.str s).rel ρ v ↔ ∃ b : ByteArray, v = .string b ∧ bytesNat b = s := by simp [AVal.rel]

/-! bytes -/

theorem listEq_self : ∀ (a : List Nat), listEq a a = true
  | [] => rfl
  | x :: xs => by simp [listEq, listEq_self xs]

theorem listEq_iff {a b : List Nat} : listEq a b = (a == b) := by
  rw [Bool.eq_iff_iff]
  constructor
  · intro h; rw [listEq_eq h]; simp
  · intro h; rw [eq_of_beq h]; exact listEq_self b

theorem map_toNat_inj {a b : List UInt8} (h : a.map UInt8.toNat = b.map UInt8.toNat) : a = b :=
  List.map_inj_right (fun _ _ h => UInt8.toNat_inj.1 h) |>.1 h

theorem listEq_bytes (a b : ByteArray) : listEq (bytesNat a) (bytesNat b) = (a.data.toList == b.data.toList) := by
  rw [listEq_iff, Bool.eq_iff_iff]
  simp only [beq_iff_eq, bytesNat]
  exact ⟨map_toNat_inj, fun h => by rw [h]⟩

theorem bytesLess_map : ∀ (a b : List UInt8), bytesLess (a.map UInt8.toNat) (b.map UInt8.toNat) = Op.bytesLess a b
  | _, [] => by cases ‹List UInt8› <;> simp [bytesLess, Op.bytesLess]
  | [], _ :: _ => by simp [bytesLess, Op.bytesLess]
  | x :: xs, y :: ys => by
    simp only [List.map_cons, bytesLess, Op.bytesLess, bytesLess_map xs ys]
    have h1 : Nat.blt x.toNat y.toNat = decide (x < y) := by
      rw [Bool.eq_iff_iff]
      simp only [decide_eq_true_eq, UInt8.lt_iff_toNat_lt]
      exact ⟨of_blt, blt_of⟩
    have h2 : Nat.beq x.toNat y.toNat = (x == y) := by
      rw [Bool.eq_iff_iff]
      simp only [beq_iff_eq]
      exact ⟨fun h => UInt8.toNat_inj.1 (of_beq h), fun h => by rw [h]; simp⟩
    rw [h1, h2]

theorem ByteArray_toList (b : ByteArray) : b.toList = b.data.toList := by
  have loop : ∀ (n i : Nat) (r : List UInt8), b.size - i = n → ByteArray.toList.loop b i r = r.reverse ++ b.data.toList.drop i := by
    intro n
    induction n with
    | zero =>
      intro i r h
      unfold ByteArray.toList.loop
      rw [if_neg (by omega)]
      have : b.data.toList.length ≤ i := by
        have : b.size = b.data.toList.length := rfl
        omega
      simp [List.drop_eq_nil_of_le this]
    | succ n ih =>
      intro i r h
      unfold ByteArray.toList.loop
      rw [if_pos (by omega), ih (i + 1) _ (by omega)]
      have hlt : i < b.data.toList.length := by
        have : b.size = b.data.toList.length := rfl
        omega
      rw [List.drop_eq_getElem_cons hlt]
      have : b.get! i = b.data.toList[i] := by
        simp only [ByteArray.get!]
        have h2 : i < b.data.size := by simpa using hlt
        rw [getElem!_pos b.data i h2]; simp
      simp [this]
  have := loop b.size 0 [] (by simp)
  unfold ByteArray.toList
  simpa using this

theorem bytesNat_length (b : ByteArray) : (bytesNat b).length = b.size := List.length_map _
theorem bytesNat_append (a b : ByteArray) : bytesNat (a ++ b) = bytesNat a ++ bytesNat b := by simp [bytesNat]

/-! operators -/

theorem intBin_sound {op : BinOp} {k : IntKind} {a b : Int} {v : AVal} (h : intBin op k a b = some v) :
    ∃ v', (match op with
      | .add | .sub | .mul => Op.intArith op k a b
      | .quo | .rem => Op.intDiv op k a b
      | .and | .or | .xor | .andNot => Op.intBits op k a b
      | _ => Op.intCmp op a b).run P w = .ok v' w ∧ v.rel ρ v' := by
  cases op <;> simp only [intBin, Option.some.injEq] at h <;> first
    | (subst h; exact ⟨_, rfl, by simp [AVal.rel]⟩)
    | (split at h
       · cases h
       · rename_i hb
         injection h with h
         subst h
         simp only [Op.intDiv, if_neg hb]
         exact ⟨_, rfl, by simp [AVal.rel]⟩)
    | cases h

theorem shiftBin_sound {op : BinOp} {k yk : IntKind} {a b : Int} {v : AVal} (h : shiftBin op k a b = some v) : ∃ v', (Op.shift op k a yk b).run P w = .ok v' w ∧ v.rel ρ v' := by
  unfold shiftBin at h
  split at h
  · cases h
  · rename_i hb
    unfold Op.shift
    rw [if_neg hb]
    cases op <;> simp only [Option.some.injEq] at h <;> first
      | (subst h; exact ⟨_, rfl, by simp [AVal.rel]⟩)
      | cases h

theorem floatBin_sound {op : BinOp} {k : FloatKind} {a b : Nat} {v : AVal} (h : floatBin op k a b = some v) :
    ∃ v', (match op with
      | .add | .sub | .mul | .quo => Op.floatArith op k a b
      | _ => Op.floatCmp op k a b).run P w = .ok v' w ∧ v.rel ρ v' := by
  cases op <;> simp only [floatBin, Option.some.injEq, Option.map_eq_some_iff] at h <;> first
    | (obtain ⟨r, hr, rfl⟩ := h
       simp only [Op.floatArith, Sem.run_bind, Sem.run_pure, Result.andThen_ok, hr]
       exact ⟨_, rfl, by simp [AVal.rel]⟩)
    | (subst h; exact ⟨_, rfl, by simp [AVal.rel]⟩)
    | cases h

theorem strBin_sound {op : BinOp} {a b : ByteArray} {v : AVal} (h : strBin op (bytesNat a) (bytesNat b) = some v) : ∃ v', (Op.stringOp op a b).run P w = .ok v' w ∧ v.rel ρ v' := by
  have he := listEq_bytes a b
  have hl : bytesLess (bytesNat a) (bytesNat b) = Op.bytesLess a.data.toList b.data.toList := bytesLess_map _ _
  unfold Op.stringOp
  rw [ByteArray_toList, ByteArray_toList]
  cases op <;> simp only [strBin, he, hl, Option.some.injEq] at h
  case add =>
    cases hb : Nat.ble ((bytesNat a).length + (bytesNat b).length) 1000000000 with
    | false => simp [hb] at h
    | true =>
      simp only [hb, cond_true, Option.some.injEq] at h
      subst h
      have := of_ble hb
      rw [bytesNat_length, bytesNat_length] at this
      simp only
      rw [if_neg (by simp [IntKind.max, IntKind.signed, IntKind.bits]; omega)]
      refine ⟨_, rfl, ?_⟩
      simp only [AVal.rel]
      exact ⟨_, rfl, bytesNat_append a b⟩
  all_goals first
    | (subst h; exact ⟨_, rfl, by simp [AVal.rel]⟩)
    | cases h

end
end Go.Ev
