/- A part of the proof that an evaluator of the machine's code is sound (EvOut). No conditions. -/
import Derived.Test.YtnklododmdplmaaGreatDoorEvEnv
import GoSem.ClaimDataLaid
namespace Go.Ev

/-! 'laidOutB' by a tree of the types: the list itself, looked up row by row, outgrows the kernel's memory. -/

def underT (T : Trie TypeInfo) (t : Nat) : Option TypeDesc :=
  match T.get t with
  | some i => match i.desc with
    | .named _ u => (T.get u).map (·.desc)
    | d => some d
  | none => none

def varT (T : Trie TypeInfo) (t : Nat) : Bool :=
  match underT T t with
  | some d => kindOk (some d)
  | none => false

def cellsT (T : Trie TypeInfo) (t : Nat) : Nat := ((T.get t).map (·.size)).getD 0

def fieldsT (T : Trie TypeInfo) : List Field → Nat → Bool
  | [], _ => true
  | f :: fs, o => varT T f.type && Nat.beq f.offset o && fieldsT T fs (o + cellsT T f.type)

def sumT (T : Trie TypeInfo) : List Field → Nat → Nat
  | [], o => o
  | f :: fs, o => sumT T fs (o + cellsT T f.type)

def rowT (T : Trie TypeInfo) (t : Nat) : Bool :=
  match underT T t with
  | some d => match d with
    | .struct fs => fieldsT T fs.toList 0 && Nat.beq (cellsT T t) (sumT T fs.toList 0)
    | .array n e => varT T e && Nat.beq (cellsT T t) (n * cellsT T e)
    | .pointer e => varT T e && Nat.beq (cellsT T t) 1
    | .slice e => varT T e && Nat.beq (cellsT T t) 1
    | d => !kindOk (some d) || Nat.beq (cellsT T t) 1
  | none => false

def upTo (p : Nat → Bool) : Nat → Nat → Bool
  | _, 0 => true
  | lo, k + 1 => p lo && upTo p (lo + 1) k

theorem upTo_at {p : Nat → Bool} : ∀ {k lo : Nat}, upTo p lo k = true → ∀ i, lo ≤ i → i < lo + k → p i = true
  | 0, lo, _, i, h1, h2 => by omega
  | k + 1, lo, h, i, h1, h2 => by
    simp only [upTo, Bool.and_eq_true] at h
    by_cases hi : i = lo
    · subst hi; exact h.1
    · exact upTo_at h.2 i (by omega) (by omega)

section
variable {P : Program} {T : Trie TypeInfo} (hT : ∀ t i, T.get t = some i → P.types[t]? = some i)
include hT

theorem infoT {t : Nat} {i : TypeInfo} (h : T.get t = some i) : P.info? t = some i ∧ t < P.types.size := by
  have h1 := hT t i h
  have hlt := (Array.getElem?_eq_some_iff.1 h1).1
  refine ⟨?_, hlt⟩
  show P.toTables.info? t = some i
  unfold Tables.info?
  rw [if_pos hlt]
  exact h1

theorem underT_eq {t : Nat} {d : TypeDesc} (h : underT T t = some d) : P.underlying t = some d ∧ t < P.types.size ∧ P.cellsOf t = cellsT T t := by
  unfold underT at h
  cases hi : T.get t with
  | none => simp [hi] at h
  | some i =>
    simp only [hi] at h
    obtain ⟨h1, hlt⟩ := infoT hT hi
    refine ⟨?_, hlt, by unfold Program.cellsOf cellsT; rw [h1, hi]⟩
    unfold Program.underlying
    rw [h1]
    cases hd : i.desc with
    | named n u =>
      simp only [hd] at h
      obtain ⟨desc, _, _, _, _, _, _, _, _, _⟩ := i
      simp only at hd
      subst hd
      simp only
      cases hu : T.get u with
      | none => simp [hu] at h
      | some j => simp [hu] at h; rw [(infoT hT hu).1]; simp [h]
    | _ =>
      simp only [hd, Option.some.injEq] at h
      obtain ⟨desc, _, _, _, _, _, _, _, _, _⟩ := i
      simp only at hd
      subst hd
      simp [h]

theorem varT_eq {t : Nat} (h : varT T t = true) : isVar P t = true ∧ P.cellsOf t = cellsT T t := by
  unfold varT at h
  split at h
  · rename_i d hd
    obtain ⟨h1, h2, h3⟩ := underT_eq hT hd
    exact ⟨by unfold isVar; rw [h1]; simp [h2, h], h3⟩
  · cases h

theorem fieldsT_eq : ∀ {fs : List Field} {o : Nat}, fieldsT T fs o = true → fs.all (fun f => isVar P f.type) = true ∧ sumT T fs o = o + (fs.map fun f => P.cellsOf f.type).sum ∧
    ∀ (j : Nat) (f : Field), fs[j]? = some f → f.offset = o + ((fs.take j).map fun f => P.cellsOf f.type).sum
  | [], o, h => ⟨rfl, by simp [sumT], fun j f hj => by simp at hj⟩
  | f :: fs, o, h => by
    simp only [fieldsT, Bool.and_eq_true] at h
    obtain ⟨⟨h1, h2⟩, h3⟩ := h
    obtain ⟨a1, a2⟩ := varT_eq hT h1
    obtain ⟨b1, b2, b3⟩ := fieldsT_eq h3
    refine ⟨by simp [a1]; simpa using b1, by simp only [sumT, b2, List.map_cons, List.sum_cons, a2]; omega, fun j g hj => ?_⟩
    cases j with
    | zero => simp at hj; subst hj; simp [of_beq h2]
    | succ j =>
      have := b3 j g (by simpa using hj)
      simp only [List.take_succ_cons, List.map_cons, List.sum_cons, a2]
      omega

theorem rowT_eq {t : Nat} (h : rowT T t = true) : rowFine P t = true := by
  unfold rowT at h
  split at h
  · rename_i d hd
    obtain ⟨h1, h2, h3⟩ := underT_eq hT hd
    unfold rowFine
    rw [h1, h3]
    have hv : isVar P t = kindOk (some d) := by unfold isVar; rw [h1]; simp [h2]
    rw [hv]
    cases d with
    | struct fs =>
      simp only [Bool.and_eq_true] at h
      obtain ⟨f1, f2, f3⟩ := fieldsT_eq hT h.1
      have hsum := of_beq h.2
      simp only [Bool.or_eq_true, Bool.and_eq_true]
      refine .inr ⟨⟨f1, by simp [hsum, f2]⟩, List.all_eq_true.2 fun j hj => ?_⟩
      split
      · rename_i f hf
        have := f3 j f hf
        simp [this]
      · rfl
    | array n e =>
      simp only [Bool.and_eq_true] at h
      obtain ⟨a, b⟩ := varT_eq hT h.1
      simp [a, b, of_beq h.2]
    | pointer e =>
      simp only [Bool.and_eq_true] at h
      simp [(varT_eq hT h.1).1, of_beq h.2]
    | slice e =>
      simp only [Bool.and_eq_true] at h
      simp [(varT_eq hT h.1).1, of_beq h.2]
    | _ =>
      simp only [Bool.or_eq_true] at h
      rcases h with h | h
      · simp [h]
      · simp [of_beq h]
  · cases h

end

theorem laidOut_of {P : Program} {d n : Nat} (hn : P.types.size = n) (h : upTo (rowT (ofL d P.types.toList)) 0 n = true) (hg : P.globals.all (fun g => decide (g.type < P.types.size)) = true)
    (hf : P.funcs.all (fun f => f.params.all fun t => decide (t < P.types.size)) = true) : laidOutB P = true := by
  unfold laidOutB
  rw [hg, hf, Bool.and_true, Bool.and_true]
  refine List.all_eq_true.2 fun t ht => rowT_eq (fun t i hi => ?_) (upTo_at h t (Nat.zero_le _) ?_)
  · have := ofL_get d _ _ _ hi
    simpa using this
  · have := List.mem_range.1 ht
    omega

end Go.Ev
