/- What the program's tie reads, by rows of cells: closed facts, and what follows of them. No conditions. -/
import Derived.Test.YtnklododmdplmaaGreatDoorEndTieA
namespace Go.Proofs.YtnklododmdplmaaGreatDoor
open Go
def tieRows : List (Nat × Nat × Nat) := [(15, 0, 32), (16, 0, 256), (17, 0, 1), (25, 0, 3), (24, 0, 21), (1, 0, 1), (26, 0, 1), (2, 0, 1), (27, 0, 1), (3, 0, 8), (12, 0, 4), (13, 0, 64), (4, 0, 10), (5, 0, 6), (6, 0, 7), (7, 0, 7), (8, 0, 3), (9, 0, 15)]

def rowsOf (R : List (Nat × Nat × Nat)) : List MemPlace := R.flatMap fun r => MemPlace.row ⟨r.1, r.2.1, none⟩ r.2.2

def matchRow (b : Nat) : Nat → Nat → List MemPlace → Option (List MemPlace)
  | _, 0, l => some l
  | o, n + 1, l => match l with
    | .cell b' o' :: l => bif Nat.beq b' b && Nat.beq o' o then matchRow b (o + 1) n l else none
    | _ => none

def matchRows : List (Nat × Nat × Nat) → List MemPlace → Bool
  | [], l => l.isEmpty
  | r :: R, l => match matchRow r.1 r.2.1 r.2.2 l with
    | some l' => matchRows R l'
    | none => false

def rowB (P : Program) (w : World) (r : Nat × Nat × Nat) : Bool :=
  match w.heap[r.1]? with
  | some (.cells c _ (0, 0)) => ((c.toList.drop r.2.1).take r.2.2).all fun v => match v with
    | .iface u v => Value.okWideB P w u v
    | _ => true
  | _ => false

def apartR (r s : Nat × Nat × Nat) : Bool := !(Nat.beq r.1 s.1)
def apartRs : List (Nat × Nat × Nat) → Bool
  | [] => true
  | r :: R => R.all (apartR r) && apartRs R

theorem row_succ (b o n : Nat) : MemPlace.row ⟨b, o, none⟩ (n + 1) = .cell b o :: MemPlace.row ⟨b, o + 1, none⟩ n := by
  unfold MemPlace.row
  rw [List.range_succ_eq_map, List.map_cons, List.map_map]
  refine List.cons_eq_cons.2 ⟨by simp, List.map_congr_left fun i _ => ?_⟩
  simp only [Function.comp_apply, MemPlace.cell.injEq, true_and]
  omega

theorem matchRow_eq (b : Nat) : ∀ (n o : Nat) (l l' : List MemPlace), matchRow b o n l = some l' → l = MemPlace.row ⟨b, o, none⟩ n ++ l'
  | 0, o, l, l', h => by
    simp only [matchRow, Option.some.injEq] at h
    subst h
    simp [MemPlace.row]
  | n + 1, o, l, l', h => by
    simp only [matchRow] at h
    split at h
    · rename_i b' o' l2
      cases hb : (Nat.beq b' b && Nat.beq o' o) with
      | false => rw [hb] at h; cases h
      | true =>
        rw [hb, cond_true] at h
        simp only [Bool.and_eq_true] at hb
        have h1 := Nat.eq_of_beq_eq_true hb.1
        have h2 := Nat.eq_of_beq_eq_true hb.2
        subst h1; subst h2
        rw [row_succ, List.cons_append, ← matchRow_eq _ n _ _ _ h]
    · cases h

theorem matchRows_eq : ∀ (R : List (Nat × Nat × Nat)) (l : List MemPlace), matchRows R l = true → l = rowsOf R
  | [], l, h => by
    simp only [matchRows, List.isEmpty_iff] at h
    subst h; rfl
  | r :: R, l, h => by
    simp only [matchRows] at h
    split at h
    · rename_i l' hl
      rw [matchRow_eq _ _ _ _ _ hl, matchRows_eq R l' h]
      simp [rowsOf]
    · cases h

theorem mem_row {p : MemPlace} {b o n : Nat} (h : p ∈ MemPlace.row ⟨b, o, none⟩ n) : ∃ i, i < n ∧ p = .cell b (o + i) := by
  simp only [MemPlace.row, List.mem_map, List.mem_range] at h
  obtain ⟨i, hi, rfl⟩ := h
  exact ⟨i, hi, rfl⟩

theorem nodup_rows : ∀ R : List (Nat × Nat × Nat), apartRs R = true → (rowsOf R).Nodup
  | [], _ => List.nodup_nil
  | r :: R, h => by
    simp only [apartRs, Bool.and_eq_true, List.all_eq_true] at h
    have hr : rowsOf (r :: R) = MemPlace.row ⟨r.1, r.2.1, none⟩ r.2.2 ++ rowsOf R := by simp [rowsOf]
    rw [hr, List.nodup_append]
    refine ⟨?_, nodup_rows R h.2, ?_⟩
    · unfold MemPlace.row
      rw [List.nodup_iff_pairwise_ne, List.pairwise_map]
      refine List.Pairwise.imp ?_ (List.pairwise_lt_range)
      intro a b hab he
      simp only [MemPlace.cell.injEq, true_and] at he
      omega
    · intro a ha b hb hab
      subst hab
      obtain ⟨i, _, rfl⟩ := mem_row ha
      unfold rowsOf at hb
      obtain ⟨s, hs, hb⟩ := List.mem_flatMap.1 hb
      obtain ⟨j, _, he⟩ := mem_row hb
      simp only [MemPlace.cell.injEq] at he
      have := h.1 s hs
      unfold apartR at this
      rw [he.1] at this
      simp at this

theorem laidRows_of {P : Program} {w : World} {R : List (Nat × Nat × Nat)} (h : R.all (rowB P w) = true) : laidRowsB P w (rowsOf R) = true := by
  unfold laidRowsB
  rw [List.all_eq_true]
  intro p hp
  unfold rowsOf at hp
  obtain ⟨r, hr, hp⟩ := List.mem_flatMap.1 hp
  obtain ⟨i, hi, rfl⟩ := mem_row hp
  have hb := List.all_eq_true.1 h r hr
  unfold rowB at hb
  split at hb
  · rename_i c t hc
    simp only [hc, World.cell?, Option.isSome_none, Bool.false_eq_true, if_false, Bool.true_and]
    split
    · rename_i u v hv
      have hm : Value.iface u v ∈ (c.toList.drop r.2.1).take r.2.2 := by
        refine List.mem_of_getElem? (i := i) ?_
        rw [List.getElem?_take, if_pos hi, List.getElem?_drop]
        simpa using hv
      exact List.all_eq_true.1 hb _ hm
    · rfl
  · cases hb

theorem tie_apart : apartRs tieRows = true := by kernel_rfl
theorem tie_ps : ∀ os tape, (DataW.laidRun Tryz.prog (varsWorld Tryz.prog 400 (varsId Tryz.prog) os tape).memory 8 (tiePlain.map (·.1))).map (fun x => matchRows tieRows x.2) = some true := fun _ _ => by rw [tie_vars]; kernel_rfl
end Go.Proofs.YtnklododmdplmaaGreatDoor
