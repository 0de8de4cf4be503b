/- A part of the proof that an evaluator of the machine's code is sound (EvK1). No conditions. -/
import Derived.Test.YtnklododmdplmaaGreatDoorEvK
namespace Go.Ev

/-! trees -/

theorem lens_law {α : Type} {d e : Nat} (hd : d < 8) (he : e < 8) (f : α → α) (n : N8 α) : (lens α d).g ((lens α e).u f n) = if d = e then f ((lens α d).g n) else (lens α d).g n := by
  have h1 : d = 0 ∨ d = 1 ∨ d = 2 ∨ d = 3 ∨ d = 4 ∨ d = 5 ∨ d = 6 ∨ d = 7 := by omega
  have h2 : e = 0 ∨ e = 1 ∨ e = 2 ∨ e = 3 ∨ e = 4 ∨ e = 5 ∨ e = 6 ∨ e = 7 := by omega
  rcases h1 with rfl | rfl | rfl | rfl | rfl | rfl | rfl | rfl <;> rcases h2 with rfl | rfl | rfl | rfl | rfl | rfl | rfl | rfl <;> rfl

theorem get_set {i j : Nat} (hi : i < 512) (hj : j < 512) (v : AVal) (t : T8) : (mkGet i).get ((mkSet j).set v t) = if i = j then v else (mkGet i).get t := by
  have a1 : Nat.mod i 8 < 8 := Nat.mod_lt _ (by omega)
  have a2 : Nat.mod (Nat.div i 8) 8 < 8 := Nat.mod_lt _ (by omega)
  have a3 : Nat.div i 64 < 8 := Nat.div_lt_of_lt_mul (by omega)
  have b1 : Nat.mod j 8 < 8 := Nat.mod_lt _ (by omega)
  have b2 : Nat.mod (Nat.div j 8) 8 < 8 := Nat.mod_lt _ (by omega)
  have b3 : Nat.div j 64 < 8 := Nat.div_lt_of_lt_mul (by omega)
  simp only [mkGet, mkSet]
  rw [lens_law a3 b3]
  by_cases c3 : Nat.div i 64 = Nat.div j 64
  · rw [if_pos c3, lens_law a2 b2]
    by_cases c2 : Nat.mod (Nat.div i 8) 8 = Nat.mod (Nat.div j 8) 8
    · rw [if_pos c2, lens_law a1 b1]
      by_cases c1 : Nat.mod i 8 = Nat.mod j 8
      · rw [if_pos c1]
        have : i = j := by
          change i / 64 = j / 64 at c3
          change i / 8 % 8 = j / 8 % 8 at c2
          change i % 8 = j % 8 at c1
          omega
        rw [if_pos this]
      · rw [if_neg c1]
        have : i ≠ j := fun h => c1 (by rw [h])
        rw [if_neg this]
    · rw [if_neg c2]
      have : i ≠ j := fun h => c2 (by rw [h])
      rw [if_neg this]
  · rw [if_neg c3]
    have : i ≠ j := fun h => c3 (by rw [h])
    rw [if_neg this]

theorem bsel_true {α : Type} (y n : α) : bsel true y n = y := rfl
theorem bsel_false {α : Type} (y n : α) : bsel false y n = n := rfl

theorem hget_hput {b : Nat} (hb : b < 4096) (h : H8) (o : Option AObj) (j : Nat) : hget (hput h b o) j = if j = b then o else hget h j := by
  unfold hget
  by_cases hj : j < 4096
  · have : Nat.ble j 4095 = true := Nat.ble_eq_true_of_le (by omega)
    simp only [this, bsel_true]
    have a1 : Nat.mod j 8 < 8 := Nat.mod_lt _ (by omega)
    have a2 : Nat.mod (Nat.div j 8) 8 < 8 := Nat.mod_lt _ (by omega)
    have a3 : Nat.mod (Nat.div j 64) 8 < 8 := Nat.mod_lt _ (by omega)
    have a4 : Nat.div j 512 < 8 := Nat.div_lt_of_lt_mul (by omega)
    have b1 : Nat.mod b 8 < 8 := Nat.mod_lt _ (by omega)
    have b2 : Nat.mod (Nat.div b 8) 8 < 8 := Nat.mod_lt _ (by omega)
    have b3 : Nat.mod (Nat.div b 64) 8 < 8 := Nat.mod_lt _ (by omega)
    have b4 : Nat.div b 512 < 8 := Nat.div_lt_of_lt_mul (by omega)
    unfold hput
    rw [lens_law a4 b4]
    by_cases c4 : Nat.div j 512 = Nat.div b 512
    · rw [if_pos c4, lens_law a3 b3]
      by_cases c3 : Nat.mod (Nat.div j 64) 8 = Nat.mod (Nat.div b 64) 8
      · rw [if_pos c3, lens_law a2 b2]
        by_cases c2 : Nat.mod (Nat.div j 8) 8 = Nat.mod (Nat.div b 8) 8
        · rw [if_pos c2, lens_law a1 b1]
          by_cases c1 : Nat.mod j 8 = Nat.mod b 8
          · rw [if_pos c1]
            have : j = b := by
              change j / 512 = b / 512 at c4
              change j / 64 % 8 = b / 64 % 8 at c3
              change j / 8 % 8 = b / 8 % 8 at c2
              change j % 8 = b % 8 at c1
              omega
            rw [if_pos this]
          · rw [if_neg c1, if_neg (fun h => c1 (by rw [h]))]
        · rw [if_neg c2, if_neg (fun h => c2 (by rw [h]))]
      · rw [if_neg c3, if_neg (fun h => c3 (by rw [h]))]
    · rw [if_neg c4, if_neg (fun h => c4 (by rw [h]))]
  · have : Nat.ble j 4095 = false := by
      cases h : Nat.ble j 4095 with
      | false => rfl
      | true => have := of_ble h; omega
    simp only [this, bsel_false]
    rw [if_neg (by omega)]

theorem hget_none {h : H8} {b : Nat} (hb : ¬ b < 4096) : hget h b = none := by
  unfold hget
  have : Nat.ble b 4095 = false := by
    cases h : Nat.ble b 4095 with
    | false => rfl
    | true => have := of_ble h; omega
  rw [this]; rfl

/-! what is alike -/

structure SimF (n : Nat) (s : T8) (F : Fr) : Prop where
  size : F.n = n
  le : n ≤ 512
  get : ∀ i, i < 512 → (mkGet i).get s = F.get i

structure SimM (m : MK) (M : Mem) : Prop where
  next : m.next = M.next
  get : hget m.heap = M.get

theorem SimM.lt {m : MK} {M : Mem} (h : SimM m M) {b : Nat} {o : AObj} (hb : M.get b = some o) : b < 4096 := by
  apply Nat.lt_of_not_le
  intro hge
  have : hget m.heap b = none := hget_none (by omega)
  rw [h.get, hb] at this
  cases this

theorem SimM.put {m : MK} {M : Mem} (h : SimM m M) {b : Nat} (hb : b < 4096) (o : AObj) : SimM ⟨hput m.heap b (some o), m.next⟩ (M.put b o) := by
  refine ⟨h.next, funext fun j => ?_⟩
  rw [hget_hput hb, Mem.get_put, h.get]

theorem SimM.kill {m : MK} {M : Mem} (h : SimM m M) {b : Nat} (hb : b < 4096) : SimM ⟨hput m.heap b none, m.next⟩ (M.kill b) := by
  refine ⟨h.next, funext fun j => ?_⟩
  rw [hget_hput hb, Mem.get_kill, h.get]

theorem SimM.add {m : MK} {M : Mem} (h : SimM m M) (hb : m.next < 4096) (o : AObj) : SimM ⟨hput m.heap m.next (some o), Nat.succ m.next⟩ (M.add o) := by
  refine ⟨by rw [h.next]; rfl, funext fun j => ?_⟩
  rw [hget_hput hb, Mem.get_add, h.get, h.next]

theorem SimF.put {n : Nat} {s : T8} {F : Fr} (h : SimF n s F) (d : Option Nat) (v : AVal) : SimF n ((dstK n d).set v s) (F.put d v) := by
  cases d with
  | none => exact h
  | some d =>
    unfold dstK Fr.put
    have hn := h.size
    have hle := h.le
    simp only [hn]
    cases hb : Nat.blt d n with
    | false => exact h
    | true =>
      have hd := of_blt hb
      simp only [bsel_true, cond_true]
      refine ⟨rfl, hle, fun i hi => ?_⟩
      rw [get_set hi (by omega)]
      simp only [Fr.get, Trie.get_set]
      by_cases hid : i = d
      · rw [if_pos hid, if_pos hid]
      · rw [if_neg hid, if_neg hid]
        exact h.get i hi

/-! continuations -/

theorem onO_true {α : Type} {x : Option α} {f : α → Bool} (h : onO x f = true) : ∃ a, x = some a ∧ f a = true := by
  cases x with
  | none => cases h
  | some a => exact ⟨a, rfl, h⟩

theorem andK_true {a b : Bool} (h : andK a b = true) : a = true ∧ b = true := by
  cases a with
  | true => exact ⟨rfl, h⟩
  | false => cases h

theorem onBool_true {x : AVal} {f : Bool → Bool} (h : onBool x f = true) : ∃ b, x = .bool b ∧ f b = true := by
  cases x <;> first | exact ⟨_, rfl, h⟩ | cases h
theorem onInt_true {x : AVal} {f : IntKind → Int → Bool} (h : onInt x f = true) : ∃ k n, x = .int k n ∧ f k n = true := by
  cases x <;> first | exact ⟨_, _, rfl, h⟩ | cases h
theorem onIntR_true {x : AVal} {f : IntKind → Int → Bool} {alt : Bool} (h : onIntR x f alt = true) : (∃ k n, x = .int k n ∧ f k n = true) ∨ alt = true := by
  cases x <;> first | exact .inl ⟨_, _, rfl, h⟩ | exact .inr h | cases h
theorem onStr_true {x : AVal} {f : List Nat → Bool} (h : onStr x f = true) : ∃ s, x = .str s ∧ f s = true := by
  cases x <;> first | exact ⟨_, rfl, h⟩ | cases h
theorem onPtr_true {x : AVal} {f : Nat → Nat → Bool} (h : onPtr x f = true) : ∃ b off, x = .ptr (some (b, off)) ∧ f b off = true := by
  cases x with
  | ptr p =>
    cases p with
    | none => cases h
    | some q => exact ⟨q.1, q.2, rfl, h⟩
  | _ => cases h
theorem onSliceR_true {x : AVal} {f : Option (Nat × Nat) → Nat → Bool} {alt : Bool} (h : onSliceR x f alt = true) : (∃ p n c o, x = .slice p n c o ∧ f p n = true) ∨ (x = .emp ∧ alt = true) := by
  cases x <;> first | exact .inl ⟨_, _, _, _, rfl, h⟩ | exact .inr ⟨rfl, h⟩ | cases h
theorem onSlice_true {x : AVal} {f : Option (Nat × Nat) → Nat → Bool} (h : onSlice x f = true) : ∃ p n c o, x = .slice p n c o ∧ f p n = true := by
  cases x <;> first | exact ⟨_, _, _, _, rfl, h⟩ | cases h
theorem onAgg_true {x : AVal} {f : List AVal → Bool} (h : onAgg x f = true) : ∃ s, x = .agg s ∧ f s = true := by
  cases x <;> first | exact ⟨_, rfl, h⟩ | cases h
theorem onTuple_true {x : AVal} {f : List AVal → Bool} (h : onTuple x f = true) : ∃ s, x = .tuple s ∧ f s = true := by
  cases x <;> first | exact ⟨_, rfl, h⟩ | cases h
theorem onCells_true {o : Option AObj} {f : List AVal → TypeId → Option Nat → Bool → Bool} (h : onCells o f = true) : ∃ c e opn ro, o = some (.cells c e opn ro) ∧ f c e opn ro = true := by
  obtain ⟨ob, rfl, h⟩ := onO_true h
  cases ob <;> first | exact ⟨_, _, _, _, rfl, h⟩ | cases h

theorem forceN_eq (n : Nat) (k : Nat → Bool) : forceN n k = k n := by cases n <;> rfl
theorem forceI_eq (i : Int) (k : Int → Bool) : forceI i k = k i := by
  cases i with
  | ofNat m => exact forceN_eq m fun m => k (Int.ofNat m)
  | negSucc m => exact forceN_eq m fun m => k (Int.negSucc m)
theorem onNat_true {i : Int} {k : Nat → Bool} (h : onNat i k = true) : ∃ n : Nat, i = (n : Int) ∧ k n = true := by
  cases i with
  | ofNat m => exact ⟨m, rfl, h⟩
  | negSucc m => cases h

theorem nthK_true {α : Type} : ∀ {l : List α} {i : Nat} {κ : α → Bool}, nthK l i κ = true → ∃ x, l[i]? = some x ∧ κ x = true
  | [], i, κ, h => by cases h
  | x :: l, 0, κ, h => ⟨x, rfl, h⟩
  | x :: l, i + 1, κ, h => by
    obtain ⟨y, h1, h2⟩ := nthK_true (l := l) (i := i) (κ := κ) h
    exact ⟨y, by simpa using h1, h2⟩

theorem dropK_eq {α : Type} : ∀ (i : Nat) (l : List α), dropK i l = l.drop i
  | 0, l => rfl
  | i + 1, [] => rfl
  | i + 1, x :: l => by show dropK i l = _; rw [dropK_eq i l]; rfl

theorem takeK_true {α : Type} : ∀ {n : Nat} {l : List α} {κ : List α → Bool}, takeK n l κ = true → n ≤ l.length ∧ κ (l.take n) = true
  | 0, l, κ, h => ⟨Nat.zero_le _, h⟩
  | n + 1, [], κ, h => by cases h
  | n + 1, x :: l, κ, h => by
    obtain ⟨h1, h2⟩ := takeK_true (n := n) (l := l) (κ := fun r => κ (x :: r)) h
    exact ⟨by simp; omega, by simpa using h2⟩

theorem setNthK_true {α : Type} {v : α} : ∀ {l : List α} {i : Nat} {κ : List α → Bool}, setNthK v l i κ = true → i < l.length ∧ κ (l.set i v) = true
  | [], i, κ, h => by cases h
  | x :: l, 0, κ, h => ⟨by simp, h⟩
  | x :: l, i + 1, κ, h => by
    obtain ⟨h1, h2⟩ := setNthK_true (l := l) (i := i) (κ := fun r => κ (x :: r)) h
    exact ⟨by simp; omega, h2⟩

/-! operands -/

section
variable {E : Env} {n : Nat} {s : T8} {F : Fr}

theorem bsel_some {α : Type} {b : Bool} {x : Option α} {y : α} (h : bsel b x none = some y) : b = true ∧ x = some y := by
  cases b with
  | true => exact ⟨rfl, h⟩
  | false => cases h
theorem bsel_some' {α : Type} {b : Bool} {x : Option α} {y : α} (h : bsel b none x = some y) : b = false ∧ x = some y := by
  cases b with
  | true => cases h
  | false => exact ⟨rfl, h⟩

theorem evK_ok (hs : SimF n s F) {x : Operand} {a : GetK} (h : evK E x = some a) : ev E F x = some (a.get s) := by
  cases x with
  | tmp t =>
    obtain ⟨hb, h⟩ := bsel_some h
    injection h with h; subst h
    simp only [ev]
    rw [hs.get t (of_blt hb)]
  | const v =>
    simp only [evK] at h
    simp only [ev]
    cases hv : ofVal 4 v with
    | none => simp [hv] at h
    | some a' => simp only [hv, Option.some.injEq] at h; subst h; rfl
  | global g =>
    obtain ⟨hb, h⟩ := bsel_some h
    injection h with h; subst h
    simp only [ev, hb, cond_true]
  | func f =>
    simp only [evK, Option.some.injEq] at h
    subst h; rfl

theorem evsK_ok (hs : SimF n s F) : ∀ {l : List Operand} {a : GetsK}, evsK E l = some a → evs E F l = some (a.get s)
  | [], a, h => by simp only [evsK, Option.some.injEq] at h; subst h; rfl
  | x :: l, a, h => by
    simp only [evsK] at h
    split at h
    · rename_i a1 a2 h1 h2
      injection h with h; subst h
      have i1 := evK_ok hs h1
      have i2 := evsK_ok hs h2
      simp only [evs] at i2
      simp only [evs, optMap, i1, i2]
    · cases h

theorem evPartsK_ok (hs : SimF n s F) : ∀ {l : List (Nat × Operand)} {a : GetPK}, evPartsK E l = some a → evParts E F l = some (a.get s)
  | [], a, h => by simp only [evPartsK, Option.some.injEq] at h; subst h; rfl
  | (i, x) :: l, a, h => by
    simp only [evPartsK] at h
    split at h
    · rename_i a1 a2 h1 h2
      injection h with h; subst h
      have i1 := evK_ok hs h1
      have i2 := evPartsK_ok hs h2
      simp only [evParts] at i2
      simp only [evParts, optMap, i1, i2, Option.map_some]
    · cases h

theorem evoK_ok (hs : SimF n s F) {x : Option Operand} {a : GetOK} (h : evoK E x = some a) : evo E F x = some (a.get s) := by
  cases x with
  | none => simp only [evoK, Option.some.injEq] at h; subst h; rfl
  | some x =>
    simp only [evoK] at h
    split at h
    · rename_i a1 h1
      injection h with h; subst h
      simp only [evo, evK_ok hs h1, Option.map_some]
    · cases h

end
end Go.Ev
