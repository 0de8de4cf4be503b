/- A part of the proof that an evaluator of the machine's code is sound (EvEnv). No conditions. -/
import Derived.Test.YtnklododmdplmaaGreatDoorEvK4
import Derived.Lib.Bytealg
namespace Go.Ev

def evens {α : Type} : List α → List α
  | [] => []
  | [a] => [a]
  | a :: _ :: r => a :: evens r

def ofL {α : Type} : Nat → List α → Trie α
  | 0, _ => .nil
  | _ + 1, [] => .nil
  | d + 1, x :: xs => .node (some x) (ofL d (evens xs)) (ofL d (evens (xs.drop 1)))

theorem evens_get {α : Type} : ∀ (l : List α) (k : Nat), (evens l)[k]? = l[2 * k]?
  | [], k => by simp [evens]
  | [a], 0 => rfl
  | [a], k + 1 => by
    have : 2 * (k + 1) = (2 * k + 1) + 1 := by omega
    simp [evens, this]
  | a :: b :: r, 0 => rfl
  | a :: b :: r, k + 1 => by
    have : 2 * (k + 1) = 2 * k + 1 + 1 := by omega
    simp only [evens, List.getElem?_cons_succ, this, evens_get r k]

theorem ofL_get {α : Type} : ∀ (d : Nat) (l : List α) (k : Nat) (x : α), (ofL d l).get k = some x → l[k]? = some x
  | 0, l, k, x, h => by simp [ofL, Trie.get_nil] at h
  | d + 1, [], k, x, h => by simp [ofL, Trie.get_nil] at h
  | d + 1, y :: ys, k, x, h => by
    simp only [ofL, Trie.get_node] at h
    cases k with
    | zero => simpa using h
    | succ j =>
      simp only at h
      split at h
      · have := ofL_get d _ _ _ h
        rw [evens_get] at this
        simp only [List.getElem?_cons_succ]
        rw [← this]
        congr 1
        omega
      · have := ofL_get d _ _ _ h
        rw [evens_get, List.getElem?_drop] at this
        simp only [List.getElem?_cons_succ]
        rw [← this]
        congr 1
        omega

/-- a table with the few functions without a body that are met -/
def extOf (l : List (Nat × Ext)) (f : Nat) : Option Ext :=
  match l with
  | [] => none
  | p :: r => bif Nat.beq p.1 f then some p.2 else extOf r f

theorem extOf_mem : ∀ {l : List (Nat × Ext)} {f : Nat} {x : Ext}, extOf l f = some x → (f, x) ∈ l
  | [], f, x, h => by simp [extOf] at h
  | p :: r, f, x, h => by
    simp only [extOf] at h
    cases hb : Nat.beq p.1 f with
    | true =>
      simp only [hb, cond_true, Option.some.injEq] at h
      have := of_beq hb
      subst this; subst h
      exact List.mem_cons_self ..
    | false =>
      simp only [hb, cond_false] at h
      exact List.mem_cons_of_mem _ (extOf_mem h)

def memN (l : List Nat) (t : Nat) : Bool :=
  match l with
  | [] => false
  | x :: r => bif Nat.beq x t then true else memN r t

theorem memN_mem : ∀ {l : List Nat} {t : Nat}, memN l t = true → t ∈ l
  | [], t, h => by simp [memN] at h
  | x :: r, t, h => by
    simp only [memN] at h
    cases hb : Nat.beq x t with
    | true => have := of_beq hb; subst this; exact List.mem_cons_self ..
    | false => simp only [hb, cond_false] at h; exact List.mem_cons_of_mem _ (memN_mem h)

def bodied (fn : Func) : Option Func := match fn.body with
  | some _ => some fn
  | none => none

def refOf (l : List (Nat × RefOp)) (f : Nat) : Option RefOp :=
  match l with
  | [] => none
  | p :: r => bif Nat.beq p.1 f then some p.2 else refOf r f

theorem refOf_mem : ∀ {l : List (Nat × RefOp)} {f : Nat} {x : RefOp}, refOf l f = some x → (f, x) ∈ l
  | [], f, x, h => by simp [refOf] at h
  | p :: r, f, x, h => by
    simp only [refOf] at h
    cases hb : Nat.beq p.1 f with
    | true =>
      simp only [hb, cond_true, Option.some.injEq] at h
      have := of_beq hb
      subst this; subst h
      exact List.mem_cons_self ..
    | false =>
      simp only [hb, cond_false] at h
      exact List.mem_cons_of_mem _ (refOf_mem h)

def noRef : RefT := ⟨0, 0, [], [], []⟩

def envOf (tT : Trie TypeInfo) (tF : Trie Func) (ng : Nat) (exts : List (Nat × Ext)) (eqs qs : List Nat) (refs : List (Nat × RefOp)) (R : RefT) : Env :=
  { ng := ng
    info := fun t => tT.get t
    fn := fun f => match tF.get f with
      | some fn => bodied fn
      | none => none
    ext := extOf exts
    eqOK := memN eqs
    quiet := memN qs
    ref := refOf refs
    rft := R }

theorem envOf_ok {P : Program} {d ng : Nat} {exts : List (Nat × Ext)} {eqs qs : List Nat} {refs : List (Nat × RefOp)} {R : RefT} (hm : P.follows .mixedOrders = true) (hn : P.funcs.toList.all (fun fn => !(fn.name == "runtime.NumGoroutine")) = true)
    (hx : ∀ p ∈ exts, ExtOk P p.1 p.2) (he : ∀ t ∈ eqs, P.eqGuardType P.depth t = false ∧ P.stoodInHeld t = false)
    (hq : ∀ g ∈ qs, ∀ (args : Array Value) (w : World), CallsD P g args .returning w fun e u' w' => (∃ v, e = .returned v) ∧ u' = .returning ∧ w' = w)
    (hr : ∀ p ∈ refs, ∀ (args : Array Value) (w w' : World) (v : Value), (refFn p.2 args).run P w = .ok v w' → (callFunc p.1 args).run P w = .ok (.value v) w')
    (hR : refs ≠ [] → RefOk (envOf (ofL d P.types.toList) (ofL d P.funcs.toList) ng exts eqs qs refs R) P R) :
    EnvOk (envOf (ofL d P.types.toList) (ofL d P.funcs.toList) ng exts eqs qs refs R) P where
  mixed := hm
  info t i h := by
    have h1 := ofL_get d _ _ _ h
    have h2 : P.types[t]? = some i := by simpa using h1
    have hlt := (Array.getElem?_eq_some_iff.1 h2).1
    show P.toTables.info? t = some i
    unfold Tables.info?
    rw [if_pos hlt]
    exact h2
  fn f fn h := by
    simp only [envOf] at h
    split at h
    · rename_i g hg
      have h1 := ofL_get d _ _ _ hg
      have h2 : P.funcs[f]? = some g := by simpa using h1
      unfold bodied at h
      split at h
      · rename_i c hc
        injection h with h; subst h
        refine ⟨h2, by rw [hc]; rfl, ?_⟩
        have := List.all_eq_true.1 hn g (List.mem_of_getElem? h1)
        simpa using this
      · cases h
    · cases h
  ext f x h := hx (f, x) (extOf_mem h)
  eqOK t h := he t (memN_mem h)
  quiet g h := hq g (memN_mem h)
  ref f r h := hr (f, r) (refOf_mem h)
  rok f r h := hR (fun e => by subst e; simp [envOf, refOf] at h)

/-! the functions without a body -/

theorem toNat_toUInt8 (n : Nat) (h : n < 256) : n.toUInt8.toNat = n := by simp [Nat.toUInt8]; omega

theorem findIx_eq (c : Nat) (hc : c < 256) : ∀ (l : List UInt8) (i : Nat), (match findIx c (l.map UInt8.toNat) i with
    | some j => ((j : Nat) : Int)
    | none => -1) = if Lib.indexByte l c.toUInt8 = -1 then -1 else (i : Int) + Lib.indexByte l c.toUInt8
  | [], i => by simp [findIx, Lib.indexByte]
  | b :: l, i => by
    have ih := findIx_eq c hc l (i + 1)
    have hbc : (b == c.toUInt8) = Nat.beq b.toNat c := by
      rw [nbeq, Bool.eq_iff_iff, beq_iff_eq, decide_eq_true_eq]
      constructor
      · rintro rfl; exact toNat_toUInt8 c hc
      · intro h; rw [← h]; simp
    have hge := Lib.indexByte_ge l c.toUInt8
    have hv : Lib.indexByte (b :: l) c.toUInt8 = if Nat.beq b.toNat c = true then 0 else if (Lib.indexByte l c.toUInt8 == -1) = true then -1 else Lib.indexByte l c.toUInt8 + 1 := by
      rw [← hbc]; rfl
    generalize Lib.indexByte (b :: l) c.toUInt8 = z at hv ⊢
    generalize Lib.indexByte l c.toUInt8 = y at hv ih hge
    simp only [List.map_cons, findIx]
    cases hb : Nat.beq b.toNat c with
    | true => rw [hb] at hv; simp at hv; subst hv; simp
    | false =>
      rw [hb] at hv
      simp only [Bool.false_eq_true, if_false] at hv
      simp only [cond_false]
      rw [ih]
      by_cases h1 : y = -1
      · subst h1; simp at hv; subst hv; simp
      · have h2 : (y == -1) = false := by simpa using h1
        rw [h2] at hv
        simp only [Bool.false_eq_true, if_false] at hv
        subst hv
        rw [if_neg h1, if_neg (by omega)]
        omega

theorem countIn_eq (c : Nat) (hc : c < 256) : ∀ (l : List UInt8) (n : Nat), countIn c (l.map UInt8.toNat) n = n + Lib.countByte l c.toUInt8
  | [], n => by simp [countIn, Lib.countByte]
  | b :: l, n => by
    have hbc : (b == c.toUInt8) = Nat.beq b.toNat c := by
      rw [nbeq, Bool.eq_iff_iff, beq_iff_eq, decide_eq_true_eq]
      constructor
      · rintro rfl; exact toNat_toUInt8 c hc
      · intro h; rw [← h]; simp
    have hcnt : Lib.countByte (b :: l) c.toUInt8 = Lib.countByte l c.toUInt8 + if (b == c.toUInt8) = true then 1 else 0 := by
      unfold Lib.countByte
      rw [List.count_cons]
    simp only [List.map_cons, countIn]
    rw [countIn_eq c hc l, hcnt, hbc]
    cases Nat.beq b.toNat c <;> simp <;> omega

theorem extOk_indexByte {P : Program} {f : Nat} {fn : Func} (hf : P.funcs[f]? = some fn) (hname : (fn.name == "runtime.NumGoroutine") = false)
    (hb : fn.body.isNone = true) (hn : Extern.findNext fn = none) (he : Extern.find fn = some Extern.BytealgIndexByte.indexByte) : ExtOk P f .indexByte := by
  intro ρ args args' w v ha h
  unfold extRun at h
  split at h <;> try (first | (cases h; done) | (rename_i hq; cases hq; done))
  · rename_i s c _
    obtain ⟨hc, h⟩ := bif_some h
    have hc := of_blt hc
    simp only [relL] at ha
    obtain ⟨y1, l1, e1, h1, y2, l2, rfl, h2, rfl⟩ := ha
    have ha' : args' = #[y1, y2] := by apply Array.ext'; simpa using e1
    subst ha'
    rw [rel_str] at h1
    obtain ⟨b, rfl, rfl⟩ := h1
    rw [rel_int] at h2
    subst h2
    refine ⟨.int .i64 (Lib.indexByte b.data.toList c.toNat.toUInt8), ?_, ?_⟩
    · rw [run_callFunc_extern hf hname hb hn he, Lib.run_indexByteString]; rfl
    · have := findIx_eq c.toNat hc b.data.toList 0
      rw [show bytesNat b = b.data.toList.map UInt8.toNat from rfl] at h
      have e : (if Lib.indexByte b.data.toList c.toNat.toUInt8 = -1 then (-1 : Int) else ((0 : Nat) : Int) + Lib.indexByte b.data.toList c.toNat.toUInt8) = Lib.indexByte b.data.toList c.toNat.toUInt8 := by
        split
        · rename_i h0; exact h0.symm
        · simp
      rw [e] at this
      rw [← this]
      split at h
      · rename_i i hi
        injection h with h; subst h
        rw [hi]; simp [AVal.rel]
      · rename_i hi
        injection h with h; subst h
        rw [hi]; simp [AVal.rel]

theorem extOk_count {P : Program} {f : Nat} {fn : Func} (hf : P.funcs[f]? = some fn) (hname : (fn.name == "runtime.NumGoroutine") = false)
    (hb : fn.body.isNone = true) (hn : Extern.findNext fn = none) (he : Extern.find fn = some Extern.BytealgCount.count) : ExtOk P f .count := by
  intro ρ args args' w v ha h
  unfold extRun at h
  split at h <;> try (first | (cases h; done) | (rename_i hq; cases hq; done))
  · rename_i s c _
    obtain ⟨hc, h⟩ := bif_some h
    have hc := of_blt hc
    simp only [relL] at ha
    obtain ⟨y1, l1, e1, h1, y2, l2, rfl, h2, rfl⟩ := ha
    have ha' : args' = #[y1, y2] := by apply Array.ext'; simpa using e1
    subst ha'
    rw [rel_str] at h1
    obtain ⟨b, rfl, rfl⟩ := h1
    rw [rel_int] at h2
    subst h2
    refine ⟨.int .i64 (Lib.countByte b.data.toList c.toNat.toUInt8), ?_, ?_⟩
    · rw [run_callFunc_extern hf hname hb hn he, Lib.run_countString]; rfl
    · have := countIn_eq c.toNat hc b.data.toList 0
      injection h with h; subst h
      rw [show bytesNat b = b.data.toList.map UInt8.toNat from rfl, this]
      simp [AVal.rel]

end Go.Ev
