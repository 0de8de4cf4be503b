/- A part of the proof that an evaluator of the machine's code is sound (EvSeq). No conditions. -/
import Derived.Test.YtnklododmdplmaaGreatDoorEvSum
import Derived.Shelf.SlIter.Collect
namespace Go.Ev
open Go.Proofs Go.Shelf Go.Maps

/-! Calls that are answered by a law of their own. -/

def hookOn (S : List Nat) (h call : CallF) : CallF := fun f args M => bif memN S f then h f args M else call f args M

def callH (E : Env) (N : Nat) (S : List Nat) (h : CallF) : Nat → CallF
  | 0 => fun _ _ _ => none
  | n + 1 => hookOn S h (callOn E N (callH E N S h n))

noncomputable def hookK (S : List Nat) (h call : CallKT) : CallKT := fun f args m κ => bsel (memN S f) (h f args m κ) (call f args m κ)

noncomputable def callKH (E : Env) (fuel : Nat) (S : List Nat) (h : CallKT) (d : Nat) : CallKT :=
  @Nat.rec (fun _ => CallKT) (fun _ _ _ _ => false) (fun _ ih => hookK S h (callKOn E fuel ih)) d

theorem hookK_ok (S : List Nat) {h call : CallF} {hk callk : CallKT} (h1 : CallSim h hk) (hc : CallSim call callk) : CallSim (hookOn S h call) (hookK S hk callk) := fun f args m M κ hm hq => by
  have h' : bsel (memN S f) (hk f args m κ) (callk f args m κ) = true := hq
  unfold hookOn
  cases hs : memN S f with
  | false => rw [hs] at h'; exact hc f args m M κ hm h'
  | true => rw [hs] at h'; exact h1 f args m M κ hm h'

theorem callKH_ok {E : Env} (fuel : Nat) (S : List Nat) {h : CallF} {hk : CallKT} (h1 : CallSim h hk) : ∀ d, CallSim (callH E fuel S h d) (callKH E fuel S hk d)
  | 0 => fun f args m M κ hm h => by cases h
  | d + 1 => hookK_ok S h1 (callKOn_ok fuel (callKH_ok fuel S h1 d))

theorem hookOn_ok {E : Env} {P : Program} {S : List Nat} {h call : CallF} (hh : CallOk E P h) (hc : CallOk E P call) : CallOk E P (hookOn S h call) := by
  intro f args M v M' hq
  unfold hookOn at hq
  cases hs : memN S f with
  | false => rw [hs, cond_false] at hq; exact hc f args M v M' hq
  | true => rw [hs, cond_true] at hq; exact hh f args M v M' hq

theorem callH_ok {E : Env} {P : Program} (ok : EnvOk E P) (N : Nat) {S : List Nat} {h : CallF} (hh : CallOk E P h) : ∀ n, CallOk E P (callH E N S h n)
  | 0 => fun f args M v M' h => by simp [callH] at h
  | n + 1 => hookOn_ok hh (callOn_ok ok N (callH_ok ok N hh n))

/-- A run that K takes, with calls answered by laws, in a start of whatever cells. -/
theorem run_hooks {E : Env} {P : Program} (ok : EnvOk E P) {W : World} {vs : List Value} {l : List (Nat × List AVal × Nat)} (hlt : ∀ x ∈ l, x.1 < E.ng) (hng : ∀ x ∈ l, x.1 < 4096)
    (hl : ∀ x ∈ l, ∃ (us : List Value) (fr : Nat × Nat), relL (startE E.ng vs) x.2.1 us ∧ W.heap[x.1]? = some (.cells us.toArray x.2.2 fr)) {S : List Nat} {h : CallF} {hk : CallKT} (hh : CallOk E P h) (hs : CallSim h hk)
    {fuel d f : Nat} {args : List AVal} {args' : Array Value} {κ : AVal → MK → Bool} (ha : relL (startE E.ng vs) args args'.toList) (hrun : callKH E fuel S hk d f args (startK (E.ng + vs.length) l) κ = true) :
    Calls P f args' W fun e W' => ∃ v v' ρ' m', e = .returned v' ∧ v.rel ρ' v' ∧ κ v m' = true ∧ Old W W' := by
  obtain ⟨v, M', m', h1, _, h3⟩ := callKH_ok fuel S hs d f args _ _ κ (start_sim (E.ng + vs.length) l hng) hrun
  have hc := (callH_ok ok fuel hh d f args _ v M' h1).2 (startE E.ng vs) W args' (start_relG hlt hl) ha (start_free _ _ _ _)
  refine hc.mono fun e W' ⟨v', ρ', he, hv, ht⟩ => ⟨v, v', ρ', m', he, hv, h3, old_of_trans ht⟩

/-! A world in which nothing of old is changed. -/

theorem trans_of_old {E : Env} {ρ : Emb} {M : Mem} {w w' : World} (hr : Rel E ρ M w) (ho : Old w w') : Trans E ρ M w ρ M w' where
  nxt := Nat.le_refl _
  ext _ _ := rfl
  rel := ⟨hr.glob, hr.ngle, hr.lt, fun b o h => by
    obtain ⟨l, ob, h1, h2, h3⟩ := hr.heap b o h
    refine ⟨l, ob, h1, ?_, h3⟩
    have hlt : l.c < w.heap.size := (Array.getElem?_eq_some_iff.1 h2).1
    rw [ho.block _ hlt]
    exact h2, hr.inj⟩
  frame c hc _ := ho.block c hc
  size := ho.size
  wsub _ h := .inl h
  lsub _ h := .inl h
  tape := ho.tape
  os := ho.os
  output := ho.output

/-- .. and one block is new -/
theorem trans_of_new {E : Env} {ρ : Emb} {M : Mem} {w w' : World} {ob : AObj} {obj : Obj} {l : Loc} (hr : Rel E ρ M w) (hf : Free ρ M (M.add ob)) (h : Old w w') (hg : w'.heap[l.c]? = some obj) (hge : w.heap.size ≤ l.c)
    (hrel : ob.rel (ρ.with M.next l) l obj) : Trans E ρ M w (ρ.with M.next l) (M.add ob) w' := by
  have hn : ρ M.next = none := hf M.next (Nat.le_refl _) (by simp [Mem.add])
  have hle := Emb.with_le (l := l) hn
  have hlt {c : Nat} {o : Obj} (h : w.heap[c]? = some o) : c < w.heap.size := (Array.getElem?_eq_some_iff.1 h).1
  refine ⟨by simp [Mem.add], fun b hb => ?_, ⟨fun g hg => ?_, ?_, ?_, ?_, ?_⟩, fun c hc _ => h.block c hc, h.size, ?_, ?_, h.tape, h.os, h.output⟩
  · unfold Emb.with
    have : b ≠ M.next := fun e => hb (by subst e; simp [Mem.add])
    simp [this]
  · obtain ⟨x, hx⟩ := hr.glob g hg
    exact ⟨x, hle _ _ hx⟩
  · have := hr.ngle; simp only [Mem.add]; omega
  · intro b o hb
    rw [Mem.get_add] at hb
    by_cases hbn : b = M.next
    · subst hbn; simp [Mem.add]
    · rw [if_neg hbn] at hb; have := hr.lt b o hb; simp only [Mem.add]; omega
  · intro b o hb
    rw [Mem.get_add] at hb
    by_cases hbn : b = M.next
    · rw [if_pos hbn] at hb
      injection hb with hb
      subst hb; subst hbn
      exact ⟨_, obj, by simp [Emb.with], hg, hrel⟩
    · rw [if_neg hbn] at hb
      obtain ⟨l', o', h1, h2, h3⟩ := hr.heap b o hb
      exact ⟨l', o', hle _ _ h1, by rw [h.block _ (hlt h2)]; exact h2, AObj.rel_mono hle h3⟩
  · intro b b' o o' l1 l2 hb hb' hl hl' hc
    rw [Mem.get_add] at hb hb'
    unfold Emb.with at hl hl'
    by_cases hbn : b = M.next <;> by_cases hbn' : b' = M.next
    · rw [hbn, hbn']
    · rw [if_pos hbn] at hl; rw [if_neg hbn'] at hb' hl'
      injection hl with hl
      subst hl
      obtain ⟨l2, o2, h1, h2, _⟩ := hr.heap b' o' hb'
      rw [hl'] at h1
      injection h1 with h1
      subst h1
      have := hlt h2
      omega
    · rw [if_pos hbn'] at hl'; rw [if_neg hbn] at hb hl
      injection hl' with hl'
      subst hl'
      obtain ⟨l2, o2, h1, h2, _⟩ := hr.heap b o hb
      rw [hl] at h1
      injection h1 with h1
      subst h1
      have := hlt h2
      omega
    · rw [if_neg hbn] at hb hl; rw [if_neg hbn'] at hb' hl'
      exact hr.inj b b' o o' l1 l2 hb hb' hl hl' hc
  · rintro c ⟨b, o, l', hb, hw, hl, hc⟩
    rw [Mem.get_add] at hb
    unfold Emb.with at hl
    by_cases hbn : b = M.next
    · rw [if_pos hbn] at hl; injection hl with hl; subst hl; right; omega
    · rw [if_neg hbn] at hb hl
      exact .inl ⟨b, o, l', hb, hw, hl, hc⟩
  · rintro c ⟨b, o, l', hb, hl, hc⟩
    rw [Mem.get_add] at hb
    unfold Emb.with at hl
    by_cases hbn : b = M.next
    · rw [if_pos hbn] at hl; injection hl with hl; subst hl; right; omega
    · rw [if_neg hbn] at hb hl
      exact .inl ⟨b, o, l', hb, hl, hc⟩

/-! slices.AppendSeq(nil, maps.Keys(m)), where m has one key at most -/

structure SeqN where
  app : Nat
  keys1 : Nat
  strT : Nat

def seqKeys (g : Nat → Option AObj) (m : Nat) : Option (List (List Nat)) :=
  match g m with
  | some (.map [] _) => some []
  | some (.map [e] k) => match e.key with
    | .str s => bif Nat.ble s.length 1000000 && Nat.blt e.born k then some [s] else none
    | _ => none
  | _ => none

def seqMap (g : Nat → Option AObj) (b : Nat) : Option Nat :=
  match g b with
  | some (.cells [.map (some m)] _ none _) => some m
  | _ => none

def seqBox (K : SeqN) (args : List AVal) : Option Nat :=
  match args with
  | [.slice none 0 0 _, .func (.func f) [] [.ptr (some (b, 0))]] => bif Nat.beq f K.keys1 then some b else none
  | _ => none

def seqOn (K : SeqN) : CallF := fun f args M => bif Nat.beq f K.app then
    match seqBox K args with
    | some b => match seqMap M.get b with
      | some m => match seqKeys M.get m with
        | some [] => some (.slice none 0 0 false, M)
        | some (s :: _) => some (.slice (some (M.next, 0)) 1 1 true, M.add (.cells [.str s] K.strT (some 1) false))
        | none => none
      | none => none
    | none => none
  else none

noncomputable def seqK (K : SeqN) : CallKT := fun f args m κ => bsel (Nat.beq f K.app)
    (match seqBox K args with
    | some b => match seqMap (hget m.heap) b with
      | some mm => match seqKeys (hget m.heap) mm with
        | some [] => κ (.slice none 0 0 false) m
        | some (s :: _) => bsel (Nat.blt m.next 4096) (κ (.slice (some (m.next, 0)) 1 1 true) ⟨hput m.heap m.next (some (.cells [.str s] K.strT (some 1) false)), Nat.succ m.next⟩) false
        | none => false
      | none => false
    | none => false) false

theorem seqK_ok (K : SeqN) : CallSim (seqOn K) (seqK K) := fun f args m M κ hm hq => by
  unfold seqK at hq
  unfold seqOn
  cases hf : Nat.beq f K.app with
  | false => rw [hf] at hq; cases hq
  | true =>
    rw [hf, bsel_true] at hq
    simp only [cond_true]
    rw [hm.get] at hq
    cases h1 : seqBox K args with
    | none => simp [h1] at hq
    | some b =>
      simp only [h1] at hq ⊢
      cases h2 : seqMap M.get b with
      | none => simp [h2] at hq
      | some mm =>
        simp only [h2] at hq ⊢
        cases h3 : seqKeys M.get mm with
        | none => simp [h3] at hq
        | some ks =>
          cases ks with
          | nil => simp only [h3] at hq ⊢; exact ⟨_, M, m, rfl, hm, hq⟩
          | cons s t =>
            simp only [h3] at hq ⊢
            cases hb : Nat.blt m.next 4096 with
            | false => rw [hb] at hq; cases hq
            | true =>
              rw [hb, bsel_true, hm.next] at hq
              rw [hm.next] at hb
              have hadd := hm.add (by rw [hm.next]; exact of_blt hb) (.cells [.str s] K.strT (some 1) false)
              rw [hm.next] at hadd
              exact ⟨_, _, _, rfl, hadd, hq⟩

theorem seqBox_some {K : SeqN} {args : List AVal} {b : Nat} (h : seqBox K args = some b) : ∃ o, args = [.slice none 0 0 o, .func (.func K.keys1) [] [.ptr (some (b, 0))]] := by
  unfold seqBox at h
  split at h
  · rename_i o f b'
    cases hf : Nat.beq f K.keys1 with
    | false => rw [hf] at h; cases h
    | true =>
      rw [hf, cond_true] at h
      injection h with h
      subst h
      have := of_beq hf
      subst this
      exact ⟨o, rfl⟩
  · cases h

theorem seqMap_some {g : Nat → Option AObj} {b m : Nat} (h : seqMap g b = some m) : ∃ t ro, g b = some (.cells [.map (some m)] t none ro) := by
  unfold seqMap at h
  split at h
  · rename_i m' t ro hg
    injection h with h
    subst h
    exact ⟨_, _, hg⟩
  · cases h

theorem seqKeys_some {g : Nat → Option AObj} {m : Nat} {ks : List (List Nat)} (h : seqKeys g m = some ks) :
    (ks = [] ∧ ∃ k, g m = some (.map [] k)) ∨ ∃ s e k, ks = [s] ∧ g m = some (.map [e] k) ∧ e.key = .str s ∧ s.length ≤ 1000000 ∧ e.born < k := by
  unfold seqKeys at h
  split at h
  · rename_i k hg
    injection h with h
    exact .inl ⟨h.symm, k, hg⟩
  · rename_i e k hg
    split at h
    · rename_i s hs
      cases hb : Nat.ble s.length 1000000 && Nat.blt e.born k with
      | false => rw [hb] at h; cases h
      | true =>
        rw [hb, cond_true] at h
        injection h with h
        simp only [Bool.and_eq_true] at hb
        exact .inr ⟨s, e, k, h.symm, hg, hs, of_ble hb.1, of_blt hb.2⟩
    · cases h
  · cases h

theorem bytes_of_nat {a b : List UInt8} (h : a.map UInt8.toNat = b.map UInt8.toNat) : a = b := by
  induction a generalizing b with
  | nil => cases b with
    | nil => rfl
    | cons y ys => simp at h
  | cons x xs ih => cases b with
    | nil => simp at h
    | cons y ys =>
      simp only [List.map_cons, List.cons.injEq] at h
      rw [UInt8.toNat_inj.1 h.1, ih h.2]

theorem seqOn_ok {E : Env} {P : Program} {ρn : Ren} (L10 : SlLaysZ.n10 P ρn) (L11 : SlLaysZ.n11 P ρn) {K : SeqN} (ha : K.app = ρn.f 11) (hk : K.keys1 = ρn.f 10) (ht : K.strT = ρn.t 26) : CallOk E P (seqOn K) := by
  intro f args M v M' h
  unfold seqOn at h
  cases hf : Nat.beq f K.app with
  | false => rw [hf] at h; cases h
  | true =>
    rw [hf, cond_true] at h
    have hfe := of_beq hf
    subst hfe
    cases h1 : seqBox K args with
    | none => simp [h1] at h
    | some b =>
      simp only [h1] at h
      cases h2 : seqMap M.get b with
      | none => simp [h2] at h
      | some m =>
        simp only [h2] at h
        cases h3 : seqKeys M.get m with
        | none => simp [h3] at h
        | some ks =>
          simp only [h3] at h
          obtain ⟨o, rfl⟩ := seqBox_some h1
          obtain ⟨tb, ro, hgb⟩ := seqMap_some h2
          have hgrow : Grow M M' := by
            split at h
            · rename_i hq; injection h with h; injection h with _ h; subst h; exact Grow.refl M
            · rename_i hq; injection h with h; injection h with _ h; subst h
              refine ⟨by simp [Mem.add], fun hw b o hb => ?_⟩
              rw [Mem.get_add] at hb
              by_cases hbn : b = M.next
              · subst hbn; simp [Mem.add]
              · rw [if_neg hbn] at hb; have := hw b o hb; simp only [Mem.add]; omega
            · rename_i hq; cases hq
          refine ⟨hgrow, fun ρ w args' hr hargs hfree => ?_⟩
          -- the arguments
          simp only [relL] at hargs
          obtain ⟨y1, l1, e1, r1, y2, l2, rfl, r2, rfl⟩ := hargs
          have hargs' : args' = #[y1, y2] := by apply Array.ext'; simpa using e1
          subst hargs'
          simp only [AVal.rel, relL] at r1 r2
          obtain ⟨fx, fy, rfl, q1, y3, l3, q2, ⟨lb, hlb, rfl⟩, rfl⟩ := r2
          have hfx : fx = #[] := by apply Array.ext'; simpa using q1
          have hfy : fy = #[.pointer (some ⟨lb.c, lb.sh + 0, none⟩)] := by apply Array.ext'; simpa using q2
          subst hfx; subst hfy; subst r1
          -- the box
          obtain ⟨lb', ob, g1, g2, g3⟩ := hr.heap b _ hgb
          rw [hlb] at g1; injection g1 with g1; subst g1
          obtain ⟨cb, fr, rfl, k1, k2, _, _, k5⟩ := g3
          have hsh := k5 rfl
          obtain ⟨yb, hyb, ryb⟩ := k2 0 (.map (some m)) rfl
          simp only [AVal.rel] at ryb
          obtain ⟨lm, hlm, rfl⟩ := ryb
          have hcell : w.cell? ⟨lb.c, 0, none⟩ = some (.map (some lm.c)) := by
            unfold World.cell?
            rw [hsh] at hyb
            simp only [g2]
            simpa using hyb
          have hblt : lb.c < w.heap.size := (Array.getElem?_eq_some_iff.1 g2).1
          -- the map
          obtain ⟨es, k, hgm, hes⟩ : ∃ es k, M.get m = some (.map es k) ∧ ((ks = [] ∧ es = []) ∨ ∃ s e, ks = [s] ∧ es = [e] ∧ e.key = .str s ∧ s.length ≤ 1000000 ∧ e.born < k) := by
            rcases seqKeys_some h3 with ⟨a, k, c⟩ | ⟨s, e, k, a, c, d⟩
            · exact ⟨[], k, c, .inl ⟨a, rfl⟩⟩
            · exact ⟨[e], k, c, .inr ⟨s, e, a, rfl, d⟩⟩
          obtain ⟨lm', om, m1, m2, m3⟩ := hr.heap m _ hgm
          rw [hlm] at m1; injection m1 with m1; subst m1
          obtain ⟨es', rfl, m4⟩ := m3
          let R : Value → Option (DataW Unit × List MemPlace) := fun _ => some (.lit (.bool true), [])
          obtain ⟨D0, hown, hD⟩ : ∃ D0 : DataW Unit, w.ownsMap P (ρn.t 26) R lm.c 1 D0 ∧ Maps.size D0 ≤ 1 ∧ (strKeys D0).map (List.map UInt8.toNat) = ks := by
            rcases hes with ⟨rfl, rfl⟩ | ⟨s, e, rfl, rfl, hs1, hs2, hs3⟩
            · simp only [relEs] at m4
              refine ⟨_, ⟨es', k, m2, ⟨by simp [← Array.length_toList, m4], ⟨by simp [m4], by simp [m4], by simp [m4]⟩, by simp [m4]⟩, by simp [← Array.length_toList, m4], rfl⟩, ?_, ?_⟩
              · simp [m4, Maps.size]
              · simp [m4, strKeys]
            · simp only [relEs] at m4
              obtain ⟨y, ys, m5, ⟨n1, n2, n3⟩, rfl⟩ := m4
              rw [hs1] at n1
              simp only [AVal.rel] at n1
              obtain ⟨bs, hbs, rfl⟩ := n1
              have hlen : bs.size ≤ maxLen := by
                have : (bytesNat bs).length = bs.size := by simp [bytesNat]
                unfold maxLen
                omega
              have hkey : keyOf P (ρn.t 26) y.key = some (.string bs.data.toList) := by rw [hbs]; exact WideMaps.keyOf_string_mk L10.t26 hlen
              have hrd : WideElems.rd P (ρn.t 26) R y = some (.string bs.data.toList, .lit (.bool true)) := WideElems.rd_mk (born := y.born) (key := y.key) (val := y.val) (R := R) (yv := (.lit (.bool true), [])) hkey rfl
              have hrg : WideElems.rg P (ρn.t 26) R y = (.string bs.data.toList, .lit (.bool true)) := WideElems.rg_of hrd
              refine ⟨_, ⟨es', k, m2, ⟨by simp [← Array.length_toList, m5, maxLen], ⟨by simp [m5, ← n3, hs3], by simp [m5], by simp [m5]⟩, by simp [m5, hrd]⟩, by simp [← Array.length_toList, m5], rfl⟩, ?_, ?_⟩
              · simp [m5, Maps.size, DataW.insert]
              · simp [m5, strKeys, DataW.insert, hrg, strOf, bytesNat]
          have hseq : SeqGives Fence.wide (5 - 1) P (ρn.f 10) #[.pointer (some ⟨lb.c, 0, none⟩)] encStr (fun ss => ss.Perm (strKeys D0)) (Maps.size D0) w :=
            AnyZ.keys_gives L10 Fence.wide _ trivial rfl (by omega) lb.c lm.c 1 D0 w hblt hcell hown
          have cS := AnyZ.appendSeq_in L11 Fence.wide 5 trivial rfl (by omega) (ρn.f 10) #[.pointer (some ⟨lb.c, 0, none⟩)] trivial (L10.f10.enters rfl) _ _ (by unfold maxLen; omega) (by omega) w hseq
          have cS' := callsIn_wide.1 cS
          rw [← ha, ← hk] at cS'
          rw [hsh, Nat.zero_add]
          refine cS'.mono ?_
          rintro e w' ⟨v', ss, rfl, hS, hrow, hnil, hb⟩
          have hlen : ss.length = (strKeys D0).length := hS.length_eq
          rcases hes with ⟨rfl, rfl⟩ | ⟨s, e, rfl, rfl, hs1, hs2, hs3⟩
          · simp only [Option.some.injEq, Prod.mk.injEq] at h
            obtain ⟨rfl, rfl⟩ := h
            have : strKeys D0 = [] := by simpa using hD.2
            rw [this] at hS
            have hss : ss = [] := by simpa using hS
            exact ⟨v', ρ, rfl, by rw [hnil.2 hss]; simp [AVal.rel], trans_of_old hr hb⟩
          · simp only [Option.some.injEq, Prod.mk.injEq] at h
            obtain ⟨rfl, rfl⟩ := h
            obtain ⟨bs, hbs⟩ : ∃ bs, strKeys D0 = [bs] := by
              have := congrArg List.length hD.2
              simp at this
              exact List.length_eq_one_iff.1 this
            rw [hbs] at hS hD
            have hss : ss = [bs] := by simpa using hS
            subst hss
            have hsb : bs.map UInt8.toNat = s := by simpa using hD.2
            rcases hrow.2 with ⟨hv, hz⟩ | ⟨gb, cap, cur, rfl, hbase, hgb', r1, r2, r3, r4⟩
            · simp at hz
            · refine ⟨_, ρ.with M.next ⟨gb, 0, cap - 1, dv⟩, rfl, ?_, trans_of_new hr hfree hb (l := ⟨gb, 0, cap - 1, dv⟩) hgb' hbase ?_⟩
              · simp only [AVal.rel]
                refine ⟨⟨gb, 0, cap - 1, dv⟩, by simp [Emb.with], ?_⟩
                simp at r1
                simp; omega
              · rw [ht]
                simp at r1
                refine ⟨cur, (0, 0), rfl, by simp; omega, fun i x hx => ?_, (fun _ => .inl rfl), (fun sz hsz => ?_), fun hq => by cases hq⟩
                · cases i with
                  | succ i => simp at hx
                  | zero =>
                    simp at hx
                    subst hx
                    have h0 : cur.toList.take 1 = [encStr bs] := by simpa using r4
                    have h1 : cur[0]? = some (encStr bs) := by
                      have := congrArg (fun l => l[0]?) h0
                      simpa using this
                    refine ⟨encStr bs, by simpa using h1, ?_⟩
                    simp only [AVal.rel]
                    exact ⟨⟨bs.toArray⟩, rfl, by simp [bytesNat, hsb]⟩
                · injection hsz with hsz
                  subst hsz
                  simp; omega

end Go.Ev
