/- A part of the proof that an evaluator of the machine's code is sound (EvStart). No conditions. -/
import Derived.Test.YtnklododmdplmaaGreatDoorEvEnv
import Derived.Lib.LaidTab
import Derived.ChangeSame
import Derived.Carry
namespace Go.Ev

/-- the memory in which a run begins: tables of the program -/
def startM (ng : Nat) : List (Nat × List AVal × Nat) → Mem
  | [] => ⟨.nil, ng⟩
  | x :: l => (startM ng l).put x.1 (.cells x.2.1 x.2.2 none true)

noncomputable def startK (ng : Nat) : List (Nat × List AVal × Nat) → MK
  | [] => ⟨h0, ng⟩
  | x :: l => ⟨hput (startK ng l).heap x.1 (some (.cells x.2.1 x.2.2 none true)), (startK ng l).next⟩

theorem h0_get (b : Nat) : hget h0 b = none := by
  have hl {α : Type} (d : Nat) (x : α) : (lens α d).g (fill8 x) = x := by
    rcases d with _ | _ | _ | _ | _ | _ | _ | _ <;> rfl
  unfold hget
  cases Nat.ble b 4095 with
  | false => rfl
  | true => simp only [bsel_true, h0, hl]

theorem start_next (ng : Nat) : ∀ l, (startM ng l).next = ng
  | [] => rfl
  | _ :: l => start_next ng l

theorem start_sim (ng : Nat) : ∀ l : List (Nat × List AVal × Nat), (∀ x ∈ l, x.1 < 4096) → SimM (startK ng l) (startM ng l)
  | [], _ => ⟨rfl, funext fun b => by rw [show (startK ng []).heap = h0 from rfl, h0_get]; simp [startM, Mem.get, Trie.get_nil]⟩
  | x :: l, h => (start_sim ng l fun y hy => h y (List.mem_cons_of_mem _ hy)).put (h x (List.mem_cons_self ..)) _

theorem start_get {ng : Nat} : ∀ {l : List (Nat × List AVal × Nat)} {b : Nat} {o : AObj}, (startM ng l).get b = some o → ∃ x ∈ l, x.1 = b ∧ o = .cells x.2.1 x.2.2 none true
  | [], b, o, h => by simp [startM, Mem.get, Trie.get_nil] at h
  | x :: l, b, o, h => by
    simp only [startM, Mem.get_put] at h
    split at h
    · rename_i hb
      injection h with h
      exact ⟨x, List.mem_cons_self .., hb.symm, h.symm⟩
    · obtain ⟨y, hy, h1, h2⟩ := start_get h
      exact ⟨y, List.mem_cons_of_mem _ hy, h1, h2⟩

/-- where the globals lie -/
def startE (ng : Nat) (vs : List Value) : Emb := fun b => if b < ng then some ⟨b, 0, 0, dv⟩ else match vs[b - ng]? with
  | some v => some ⟨0, 0, 0, v⟩
  | none => none

def tabV (k : IntKind) (zs : List Int) : List AVal := zs.map (AVal.int k)

/-- a table of numbers in the world -/
def TabAt (W : World) (g t : Nat) (k : IntKind) (zs : List Int) : Prop := W.heap[g]? = some (.cells (zs.map (Value.int k)).toArray t)

theorem relL_tab (ρ : Emb) (k : IntKind) : ∀ zs : List Int, relL ρ (tabV k zs) (zs.map (Value.int k))
  | [] => relL_nil
  | z :: zs => relL_cons.2 ⟨by simp [AVal.rel], relL_tab ρ k zs⟩

theorem start_relG {E : Env} {W : World} {vs : List Value} {l : List (Nat × List AVal × Nat)} (hlt : ∀ x ∈ l, x.1 < E.ng) (hl : ∀ x ∈ l, ∃ (us : List Value) (fr : Nat × Nat), relL (startE E.ng vs) x.2.1 us ∧ W.heap[x.1]? = some (.cells us.toArray x.2.2 fr)) : Rel E (startE E.ng vs) (startM (E.ng + vs.length) l) W where
  glob g hg := ⟨0, by simp [startE, hg]⟩
  ngle := by rw [start_next]; omega
  lt b o h := by
    obtain ⟨x, hx, rfl, _⟩ := start_get h
    rw [start_next]
    have := hlt x hx
    omega
  heap b o h := by
    obtain ⟨x, hx, rfl, rfl⟩ := start_get h
    obtain ⟨us, fr, h1, h2⟩ := hl x hx
    refine ⟨⟨x.1, 0, 0, dv⟩, _, by simp [startE, hlt x hx], h2, ?_⟩
    have hlen := relL_length h1
    refine ⟨_, fr, rfl, by simp [hlen], fun i a ha => ?_, (fun h => by cases h), (fun s hs => by cases hs), fun _ => rfl⟩
    obtain ⟨v, hv, hr⟩ := relL_get h1 i a ha
    exact ⟨v, by simpa using hv, hr⟩
  inj b b' o o' l1 l2 h h' e e' hc := by
    obtain ⟨x, hx, rfl, _⟩ := start_get h
    obtain ⟨y, hy, rfl, _⟩ := start_get h'
    simp only [startE, hlt x hx, hlt y hy, if_true, Option.some.injEq] at e e'
    subst e; subst e'
    exact hc

theorem start_rel {E : Env} {W : World} {vs : List Value} {l : List (Nat × List AVal × Nat)} (hlt : ∀ x ∈ l, x.1 < E.ng) (hl : ∀ x ∈ l, ∃ k zs, x.2.1 = tabV k zs ∧ TabAt W x.1 x.2.2 k zs) : Rel E (startE E.ng vs) (startM (E.ng + vs.length) l) W :=
  start_relG hlt fun x hx => by
    obtain ⟨k, zs, h1, h2⟩ := hl x hx
    exact ⟨_, (0, 0), by rw [h1]; exact relL_tab _ k zs, h2⟩

theorem start_free (ng : Nat) (vs : List Value) (l : List (Nat × List AVal × Nat)) (M' : Mem) : Free (startE ng vs) (startM (ng + vs.length) l) M' := by
  intro b h1 _
  rw [start_next] at h1
  simp only [startE]
  rw [if_neg (by omega), List.getElem?_eq_none (by omega)]

theorem start_wr (ρ : Emb) (nx : Nat) (l : List (Nat × List AVal × Nat)) (c : Nat) : ¬ Wr ρ (startM nx l) c := by
  rintro ⟨b, o, _, h, hw, _⟩
  obtain ⟨x, _, _, rfl⟩ := start_get h
  simp [AObj.wr] at hw

theorem slot {ng : Nat} {vs : List Value} {i : Nat} {v : Value} (h : vs[i]? = some v) : startE ng vs (ng + i) = some ⟨0, 0, 0, v⟩ := by
  simp only [startE]
  rw [if_neg (by omega), show ng + i - ng = i by omega, h]

/-- Nothing of old is changed. -/
abbrev Old (W W' : World) : Prop := RowKit.Below W.heap.size W W'

theorem old_kept {W W' : World} (h : Old W W') (may : MemPlace → Prop) : W.keptBut W' may := by
  refine ⟨h.os, h.output, fun i hi => ?_⟩
  rw [h.block i hi]
  cases hq : W.heap[i]? with
  | none => rfl
  | some o =>
    cases o with
    | cells c t fr => exact ⟨rfl, rfl, rfl, fun _ _ => rfl⟩
    | map es ck => exact .inr ⟨rfl, rfl⟩
    | _ => rfl

theorem old_frozen {W W' : World} (h : Old W W') (a : Addr) (ha : a.block < W.heap.size) : W'.frozen? a = W.frozen? a := by
  unfold World.frozen?
  rw [h.block _ ha]

theorem old_of_trans {E : Env} {W W' : World} {l : List (Nat × List AVal × Nat)} {ρ' : Emb} {M' : Mem} {ρ : Emb} {nx : Nat} (h : Trans E ρ (startM nx l) W ρ' M' W') : Old W W' :=
  ⟨h.os, h.tape, h.output, h.size, fun c hc => h.frame c hc (start_wr _ _ _ c)⟩

/-- A run that K takes. -/
theorem run_closed {E : Env} {P : Program} (ok : EnvOk E P) {W : World} {vs : List Value} {l : List (Nat × List AVal × Nat)} (hlt : ∀ x ∈ l, x.1 < E.ng) (hng : ∀ x ∈ l, x.1 < 4096) (hl : ∀ x ∈ l, ∃ k zs, x.2.1 = tabV k zs ∧ TabAt W x.1 x.2.2 k zs)
    {fuel d f : Nat} {args : List AVal} {args' : Array Value} {κ : AVal → MK → Bool} (ha : relL (startE E.ng vs) args args'.toList) (h : callK E fuel d f args (startK (E.ng + vs.length) l) κ = true) :
    Calls P f args' W fun e W' => ∃ v v' ρ' m', e = .returned v' ∧ v.rel ρ' v' ∧ κ v m' = true ∧ Old W W' := by
  obtain ⟨v, M', m', h1, _, h3⟩ := callK_ok fuel d f args _ _ κ (start_sim (E.ng + vs.length) l hng) h
  have hc := (callE_ok ok fuel d f args _ v M' h1).2 (startE E.ng vs) W args' (start_rel hlt hl) ha (start_free _ _ _ _)
  refine hc.mono fun e W' ⟨v', ρ', he, hv, ht⟩ => ⟨v, v', ρ', m', he, hv, h3, old_of_trans ht⟩

/-- The whole statement behind a call that changes nothing of old. -/
theorem post_of_old {H : Type} {enc : TypeId × Value → H} {P : Program} {f : Func} {s : ChangeSpec} {apart fresh handsOn again : Bool} {W W' : World} {args : Array Value} {v : Value} {ds gs : List (DataW H)} {before pa pv : List MemPlace}
    (hW : DataW.Whole enc P f.params.toList s.vars apart W args.toList ds gs before)
    (hres : ∀ (b : Nat) (sp : Nat → Bool) (hd : Bool), DataW.TrodAll enc P W' b sp hd f.resultTypes.toList (v.resultList f.resultTypes.size) (s.fn H (ds ++ gs)).results [])
    (hargs : ∀ sp : Nat → Bool, (∀ p ∈ before, sp p.block = true) → DataW.TrodAll enc P W' 0 sp true f.params.toList args.toList (s.fn H (ds ++ gs)).args pa)
    (hvars : ∀ sp : Nat → Bool, (∀ p ∈ before, sp p.block = true) → DataW.TrodVars enc P W' sp s.vars (s.fn H (ds ++ gs)).vars pv)
    (hps : before = pa ++ pv) (ho : Old W W')
    (hok : ∀ (j : Nat) (t : TypeId) (r : Value), f.resultTypes[j]? = some t → (v.resultList f.resultTypes.size)[j]? = some r → Value.okWide P W' .any 0 t r) :
    s.post enc P f apart fresh handsOn again W args v W' := by
  have hlt := hW.lt
  have hold : ∀ p ∈ before, (fun b => decide (b < W.heap.size)) p.block = true := fun p hp => by simpa using hlt p hp
  refine ⟨ds, gs, before, [], pa, pv, hW, hres _ _ _, hargs _ hold, hvars _ hold, old_kept ho _, fun _ => ?_⟩
  obtain ⟨_, _, _, _, _, hz, hn⟩ := hW
  refine ⟨hok, _, _, ([] ++ pa) ++ pv, ⟨[] ++ pa, pv, ChangeShapes.trodAll_append (hargs _ (fun _ _ => rfl)) (hres _ _ _), hvars _ (fun _ _ => rfl), rfl, ?_, ?_⟩, ?_⟩
  · intro b off hp
    have hb : MemPlace.cell b off ∈ before := by rw [hps]; simpa using hp
    rw [old_frozen ho _ (hlt _ hb)]
    exact hz b off hb
  · intro ha
    have := hn ha
    rw [hps] at this
    simpa using this
  · intro p hp _
    rw [hps]
    simpa using hp

end Go.Ev
