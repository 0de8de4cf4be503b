/- The environment in which the laws of 'jacquardlaw26' are run by the evaluator, and what its hooks rest on. No conditions. -/
import Derived.Test.YtnklododmdplmaaGreatDoorProg
import Derived.Test.YtnklododmdplmaaGreatDoorEndKit
import Derived.KernelRfl
namespace Go.Proofs.YtnklododmdplmaaGreatDoor.ends
open Go.Ev Go.Shelf

noncomputable def tT : Trie TypeInfo := ofL 11 Tryz.prog.types.toList
noncomputable def tF : Trie Func := ofL 11 Tryz.prog.funcs.toList
def exts : List (Nat × Ext) := [(591, .indexByte), (549, .count)]
def R : RefT := ⟨19, 275, [(144, 25), (142, 22), (140, 22), (138, 20)], [(142, 140), (140, 144)], [(138, 140)]⟩
def refs : List (Nat × RefOp) := [(63, .valueOf), (64, .vType), (65, .isNil), (110, .vElem), (111, .vSet), (109, .typeOf), (631, .kind), (645, .rElem), (646, .implements), (643, .assignable)]

noncomputable def env0 : Env := envOf tT tF 20 exts [33] [] [] noRef
noncomputable def env : Env := envOf tT tF 20 exts [33] [142, 231] refs R

theorem ext_ok : ∀ p ∈ exts, ExtOk Tryz.prog p.1 p.2 := fun p hp => by
  simp only [exts, List.mem_cons, List.mem_nil_iff, or_false] at hp
  rcases hp with rfl | rfl
  · exact extOk_indexByte Tryz.func591 (by kernel_rfl) (by kernel_rfl) (by kernel_rfl) (by kernel_rfl)
  · exact extOk_count Tryz.func549 (by kernel_rfl) (by kernel_rfl) (by kernel_rfl) (by kernel_rfl)
theorem eqs_ok : ∀ t ∈ [33], Tryz.prog.eqGuardType Tryz.prog.depth t = false ∧ Tryz.prog.stoodInHeld t = false := fun t ht => by
  simp only [List.mem_cons, List.mem_nil_iff, or_false] at ht
  rcases ht with rfl
  exact ⟨by kernel_rfl, by kernel_rfl⟩
theorem mixed : Tryz.prog.follows .mixedOrders = true := by kernel_rfl
theorem noNum : Tryz.prog.funcs.toList.all (fun fn => !(fn.name == "runtime.NumGoroutine")) = true := by kernel_rfl

theorem env0_ok : EnvOk env0 Tryz.prog := envOf_ok mixed noNum ext_ok eqs_ok (fun g hg => by cases hg) (fun p hp => by cases hp) (fun h => absurd rfl h)

set_option maxRecDepth 100000 in
theorem quietAll (args : Array Value) (w : World) : CallsD Tryz.prog 142 args .returning w fun e u' w' => (∃ v, e = .returned v) ∧ u' = .returning ∧ w' = w :=
  quiet_of_shape env0_ok Tryz.func142 rfl rfl rfl rfl rfl rfl rfl rfl rfl rfl rfl rfl rfl rfl rfl (show env0.under 20 = some (.interface #[]) by kernel_rfl) rfl (by decide) (by decide) (by decide) (by decide) args w
set_option maxRecDepth 100000 in
theorem quietSplit (args : Array Value) (w : World) : CallsD Tryz.prog 231 args .returning w fun e u' w' => (∃ v, e = .returned v) ∧ u' = .returning ∧ w' = w :=
  quiet_of_shape env0_ok Tryz.func231 rfl rfl rfl rfl rfl rfl rfl rfl rfl rfl rfl rfl rfl rfl rfl (show env0.under 20 = some (.interface #[]) by kernel_rfl) rfl (by decide) (by decide) (by decide) (by decide) args w

theorem quiet_ok : ∀ g ∈ [142, 231], ∀ (args : Array Value) (w : World), CallsD Tryz.prog g args .returning w fun e u' w' => (∃ v, e = .returned v) ∧ u' = .returning ∧ w' = w := fun g hg => by
  simp only [List.mem_cons, List.mem_nil_iff, or_false] at hg
  rcases hg with rfl | rfl
  · exact quietAll
  · exact quietSplit

theorem rt_ok (w : World) : (cutType "internal/reflectlite.rtype").run Tryz.prog w = .ok 275 w := by kernel_rfl
theorem kindF (w : World) : (Extern.Rtype.kind 144).run Tryz.prog w = .ok 25 w := by kernel_rfl
theorem kindPP (w : World) : (Extern.Rtype.kind 142).run Tryz.prog w = .ok 22 w := by kernel_rfl
theorem kindP (w : World) : (Extern.Rtype.kind 140).run Tryz.prog w = .ok 22 w := by kernel_rfl
theorem kindE (w : World) : (Extern.Rtype.kind 138).run Tryz.prog w = .ok 20 w := by kernel_rfl
theorem elemPP (w : World) : (Extern.Rtype.elem? 142).run Tryz.prog w = .ok (some 140) w := by kernel_rfl
theorem elemP (w : World) : (Extern.Rtype.elem? 140).run Tryz.prog w = .ok (some 144) w := by kernel_rfl
theorem samePP (w : World) : (Extern.Rtype.implements 142 142).run Tryz.prog w = .ok false w := by kernel_rfl
theorem sameP (w : World) : (Extern.Rtype.implements 140 140).run Tryz.prog w = .ok false w := by kernel_rfl
theorem impl (w : World) : (Extern.ReflectliteType.implements_ 138 140).run Tryz.prog w = .ok true w := by kernel_rfl
theorem packF : Tryz.prog.packed 144 = false := by kernel_rfl
theorem packPP : Tryz.prog.packed 142 = false := by kernel_rfl
theorem packP : Tryz.prog.packed 140 = false := by kernel_rfl
theorem packE : Tryz.prog.packed 138 = false := by kernel_rfl

theorem ref_ok : RefOk env Tryz.prog R where
  g := by kernel_rfl
  lt := show (19 : Nat) < 20 by decide
  rt := rt_ok
  kinds t k h := by
    have := lookN_mem h
    simp only [R, List.mem_cons, Prod.mk.injEq, List.not_mem_nil, or_false] at this
    rcases this with ⟨rfl, rfl⟩ | ⟨rfl, rfl⟩ | ⟨rfl, rfl⟩ | ⟨rfl, rfl⟩
    · exact kindF
    · exact kindPP
    · exact kindP
    · exact kindE
  plain t k h := by
    have := lookN_mem h
    simp only [R, List.mem_cons, Prod.mk.injEq, List.not_mem_nil, or_false] at this
    rcases this with ⟨rfl, rfl⟩ | ⟨rfl, rfl⟩ | ⟨rfl, rfl⟩ | ⟨rfl, rfl⟩
    · exact packF
    · exact packPP
    · exact packP
    · exact packE
  elems t k h := by
    have := lookN_mem h
    simp only [R, List.mem_cons, Prod.mk.injEq, List.not_mem_nil, or_false] at this
    rcases this with ⟨rfl, rfl⟩ | ⟨rfl, rfl⟩
    · exact elemPP
    · exact elemP
  same t k h := by
    have := lookN_mem h
    simp only [R, List.mem_cons, Prod.mk.injEq, List.not_mem_nil, or_false] at this
    rcases this with ⟨rfl, rfl⟩ | ⟨rfl, rfl⟩
    · exact samePP
    · exact sameP
  impls u t h := by
    have := hasN_mem h
    simp only [R, List.mem_cons, Prod.mk.injEq, List.not_mem_nil, or_false] at this
    obtain ⟨rfl, rfl⟩ := this
    exact impl

theorem refs_ok : ∀ p ∈ refs, ∀ (args : Array Value) (w w' : World) (v : Value), (refFn p.2 args).run Tryz.prog w = .ok v w' → (callFunc p.1 args).run Tryz.prog w = .ok (.value v) w' := fun p hp => by
  simp only [refs, List.mem_cons, List.mem_nil_iff, or_false] at hp
  rcases hp with rfl | rfl | rfl | rfl | rfl | rfl | rfl | rfl | rfl | rfl
  · exact ref_row Tryz.func63 (by kernel_rfl) (by kernel_rfl) (by kernel_rfl) (by kernel_rfl)
  · exact ref_row Tryz.func64 (by kernel_rfl) (by kernel_rfl) (by kernel_rfl) (by kernel_rfl)
  · exact ref_row Tryz.func65 (by kernel_rfl) (by kernel_rfl) (by kernel_rfl) (by kernel_rfl)
  · exact ref_row Tryz.func110 (by kernel_rfl) (by kernel_rfl) (by kernel_rfl) (by kernel_rfl)
  · exact ref_row Tryz.func111 (by kernel_rfl) (by kernel_rfl) (by kernel_rfl) (by kernel_rfl)
  · exact ref_row Tryz.func109 (by kernel_rfl) (by kernel_rfl) (by kernel_rfl) (by kernel_rfl)
  · exact ref_row Tryz.func631 (by kernel_rfl) (by kernel_rfl) (by kernel_rfl) (by kernel_rfl)
  · exact ref_row Tryz.func645 (by kernel_rfl) (by kernel_rfl) (by kernel_rfl) (by kernel_rfl)
  · exact ref_row Tryz.func646 (by kernel_rfl) (by kernel_rfl) (by kernel_rfl) (by kernel_rfl)
  · exact ref_row Tryz.func643 (by kernel_rfl) (by kernel_rfl) (by kernel_rfl) (by kernel_rfl)

theorem env_ok : EnvOk env Tryz.prog := envOf_ok mixed noNum ext_ok eqs_ok quiet_ok refs_ok (fun _ => ref_ok)

/-! slices.AppendSeq over maps.Keys -/

def K : SeqN := ⟨67, 41, 9⟩
def ren : Ren := { f := fun x => if x = 10 then 41 else 67, t := fun x => if x = 0 then 0 else if x = 3 then 3 else if x = 4 then 4 else if x = 23 then 57 else if x = 24 then 30 else if x = 26 then 9 else if x = 27 then 80 else if x = 28 then 81 else 151, g := fun x => x }

set_option maxRecDepth 100000 in
theorem lay10 : SlLaysZ.n10 Tryz.prog ren := {
  mixed := mixed
  f10 := ⟨"maps.Keys[map[string]int,string,int]$1", by kernel_rfl, by kernel_rfl⟩
  t0 := by kernel_rfl
  a0 := fun w => by kernel_rfl
  z0 := fun w => by kernel_rfl
  v0 := fun w => by kernel_rfl
  t4 := by kernel_rfl
  a4 := fun w => by kernel_rfl
  z4 := fun w => by kernel_rfl
  v4 := fun w => by kernel_rfl
  t23 := by kernel_rfl
  a23 := fun w => by kernel_rfl
  z23 := fun w => by kernel_rfl
  v23 := fun w => by kernel_rfl
  t26 := by kernel_rfl
  a26 := fun w => by kernel_rfl
  z26 := fun w => by kernel_rfl
  v26 := fun w => by kernel_rfl
  t33 := by kernel_rfl
  a33 := fun w => by kernel_rfl
  z33 := fun w => by kernel_rfl
  v33 := fun w => by kernel_rfl }

set_option maxRecDepth 100000 in
theorem lay11 : SlLaysZ.n11 Tryz.prog ren := {
  mixed := mixed
  f11 := ⟨"slices.AppendSeq[[]string,string]", by kernel_rfl, by kernel_rfl⟩
  t0 := by kernel_rfl
  a0 := fun w => by kernel_rfl
  z0 := fun w => by kernel_rfl
  v0 := fun w => by kernel_rfl
  t24 := by kernel_rfl
  a24 := fun w => by kernel_rfl
  z24 := fun w => by kernel_rfl
  v24 := fun w => by kernel_rfl
  t26 := by kernel_rfl
  a26 := fun w => by kernel_rfl
  z26 := fun w => by kernel_rfl
  v26 := fun w => by kernel_rfl
  t28 := by kernel_rfl
  a28 := fun w => by kernel_rfl
  z28 := fun w => by kernel_rfl
  v28 := fun w => by kernel_rfl
  i26 := by kernel_rfl }

theorem seq_ok : CallOk env Tryz.prog (seqOn K) := seqOn_ok lay10 lay11 rfl rfl rfl

/-! the start -/

def cells0 (τ : Nat) : List (Nat × List AVal × Nat) := [(0, [.iface 275 (.agg [.ptr (some (19, 138))])], τ)]
theorem cells0_lt (τ : Nat) : ∀ x ∈ cells0 τ, x.1 < env.ng := fun x hx => by
  obtain rfl := List.mem_singleton.1 hx
  exact show (0 : Nat) < 20 by decide
theorem cells0_lt2 (τ : Nat) : ∀ x ∈ cells0 τ, x.1 < 4096 := fun x hx => Nat.lt_trans (cells0_lt τ x hx) (show (20 : Nat) < 4096 by decide)

theorem rtOf : (Tryz.prog.cutTypes.find? (·.1 == "internal/reflectlite.rtype")).map (·.2) = some 275 := by kernel_rfl
theorem oneRow : ((List.range Tryz.prog.types.size).filter fun t => Tryz.prog.rowNamed t [101, 114, 114, 111, 114]) = [138] := by kernel_rfl
theorem errorAt : Tryz.prog.globalNamed "errors.errorType" = some 0 := by kernel_rfl
theorem handleIs : typeHandle Tryz.prog 138 = .pointer (some ⟨19, 138, none⟩) := by kernel_rfl

def errorData : DataW Unit := .iface "internal/reflectlite.rtype" (.agg [.ptr (.lit (.string [101, 114, 114, 111, 114]))])

theorem start_at {l : List (String × DataW Unit)} {W : World} (h : laidMetH Tryz.prog l W) (hf : (l.filter fun x => x.2.handleName?.isSome) = [("errors.errorType", errorData)]) (vs : List Value) :
    ∃ τ, ∀ x ∈ cells0 τ, ∃ (us : List Value) (fr : Nat × Nat), relL (startE env.ng vs) x.2.1 us ∧ W.heap[x.1]? = some (.cells us.toArray x.2.2 fr) := by
  obtain ⟨e, fr, hq⟩ := handle_at h hf rfl rfl rtOf oneRow errorAt
  rw [handleIs] at hq
  refine ⟨e, fun x hx => ?_⟩
  obtain rfl := List.mem_singleton.1 hx
  refine ⟨[.iface 275 (.agg #[.pointer (some ⟨19, 138, none⟩)])], fr, relL_cons.2 ⟨?_, relL_nil⟩, hq⟩
  refine (show (AVal.iface 275 (.agg [.ptr (some (19, 138))])).rel (startE env.ng vs) (.iface 275 (.agg #[.pointer (some ⟨19, 138, none⟩)])) from ?_)
  have hp : (AVal.ptr (some (19, 138))).rel (startE env.ng vs) (.pointer (some ⟨19, 138, none⟩)) := by
    simp only [AVal.rel]
    exact ⟨⟨19, 0, 0, dv⟩, if_pos (show (19 : Nat) < env.ng from show (19 : Nat) < 20 by decide), by simp⟩
  have ha : (AVal.agg [.ptr (some (19, 138))]).rel (startE env.ng vs) (.agg #[.pointer (some ⟨19, 138, none⟩)]) := agg_rel (l := [.pointer (some ⟨19, 138, none⟩)]) (relL_cons.2 ⟨hp, relL_nil⟩)
  unfold AVal.rel
  exact ⟨_, rfl, ha⟩

end Go.Proofs.YtnklododmdplmaaGreatDoor.ends
