/- The environment in which 'jacquardlaw24.ExecNil' is run by the evaluator, and the tables that the run reads. No conditions. -/
import Derived.Test.YtaakjjddlbdicaaGreatDoorProg
import Derived.Test.YtaakjjddlbdicaaGreatDoorEvStart
import Derived.KernelRfl
namespace Go.Proofs.YtaakjjddlbdicaaGreatDoor.execNil
open Go.Ev

noncomputable def tT : Trie TypeInfo := ofL 11 Tryz.prog.types.toList
noncomputable def tF : Trie Func := ofL 11 Tryz.prog.funcs.toList
noncomputable def env : Env := envOf tT tF 18 [(445, .indexByte), (391, .count)] [137, 158, 84]

theorem env_ok : EnvOk env Tryz.prog :=
  envOf_ok (by kernel_rfl) (by kernel_rfl)
    (fun p hp => by
      simp only [List.mem_cons, List.mem_nil_iff, or_false] at hp
      rcases hp with rfl | rfl
      · exact extOk_indexByte Tryz.func445 (by kernel_rfl) (by kernel_rfl) (by kernel_rfl) (by kernel_rfl)
      · exact extOk_count Tryz.func391 (by kernel_rfl) (by kernel_rfl) (by kernel_rfl) (by kernel_rfl))
    (fun t ht => by
      simp only [List.mem_cons, List.mem_nil_iff, or_false] at ht
      rcases ht with rfl | rfl | rfl
      · exact ⟨by kernel_rfl, by kernel_rfl⟩
      · exact ⟨by kernel_rfl, by kernel_rfl⟩
      · exact ⟨by kernel_rfl, by kernel_rfl⟩)

def space : List Int := (List.range 256).map fun i => if 9 ≤ i ∧ i ≤ 13 ∨ i = 32 then 1 else 0
def sums : List Int := [1, 2, 3, 6, 4, 7, 5, 8, 9, 10, 11, 13, 12, 14, 15]
def widths : List Int := [8, 16, 32, 64]
def tabs (u v w : Nat) : List (Nat × List AVal × Nat) := [(13, tabV .u8 space, u), (8, tabV .u8 sums, v), (11, tabV .i64 widths, w)]

/-- it is true -/
def isTrue (v : AVal) (_ : MK) : Bool := match v with
  | .bool b => b
  | _ => false

end Go.Proofs.YtaakjjddlbdicaaGreatDoor.execNil
