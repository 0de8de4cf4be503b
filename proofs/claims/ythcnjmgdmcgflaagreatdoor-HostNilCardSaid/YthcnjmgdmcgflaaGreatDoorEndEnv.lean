/- The environment in which the laws are run by the evaluator, and the tables that the runs read. No conditions. -/
import Derived.Test.YthcnjmgdmcgflaaGreatDoorProg
import Derived.Test.YthcnjmgdmcgflaaGreatDoorEndKit
import Derived.KernelRfl
namespace Go.Proofs.YthcnjmgdmcgflaaGreatDoor.ends
open Go.Ev

noncomputable def tT : Trie TypeInfo := ofL 11 Tryz.prog.types.toList
noncomputable def tF : Trie Func := ofL 11 Tryz.prog.funcs.toList
noncomputable def env : Env := envOf tT tF 18 [(495, .indexByte), (455, .count)] [105, 186, 188] [] [] noRef

theorem env_ok : EnvOk env Tryz.prog :=
  envOf_ok (by kernel_rfl) (by kernel_rfl)
    (fun p hp => by
      simp only [List.mem_cons, List.mem_nil_iff, or_false] at hp
      rcases hp with rfl | rfl
      · exact extOk_indexByte Tryz.func495 (by kernel_rfl) (by kernel_rfl) (by kernel_rfl) (by kernel_rfl)
      · exact extOk_count Tryz.func455 (by kernel_rfl) (by kernel_rfl) (by kernel_rfl) (by kernel_rfl))
    (fun t ht => by
      simp only [List.mem_cons, List.mem_nil_iff, or_false] at ht
      rcases ht with rfl | rfl | rfl
      all_goals exact ⟨by kernel_rfl, by kernel_rfl⟩)
    (fun g hg => by cases hg) (fun p hp => by cases hp) (fun h => absurd rfl h)

def space : List Int := (List.range 256).map fun i => if 9 ≤ i ∧ i ≤ 13 ∨ i = 32 then 1 else 0
def sums : List Int := [1, 2, 3, 6, 4, 7, 5, 8, 9, 10, 11, 13, 12, 14, 15]
def widths : List Int := [8, 16, 32, 64]
def tabs : List (Nat × List AVal) := [(13, tabV .u8 space), (8, tabV .u8 sums), (11, tabV .i64 widths)]

theorem tabs_mem {x : Nat × List AVal} (hx : x ∈ tabs) : x = (13, tabV .u8 space) ∨ x = (8, tabV .u8 sums) ∨ x = (11, tabV .i64 widths) := by
  simpa [tabs] using hx
theorem tabs_lt : ∀ x ∈ tabs, x.1 < env.ng := fun x hx => by
  rcases tabs_mem hx with rfl | rfl | rfl
  · exact show (13 : Nat) < 18 by decide
  · exact show (8 : Nat) < 18 by decide
  · exact show (11 : Nat) < 18 by decide
theorem tabs_lt2 : ∀ x ∈ tabs, x.1 < 4096 := fun x hx => Nat.lt_trans (tabs_lt x hx) (show (18 : Nat) < 4096 by decide)

/-- the three tables in a world -/
def Tabs (W : World) (τ : Nat → Nat) : Prop := TabAt W 13 (τ 13) .u8 space ∧ TabAt W 8 (τ 8) .u8 sums ∧ TabAt W 11 (τ 11) .i64 widths

theorem tabs_at {W : World} {τ : Nat → Nat} (h : Tabs W τ) : ∀ x ∈ tabs, ∃ k zs, x.2 = tabV k zs ∧ TabAt W x.1 (τ x.1) k zs := fun x hx => by
  rcases tabs_mem hx with rfl | rfl | rfl
  · exact ⟨.u8, space, rfl, h.1⟩
  · exact ⟨.u8, sums, rfl, h.2.1⟩
  · exact ⟨.i64, widths, rfl, h.2.2⟩

theorem tables {W : World} {l : List (String × DataW Unit)} (h : laidMet Tryz.prog l W) (h1 : ("strings.asciiSpace", Lib.tabData .u8 space) ∈ l) (h2 : ("jacquard/plain.sums", Lib.tabData .u8 sums) ∈ l) (h3 : ("jacquard/ints.widths", Lib.tabData .i64 widths) ∈ l) : ∃ τ, Tabs W τ := by
  obtain ⟨u, hu⟩ := tab_at (g := 13) (t := 673) (e := 5) (n := 256) h h1 (by kernel_rfl) (by kernel_rfl) (by kernel_rfl) (by kernel_rfl) (by kernel_rfl) (by kernel_rfl) (of_decide_eq_true (by kernel_rfl))
  obtain ⟨v, hv⟩ := tab_at (g := 8) (t := 564) (e := 531) (n := 15) h h2 (by kernel_rfl) (by kernel_rfl) (by kernel_rfl) (by kernel_rfl) (by kernel_rfl) (by kernel_rfl) (of_decide_eq_true (by kernel_rfl))
  obtain ⟨w, hw⟩ := tab_at (g := 11) (t := 149) (e := 3) (n := 4) h h3 (by kernel_rfl) (by kernel_rfl) (by kernel_rfl) (by kernel_rfl) (by kernel_rfl) (by kernel_rfl) (of_decide_eq_true (by kernel_rfl))
  exact ⟨fun g => if g = 13 then u else if g = 8 then v else w, hu, hv, hw⟩

end Go.Proofs.YthcnjmgdmcgflaaGreatDoor.ends
