/- The law of NodeOk, walked. No condition. -/
import Derived.Test.YthflichlfpmenaaN3
namespace Mg
open Go Go.RowKit
set_option maxRecDepth 100000
set_option linter.unusedVariables false
set_option linter.unusedSimpArgs false
attribute [local irreducible] W Pure
set_option maxHeartbeats 4000000 in
theorem c_FnExactNodeOk (a : Node) (ha : a.ok maxLen) : Pure PP false 3 [.agg a.cells] (ob true) := by
  obtain ⟨l1, k1⟩ : ∃ l1, szNode a 1048576 = l1 := ⟨_, rfl⟩
  have c1 := c_szNode a 1048576 (by decide) (by decide) ha
  rw [k1] at c1
  by_cases h1 : l1 < 0
  · refine Pure.vc [(9, .res (oi l1))] TTok hmo Go.Proofs.Try.func3 (by kernel_rfl) rfl (by kernel_rfl) ?_
    repeat' (first | refine And.intro ?_ ?_ | exact tf | exact ft | refine tt ?_ | refine ff ?_ | exact fun h => absurd h1 (of_decide_eq_false h) | exact ⟨trivial⟩ | exact sAll rfl | exact sLe rfl | exact Chk.mk (by kernel_rfl) | exact ⟨Chk.mk (by kernel_rfl)⟩ | exact sLeEq rfl rfl | exact sAnd (by repeat' constructor) (c1) | refine fun h => ?_)
    all_goals (refine ⟨?_⟩; simp)
  have oa : a.ok lim := (szOk_node a).ok 1048576 (by decide) (by decide) (by omega)
  refine Pure.vc [(9, .res (oi l1)), (13, .res (.agg a.cells)), (14, .res (ob (nodeOk a))), (16, .res (.agg a.cells)), (18, .res (ob (nodeOk a))), (24, .res (.agg a.cells)), (25, .res (ob (decide (a = a))))] TTok hmo Go.Proofs.Try.func3 (by kernel_rfl) rfl (by kernel_rfl) ?_
  repeat' (first | refine And.intro ?_ ?_ | exact tf | exact ft | refine tt ?_ | refine ff ?_ | exact fun h => absurd (of_decide_eq_true h) h1 | exact ⟨trivial⟩ | exact sAll rfl | exact sLe rfl | exact Chk.mk (by kernel_rfl) | exact ⟨Chk.mk (by kernel_rfl)⟩ | exact sLeEq rfl rfl | exact sAnd (by repeat' constructor) (c1) | exact sAnd (by repeat' constructor) (c_toNode _ oa) | exact sAnd (by repeat' constructor) (c_spec_NodeOk _ oa) | exact sAnd (by repeat' constructor) (c_impl_NodeOk _ oa) | exact sAnd (by repeat' constructor) (c_eqNode _ _ oa oa) | refine fun h => ?_)
  all_goals (refine ⟨?_⟩; simp_all)
end Mg
