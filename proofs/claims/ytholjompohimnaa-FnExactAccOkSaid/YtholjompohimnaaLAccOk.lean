/- The law of AccOk, walked. No condition. -/
import Derived.Test.YtholjompohimnaaR1H
import Derived.Test.YtholjompohimnaaR1U
namespace Mg
open Go Go.RowKit
set_option maxRecDepth 100000
set_option linter.unusedVariables false
set_option linter.unusedSimpArgs false
attribute [local irreducible] W Pure
set_option maxHeartbeats 4000000 in
theorem c_FnExactAccOk (a : Acc) (ha : a.ok maxLen) : Pure PP false 3 [.agg a.cells] (ob true) := by
  by_cases h1 : szAcc a 1048576 < 0
  · refine Pure.vc [(9, .res (oi (szAcc a 1048576)))] TTok hmo Go.Proofs.Try.func3 (by kernel_rfl) rfl (by kernel_rfl) ?_
    repeat' (first | refine And.intro ?_ ?_ | exact tf | exact ft | refine tt ?_ | refine ff ?_ | exact fun h => absurd h1 (of_decide_eq_false h) | exact ⟨trivial⟩ | exact sLe rfl | exact Chk.mk (by kernel_rfl) | exact ⟨Chk.mk (by kernel_rfl)⟩ | exact sLeEq rfl rfl | exact sAnd (by repeat' constructor) (c_szAcc _ _ (by decide) (by decide) ha) | refine fun h => ?_)
    all_goals (refine ⟨?_⟩; simp)
  have oa : a.ok lim := szAcc_ok (l := 1048576) (by decide) (by omega)
  refine Pure.vc [(9, .res (oi (szAcc a 1048576))), (13, .res (.agg a.cells)), (14, .res (ob (accOk a))), (16, .res (.agg a.cells)), (18, .res (ob (accOk a))), (24, .res (.agg a.cells)), (25, .res (ob (decide (a = a))))] TTok hmo Go.Proofs.Try.func3 (by kernel_rfl) rfl (by kernel_rfl) ?_
  repeat' (first | refine And.intro ?_ ?_ | exact tf | exact ft | refine tt ?_ | refine ff ?_ | exact fun h => absurd (of_decide_eq_true h) h1 | exact ⟨trivial⟩ | exact sLe rfl | exact Chk.mk (by kernel_rfl) | exact ⟨Chk.mk (by kernel_rfl)⟩ | exact sLeEq rfl rfl | exact sAnd (by repeat' constructor) (c_szAcc _ _ (by decide) (by decide) ha) | exact sAnd (by repeat' constructor) (c_toAcc _ oa) | exact sAnd (by repeat' constructor) (c_spec_AccOk _ oa) | exact sAnd (by repeat' constructor) (c_impl_AccOk _ oa) | exact sAnd (by repeat' constructor) (c_eqAcc _ _ oa oa) | refine fun h => ?_)
  all_goals (refine ⟨?_⟩; simp_all)
end Mg
