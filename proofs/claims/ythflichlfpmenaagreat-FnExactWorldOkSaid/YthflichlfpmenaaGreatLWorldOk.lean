/- The law of WorldOk, walked. No condition. -/
import Derived.Test.YthflichlfpmenaaGreatW3
import Derived.Test.YthflichlfpmenaaGreatR2G
import Derived.Test.YthflichlfpmenaaGreatR2H
namespace Mg
open Go Go.RowKit
set_option maxRecDepth 100000
set_option linter.unusedVariables false
set_option linter.unusedSimpArgs false
attribute [local irreducible] W Pure
set_option maxHeartbeats 4000000 in
theorem c_FnExactWorldOk (a : World) (ha : a.ok maxLen) : Pure PP false 3 [.agg a.cells] (ob true) := by
  obtain ⟨l1, k1⟩ : ∃ l1, szWorld a 1048576 = l1 := ⟨_, rfl⟩
  have c1 := c_szWorld a 1048576 (by decide) (by decide) ha
  rw [k1] at c1
  by_cases h1 : l1 < 0
  · refine Pure.vc [(9, .res (oi l1))] TTok hmo Go.Proofs.Tryz.func3 (by kernel_rfl) rfl (by kernel_rfl) ?_
    repeat' (first | refine And.intro ?_ ?_ | exact tf | exact ft | refine tt ?_ | refine ff ?_ | exact fun h => absurd h1 (of_decide_eq_false h) | exact ⟨trivial⟩ | exact sAll rfl | exact sF1 rfl | exact sBld (by repeat' (first | exact trivial | rfl | exact Nat.le_of_ble_eq_true rfl | refine And.intro ?_ ?_)) rfl | exact sBS (by repeat' (first | exact trivial | rfl | exact Nat.le_of_ble_eq_true rfl | refine And.intro ?_ ?_)) rfl rfl rfl rfl | exact sLe rfl | exact Chk.mk (by kernel_rfl) | exact ⟨Chk.mk (by kernel_rfl)⟩ | exact sLeEq rfl rfl | exact sAnd (by repeat' constructor) (c1) | refine fun h => ?_)
    all_goals (refine ⟨?_⟩; simp)
  have oa : a.ok lim := (szOk_world a).ok 1048576 (by decide) (by decide) (by omega)
  refine Pure.vc [(9, .res (oi l1)), (13, .res (.agg a.cells)), (14, .res (ob (worldOk a))), (16, .res (.agg a.cells)), (18, .res (ob (worldOk a))), (24, .res (.agg a.cells)), (25, .res (ob (decide (a = a))))] TTok hmo Go.Proofs.Tryz.func3 (by kernel_rfl) rfl (by kernel_rfl) ?_
  repeat' (first | refine And.intro ?_ ?_ | exact tf | exact ft | refine tt ?_ | refine ff ?_ | exact fun h => absurd (of_decide_eq_true h) h1 | exact ⟨trivial⟩ | exact sAll rfl | exact sF1 rfl | exact sBld (by repeat' (first | exact trivial | rfl | exact Nat.le_of_ble_eq_true rfl | refine And.intro ?_ ?_)) rfl | exact sBS (by repeat' (first | exact trivial | rfl | exact Nat.le_of_ble_eq_true rfl | refine And.intro ?_ ?_)) rfl rfl rfl rfl | exact sLe rfl | exact Chk.mk (by kernel_rfl) | exact ⟨Chk.mk (by kernel_rfl)⟩ | exact sLeEq rfl rfl | exact sAnd (by repeat' constructor) (c1) | exact sAnd (by repeat' constructor) (c_toWorld _ oa) | exact sAnd (by repeat' constructor) (c_spec_WorldOk _ oa) | exact sAnd (by repeat' constructor) (c_impl_WorldOk _ oa) | exact sAnd (by repeat' constructor) (c_eqWorld _ _ oa oa) | refine fun h => ?_)
  all_goals (refine ⟨?_⟩; simp_all)

end Mg
