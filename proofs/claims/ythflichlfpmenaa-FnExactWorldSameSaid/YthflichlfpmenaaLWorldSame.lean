/- The law of WorldSame, walked. No condition. -/
import Derived.Test.YthflichlfpmenaaR2T
import Derived.Test.YthflichlfpmenaaR2G
import Derived.Test.YthflichlfpmenaaR2H
namespace Mg
open Go Go.RowKit
set_option maxRecDepth 100000
set_option linter.unusedVariables false
set_option linter.unusedSimpArgs false
attribute [local irreducible] W Pure
set_option maxHeartbeats 8000000 in
theorem c_FnExactWorldSame (a b : World) (ha : a.ok maxLen) (hb : b.ok maxLen) : Pure PP false 4 [.agg a.cells, .agg b.cells] (ob true) := by
  obtain ⟨l1, k1⟩ : ∃ l1, szWorld a 1048576 = l1 := ⟨_, rfl⟩
  have e1 : l1 ≤ 1048576 := k1 ▸ (szOk_world a).le 1048576 (by decide)
  have c1 := c_szWorld a 1048576 (by decide) (by decide) ha
  rw [k1] at c1
  by_cases h1 : l1 < 0
  · refine Pure.vc [(12, .res (oi l1))] TTok hmo Go.Proofs.Try.func4 (by kernel_rfl) rfl (by kernel_rfl) ?_
    repeat' (first | refine And.intro ?_ ?_ | exact tf | exact ft | refine tt ?_ | refine ff ?_ | exact fun h => absurd h1 (of_decide_eq_false h) | exact ⟨trivial⟩ | exact sAll rfl | exact sLe rfl | exact Chk.mk (by kernel_rfl) | exact ⟨Chk.mk (by kernel_rfl)⟩ | exact sLeEq rfl rfl | exact sAnd (by repeat' constructor) (c1) | refine fun h => ?_)
    all_goals (refine ⟨?_⟩; simp)
  have h1 : 0 ≤ l1 := by omega
  have oa : a.ok lim := (szOk_world a).ok 1048576 (by decide) (by decide) (by rw [k1]; exact h1)
  obtain ⟨l2, k2⟩ : ∃ l2, szWorld b l1 = l2 := ⟨_, rfl⟩
  have c2 := c_szWorld b l1 h1 (show (l1 : Int) ≤ 1048576 from e1) hb
  rw [k2] at c2
  by_cases h2 : l2 < 0
  · refine Pure.vc [(12, .res (oi l1)), (17, .res (oi l2))] TTok hmo Go.Proofs.Try.func4 (by kernel_rfl) rfl (by kernel_rfl) ?_
    repeat' (first | refine And.intro ?_ ?_ | exact tf | exact ft | refine tt ?_ | refine ff ?_ | exact fun h => absurd h2 (of_decide_eq_false h) | exact fun h => absurd (of_decide_eq_true h) (by omega) | exact ⟨trivial⟩ | exact sAll rfl | exact sLe rfl | exact Chk.mk (by kernel_rfl) | exact ⟨Chk.mk (by kernel_rfl)⟩ | exact sLeEq rfl rfl | exact sAnd (by repeat' constructor) (c1) | exact sAnd (by repeat' constructor) (c2) | refine fun h => ?_)
    all_goals (refine ⟨?_⟩; simp)
  have h2 : 0 ≤ l2 := by omega
  have ob : b.ok lim := (szOk_world b).ok l1 h1 e1 (by rw [k2]; exact h2)
  refine Pure.vc [(12, .res (oi l1)), (17, .res (oi l2)), (21, .res (.agg a.cells)), (23, .res (.agg b.cells)), (24, .res (Mg.ob (decide (a = b)))), (26, .res (.agg a.cells)), (28, .res (.agg b.cells)), (31, .res (Mg.ob (decide (a = b)))), (37, .res (.agg a.cells)), (38, .res (Mg.ob (decide (a = a)))), (42, .res (.agg b.cells)), (43, .res (Mg.ob (decide (b = b))))] TTok hmo Go.Proofs.Try.func4 (by kernel_rfl) rfl (by kernel_rfl) ?_
  repeat' (first | refine And.intro ?_ ?_ | exact tf | exact ft | refine tt ?_ | refine ff ?_ | exact fun h => absurd (of_decide_eq_true h) (by omega) | exact ⟨trivial⟩ | exact sAll rfl | exact sLe rfl | exact Chk.mk (by kernel_rfl) | exact ⟨Chk.mk (by kernel_rfl)⟩ | exact sLeEq rfl rfl | exact sAnd (by repeat' constructor) (c1) | exact sAnd (by repeat' constructor) (c2) | exact sAnd (by repeat' constructor) (c_toWorld _ oa) | exact sAnd (by repeat' constructor) (c_toWorld _ ob) | exact sAnd (by repeat' constructor) (c_spec_WorldSame _ _ oa ob) | exact sAnd (by repeat' constructor) (c_impl_WorldSame _ _ oa ob) | exact sAnd (by repeat' constructor) (c_eqWorld _ _ oa oa) | exact sAnd (by repeat' constructor) (c_eqWorld _ _ ob ob) | refine fun h => ?_)
  all_goals (refine ⟨?_⟩; simp_all)

end Mg
