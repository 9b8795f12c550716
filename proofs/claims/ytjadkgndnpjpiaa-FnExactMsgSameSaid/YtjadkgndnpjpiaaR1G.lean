/- The law of AccSame, walked. No condition. -/
import Derived.Test.YtjadkgndnpjpiaaR1F
namespace Mg
open Go Go.RowKit
set_option maxRecDepth 100000
set_option linter.unusedVariables false
set_option linter.unusedSimpArgs false
attribute [local irreducible] W Pure

theorem sg_pos {a : Int} (h : 0 ≤ sg a) : 0 ≤ a := by unfold sg at h; split at h <;> omega
theorem sg_eq {a : Int} (h : 0 ≤ a) : sg a = a := by unfold sg; rw [if_neg (by omega)]
theorem thenI_pos {a : Int} {f : Int → Int} (h : 0 ≤ thenI a f) : 0 ≤ a ∧ 0 ≤ f a := by
  unfold thenI at h; split at h
  · omega
  · exact ⟨by omega, h⟩
theorem szT_ok {n : Nat} {l : Int} (h : 0 ≤ szT n l) : (n : Int) ≤ l ∧ szT n l ≤ l := by
  have := sg_pos h
  unfold szT
  rw [sg_eq this]; omega
theorem szRun_ok {x : Run} {l : Int} (h1 : l ≤ lim) (h : 0 ≤ szRun x l) : x.ok lim := by
  obtain ⟨ha, hb⟩ := thenI_pos h
  have h2 := szT_ok ha
  have h3 := szT_ok (sg_pos hb)
  exact ⟨by omega, by omega⟩
theorem szVote_ok {x : Vote} {l : Int} (h1 : l ≤ lim) (h : 0 ≤ szVote x l) : x.ok lim := szRun_ok h1 (sg_pos (sg_pos h))
theorem szL_ok {xs : List Vote} : ∀ {l : Int}, 0 ≤ l → l ≤ lim → 0 ≤ szL szVote xs l → ∀ v ∈ xs, v.ok lim := by
  induction xs with
  | nil => intro l _ _ _ v hv; cases hv
  | cons x xs ih =>
    intro l h0 h1 h v hv
    obtain ⟨ha, hb⟩ := thenI_pos h
    rcases List.mem_cons.1 hv with rfl | hv
    · exact szVote_ok h1 ha
    · have := szVote_le x h0
      exact ih ha (by omega) hb v hv
theorem szAcc_ok {x : Acc} {l : Int} (h1 : l ≤ lim) (h : 0 ≤ szAcc x l) : x.ok lim := by
  obtain ⟨ha, hb⟩ := thenI_pos (sg_pos h)
  exact ⟨by omega, szL_ok ha (by omega) hb⟩
theorem szL_le {xs : List Vote} : ∀ {l : Int}, 0 ≤ l → szL szVote xs l ≤ l := by
  induction xs with
  | nil => intro l h; exact Int.le_refl _
  | cons x xs ih =>
    intro l h
    have := szVote_le x h
    simp only [szL, thenI]
    split
    · omega
    · have := ih (l := szVote x l) (by omega); omega
theorem szAcc_le {x : Acc} {l : Int} (h : 0 ≤ l) : szAcc x l ≤ l := by
  refine sg_le ?_ h
  unfold szVoteS thenI
  split
  · omega
  · have := szL_le (xs := x.votes) (l := l - x.votes.length) (by omega); omega

set_option maxHeartbeats 4000000 in
theorem c_FnExactAccSame (a b : Acc) (ha : a.ok maxLen) (hb : b.ok maxLen) : Pure PP false 5 [.agg a.cells, .agg b.cells] (ob true) := by
  by_cases h1 : szAcc a 1048576 < 0
  · refine Pure.vc [(12, .res (oi (szAcc a 1048576)))] TTok hmo Go.Proofs.Try.func5 (by kernel_rfl) rfl (by kernel_rfl) ?_
    repeat' (first | exact ⟨trivial⟩ | exact sLe rfl | exact Chk.mk (by kernel_rfl) | exact sAnd (by repeat' constructor) (c_szAcc _ _ (by decide) (by decide) ha) | exact tf | exact ft | refine tt ?_ | refine ff ?_ | refine And.intro ?_ ?_ | exact fun h => absurd h1 (of_decide_eq_false h) | refine fun h => ?_)
    all_goals (refine ⟨?_⟩; simp)
  have l1 := szAcc_le (x := a) (l := 1048576) (by decide)
  have oa : a.ok lim := szAcc_ok (l := 1048576) (by decide) (by omega)
  by_cases h2 : szAcc b (szAcc a 1048576) < 0
  · refine Pure.vc [(12, .res (oi (szAcc a 1048576))), (17, .res (oi (szAcc b (szAcc a 1048576))))] TTok hmo Go.Proofs.Try.func5 (by kernel_rfl) rfl (by kernel_rfl) ?_
    repeat' (first | exact ⟨trivial⟩ | exact sLe rfl | exact Chk.mk (by kernel_rfl) | exact sAnd (by repeat' constructor) (c_szAcc _ _ (by decide) (by decide) ha) | exact sAnd (by repeat' constructor) (c_szAcc _ _ (by omega) (by omega) hb) | exact tf | exact ft | refine tt ?_ | refine ff ?_ | refine And.intro ?_ ?_ | exact fun h => absurd h2 (of_decide_eq_false h) | exact fun h => absurd (of_decide_eq_true h) h1 | refine fun h => ?_)
    all_goals (refine ⟨?_⟩; simp)
  have ob : b.ok lim := szAcc_ok (l := szAcc a 1048576) (by omega) (by omega)
  refine Pure.vc [(12, .res (oi (szAcc a 1048576))), (17, .res (oi (szAcc b (szAcc a 1048576)))), (21, .res (.agg a.cells)), (23, .res (.agg b.cells)), (24, .res (Mg.ob (decide (a = b)))), (26, .res (.agg a.cells)), (28, .res (.agg b.cells)), (31, .res (Mg.ob (decide (a = b)))),
    (37, .res (.agg a.cells)), (38, .res (Mg.ob (decide (a = a)))), (42, .res (.agg b.cells)), (43, .res (Mg.ob (decide (b = b))))] TTok hmo Go.Proofs.Try.func5 (by kernel_rfl) rfl (by kernel_rfl) ?_
  repeat' (first | exact ⟨trivial⟩ | exact sLe rfl | exact Chk.mk (by kernel_rfl) | exact sLeEq rfl rfl | exact sAnd (by repeat' constructor) (c_szAcc _ _ (by decide) (by decide) ha) | exact sAnd (by repeat' constructor) (c_szAcc _ _ (by omega) (by omega) hb) | exact sAnd (by repeat' constructor) (c_toAcc _ oa) | exact sAnd (by repeat' constructor) (c_toAcc _ ob) | exact sAnd (by repeat' constructor) (c_spec_AccSame _ _ oa ob) | exact sAnd (by repeat' constructor) (c_impl_AccSame _ _ oa ob) | exact sAnd (by repeat' constructor) (c_eqAcc _ _ oa oa) | exact sAnd (by repeat' constructor) (c_eqAcc _ _ ob ob) | exact tf | exact ft | refine tt ?_ | refine ff ?_ | refine And.intro ?_ ?_ | exact fun h => absurd (of_decide_eq_true h) h1 | exact fun h => absurd (of_decide_eq_true h) h2 | refine fun h => ?_)
  all_goals (refine ⟨?_⟩; simp_all)
end Mg
