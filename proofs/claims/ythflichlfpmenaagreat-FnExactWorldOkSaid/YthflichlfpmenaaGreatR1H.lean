/- What is left bounds what is there. No condition. -/
import Derived.Test.YthflichlfpmenaaGreatR1F
namespace Mg
open Go Go.RowKit
set_option maxRecDepth 100000
set_option linter.unusedVariables false
set_option linter.unusedSimpArgs false
attribute [local irreducible] W Pure

theorem sg_pos {a : Int} (h : 0 ≤ sg a) : 0 ≤ a := by unfold sg at h; split at h <;> omega
theorem sg_eq {a : Int} (h : 0 ≤ a) : sg a = a := by unfold sg; rw [if_neg (by omega)]
theorem thenI_pos {a : Int} {f : Int → Int} (h : 0 ≤ thenI a f) : 0 ≤ a ∧ 0 ≤ f a := by
  unfold thenI at h; split at h
  · omega
  · exact ⟨by omega, h⟩
theorem szT_ok {n : Nat} {l : Int} (h : 0 ≤ szT n l) : (n : Int) ≤ l ∧ szT n l ≤ l := by
  have := sg_pos h
  unfold szT
  rw [sg_eq this]; omega
theorem szRun_ok {x : Run} {l : Int} (h1 : l ≤ lim) (h : 0 ≤ szRun x l) : x.ok lim := by
  obtain ⟨ha, hb⟩ := thenI_pos h
  have h2 := szT_ok ha
  have h3 := szT_ok (sg_pos hb)
  exact ⟨by omega, by omega⟩
theorem szVote_ok {x : Vote} {l : Int} (h1 : l ≤ lim) (h : 0 ≤ szVote x l) : x.ok lim := szRun_ok h1 (sg_pos (sg_pos h))
theorem szL_ok {xs : List Vote} : ∀ {l : Int}, 0 ≤ l → l ≤ lim → 0 ≤ szL szVote xs l → ∀ v ∈ xs, v.ok lim := by
  induction xs with
  | nil => intro l _ _ _ v hv; cases hv
  | cons x xs ih =>
    intro l h0 h1 h v hv
    obtain ⟨ha, hb⟩ := thenI_pos h
    rcases List.mem_cons.1 hv with rfl | hv
    · exact szVote_ok h1 ha
    · have := szVote_le x h0
      exact ih ha (by omega) hb v hv
theorem szAcc_ok {x : Acc} {l : Int} (h1 : l ≤ lim) (h : 0 ≤ szAcc x l) : x.ok lim := by
  obtain ⟨ha, hb⟩ := thenI_pos (sg_pos h)
  exact ⟨by omega, szL_ok ha (by omega) hb⟩
theorem szL_le {xs : List Vote} : ∀ {l : Int}, 0 ≤ l → szL szVote xs l ≤ l := by
  induction xs with
  | nil => intro l h; exact Int.le_refl _
  | cons x xs ih =>
    intro l h
    have := szVote_le x h
    simp only [szL, thenI]
    split
    · omega
    · have := ih (l := szVote x l) (by omega); omega
theorem szAcc_le {x : Acc} {l : Int} (h : 0 ≤ l) : szAcc x l ≤ l := by
  refine sg_le ?_ h
  unfold szVoteS thenI
  split
  · omega
  · have := szL_le (xs := x.votes) (l := l - x.votes.length) (by omega); omega

end Mg
