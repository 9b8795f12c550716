import Derived.Test.YtjadkgndnpjpiaaPFnExactAccNextx1
namespace Go.Proofs.Ytjadkgndnpjpiaa.Pure
open Go.RowKit Go.Proofs.Ytjadkgndnpjpiaa.PFnExactAccNext Go.Proofs.YtjadkgndnpjpiaaW.PrintWords Go.Proofs.YtjadkgndnpjpiaaW.PrintLast

theorem sl_hit {k : Nat} {x0 x1 x5 : Int} (h1 : x5 ≤ wrap64 (x0 + 3)) (h2 : x5 ≤ 3000) (h3 : Int.tmod x5 3 = x1) :
    spec_AccNext.l0 (k + 2) x0 x1 x5 = some x5 := by
  simp only [spec_AccNext.l0, spec_AccNext.j2]
  rw [if_pos h1, if_pos (decide_eq_true h2), if_pos h3]
theorem sl_miss {k : Nat} {x0 x1 x5 : Int} (h1 : x5 ≤ wrap64 (x0 + 3)) (h2 : x5 ≤ 3000) (h3 : Int.tmod x5 3 ≠ x1) :
    spec_AccNext.l0 (k + 2) x0 x1 x5 = spec_AccNext.l0 k x0 x1 (wrap64 (x5 + 1)) := by
  simp only [spec_AccNext.l0, spec_AccNext.j2]
  rw [if_pos h1, if_pos (decide_eq_true h2), if_neg h3]
theorem sl_end {k : Nat} {x0 x1 x5 : Int} (h2 : ¬ x5 ≤ 3000) :
    spec_AccNext.l0 (k + 2) x0 x1 x5 = some (-1) := by
  simp only [spec_AccNext.l0, spec_AccNext.j2]
  rw [decide_eq_false h2]
  split <;> rfl
theorem il_hit {k : Nat} {x1 x5 : Int} (h1 : 1 ≤ x5) (h2 : x5 ≤ 3000) (h3 : Int.tmod x5 3 = x1) :
    impl_AccNext.l0 (k + 2) x1 x5 = some x5 := by
  simp only [impl_AccNext.l0, impl_AccNext.j2, impl_AccOwner.f, impl_in.f]
  rw [if_pos h2, if_pos (decide_eq_true (by omega)), if_pos (by omega)]
  simp [h2, h3]
theorem il_miss {k : Nat} {x1 x5 : Int} (h1 : 1 ≤ x5) (h2 : x5 ≤ 3000) (h3 : Int.tmod x5 3 ≠ x1) :
    impl_AccNext.l0 (k + 2) x1 x5 = impl_AccNext.l0 k x1 (wrap64 (x5 + 1)) := by
  simp only [impl_AccNext.l0, impl_AccNext.j2, impl_AccOwner.f, impl_in.f]
  rw [if_pos h2, if_pos (decide_eq_true (by omega)), if_pos (by omega)]
  simp [h2, h3]
theorem il_end {k : Nat} {x1 x5 : Int} (h2 : ¬ x5 ≤ 3000 ∨ ¬ 1 ≤ x5) :
    impl_AccNext.l0 (k + 2) x1 x5 = some (-1) := by
  simp only [impl_AccNext.l0, impl_AccNext.j2]
  by_cases h : x5 ≤ 3000
  · rw [if_pos h, if_neg (by simp; omega)]
  · rw [if_neg h, if_neg (by simp)]
theorem w1 {x : Int} (h0 : -9223372036854775808 ≤ x) (h1 : x < 9223372036854775807) : wrap64 (x + 1) = x + 1 := by
  unfold wrap64; omega

/-- FnExactAccNext: for all arguments the program's AccNext answers as the reference's does. -/
theorem FnExactAccNext : laws_FnExactAccNext.Pure := by
  intro a b wa wb
  refine ⟨10, ?_⟩
  have ha : -9223372036854775808 ≤ a ∧ a ≤ 9223372036854775807 := by simp [Lit.wf, IntKind.min, IntKind.max, IntKind.signed, IntKind.bits] at wa; omega
  suffices h : ∃ r, spec_AccNext.f 10 a b = some r ∧ impl_AccNext.f 10 a b = some r by
    obtain ⟨r, h1, h2⟩ := h
    unfold laws_FnExactAccNext.f
    rw [h1, h2]; simp
  unfold spec_AccNext.f impl_AccNext.f
  by_cases h0 : a < 0
  · exact ⟨-1, by rw [if_pos h0]; rfl, by rw [if_pos h0]; rfl⟩
  rw [if_neg h0, if_neg h0]
  by_cases hb : 0 ≤ b ∧ b ≤ 2
  case neg =>
    refine ⟨-1, ?_, ?_⟩
    · by_cases h1 : a > 3000
      · rw [if_pos h1]; rfl
      · rw [if_neg h1]
        by_cases h2 : b < 0
        · rw [if_pos h2]; rfl
        · rw [if_neg h2, decide_eq_true (show b ≥ 3 by omega)]; rfl
    · have : impl_in.f b 0 2 = some false := by
        unfold impl_in.f
        by_cases h2 : b ≥ 0
        · rw [if_pos h2, decide_eq_false (by omega)]
        · rw [if_neg h2]
      rw [this]; rfl
  have hin : impl_in.f b 0 2 = some true := by
    unfold impl_in.f; rw [if_pos hb.1, decide_eq_true hb.2]
  rw [hin]; simp only [Option.bind_some, Bool.not_true]
  have hj : impl_AccNext.j0 10 a b false = impl_AccNext.l0 9 b (wrap64 (a + 1)) := rfl
  rw [hj]
  by_cases h1 : a > 3000
  · rw [if_pos h1]
    refine ⟨-1, rfl, ?_⟩
    by_cases hm : a = 9223372036854775807
    · rw [il_end]; right; unfold wrap64; omega
    · rw [w1 (by omega) (by omega), il_end]; left; omega
  · rw [if_neg h1, if_neg (by omega), decide_eq_false (show ¬ b ≥ 3 by omega)]
    have hs : spec_AccNext.j0 10 a b false = spec_AccNext.l0 9 a b (wrap64 (a + 1)) := rfl
    rw [hs, w1 (by omega) (by omega)]
    have h3 : wrap64 (a + 3) = a + 3 := by unfold wrap64; omega
    by_cases e1 : a + 1 ≤ 3000
    case neg => exact ⟨-1, sl_end e1, il_end (.inl e1)⟩
    by_cases m1 : Int.tmod (a + 1) 3 = b
    · exact ⟨_, sl_hit (by omega) e1 m1, il_hit (by omega) e1 m1⟩
    rw [sl_miss (k := 7) (by omega) e1 m1, il_miss (k := 7) (by omega) e1 m1, w1 (by omega) (by omega)]
    by_cases e2 : a + 1 + 1 ≤ 3000
    case neg => exact ⟨-1, sl_end e2, il_end (.inl e2)⟩
    by_cases m2 : Int.tmod (a + 1 + 1) 3 = b
    · exact ⟨_, sl_hit (by omega) e2 m2, il_hit (by omega) e2 m2⟩
    rw [sl_miss (k := 5) (by omega) e2 m2, il_miss (k := 5) (by omega) e2 m2, w1 (by omega) (by omega)]
    by_cases e3 : a + 1 + 1 + 1 ≤ 3000
    case neg => exact ⟨-1, sl_end e3, il_end (.inl e3)⟩
    have m3 : Int.tmod (a + 1 + 1 + 1) 3 = b := by
      rw [Int.tmod_eq_emod_of_nonneg (by omega)] at *
      omega
    exact ⟨_, sl_hit (by omega) e3 m3, il_hit (by omega) e3 m3⟩

end Go.Proofs.Ytjadkgndnpjpiaa.Pure
