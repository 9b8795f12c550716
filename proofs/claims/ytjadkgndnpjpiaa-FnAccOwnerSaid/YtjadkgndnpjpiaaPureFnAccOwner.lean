import Derived.Test.YtjadkgndnpjpiaaPFnAccOwnerx2
namespace Go.Proofs.Ytjadkgndnpjpiaa.Pure
open Go.RowKit Go.Proofs.Ytjadkgndnpjpiaa.PFnAccOwner Go.Proofs.YtjadkgndnpjpiaaW.PrintWords Go.Proofs.YtjadkgndnpjpiaaW.PrintLast

theorem pick_some (l : List Int) (h : ∀ x ∈ l, (Lit.int .u8 x).wf = true) (hl : l.length ≤ 2000) :
    ∃ i : Int, 0 ≤ i ∧ i < 9 ∧ spec_l15Rd_pick.f 10 l 0 9 = some (i, 1) := by
  unfold spec_l15Rd_pick.f
  rw [if_neg (by decide)]
  have hw : wrap64 (0 + 1) = 1 := by unfold wrap64; omega
  have hw0 : wrap64 (1 - 1) = 0 := by unfold wrap64; omega
  rw [hw]
  cases l with
  | nil => exact ⟨0, by decide, by decide, rfl⟩
  | cons x t =>
    have hx := h x (by simp)
    have hb : 0 ≤ x ∧ x ≤ 255 := by simp [Lit.wf, IntKind.min, IntKind.max, IntKind.signed, IntKind.bits] at hx; omega
    have he : (((x :: t).length : Int) == 0) = false := by simp; omega
    rw [he]
    simp only [spec_l15Rd_pick.j0]
    rw [if_neg (by decide), hw0, if_pos (by simp), if_pos (by decide), if_neg (by decide)]
    have hr : rd (x :: t) 0 = x := rfl
    rw [hr]
    have hwx : wrap64 x = x := by unfold wrap64; omega
    rw [hwx]
    refine ⟨_, ?_, ?_, rfl⟩
    · rw [Int.tmod_eq_emod_of_nonneg hb.1]; omega
    · rw [Int.tmod_eq_emod_of_nonneg hb.1]; omega

theorem law_at (b : Int) (hb : b ∈ ([0, 1, 2, 3, 4, 7, 3000, 3001, -1] : List Int)) :
    ((impl_AccOwner.f b).bind fun t123 => ((spec_AccOwner.f b).bind fun t124 => (if t123 = t124 then (if b < 1 then (laws_FnAccOwner.j0 10 b t123 true) else (laws_FnAccOwner.j0 10 b t123 (decide (b > 2997)))) else (some false)))) = some true := by
  simp only [List.mem_cons, List.not_mem_nil, or_false] at hb
  rcases hb with rfl | rfl | rfl | rfl | rfl | rfl | rfl | rfl | rfl <;> decide +kernel

/-- FnAccOwner: for every code, the drawn ballot is shared out as the law says. -/
theorem FnAccOwner : laws_FnAccOwner.Pure := by
  intro l h1 h2 h3
  refine ⟨10, ?_⟩
  unfold laws_FnAccOwner.f
  by_cases hl : (l.length : Int) > 1048576
  · rw [if_pos hl]
  rw [if_neg hl]
  have ho : ∃ l' : List Int, spec_l15Open.f l = some (l', 0) ∧ l'.length ≤ 2000 ∧ ∀ x ∈ l', (Lit.int .u8 x).wf = true := by
    unfold spec_l15Open.f
    by_cases h : (l.length : Int) > 2000
    · rw [if_pos h, if_pos (by omega)]
      exact ⟨_, rfl, by simp; omega, fun x hx => h3 x (List.mem_of_mem_take hx)⟩
    · rw [if_neg h]; exact ⟨_, rfl, by omega, h3⟩
  obtain ⟨l', e1, hl', hw'⟩ := ho
  obtain ⟨i, hi0, hi9, e2⟩ := pick_some l' hw' hl'
  have e3 : spec_DrawAccOwner.f 10 l = some (rd ([0, 1, 2, 3, 4, 7, 3000, 3001, (-1)] : List Int) i) := by
    unfold spec_DrawAccOwner.f
    rw [e1]; simp only [Option.bind_some]
    unfold spec_l15Rd_num.f
    have : (([0, 1, 2, 3, 4, 7, 3000, 3001, (-1)] : List Int).length : Int) = 9 := by rfl
    rw [this, e2]; simp only [Option.bind_some]
    rw [if_pos hi0, if_pos hi9]; rfl
  rw [e3]; simp only [Option.bind_some]
  apply law_at
  have : i = 0 ∨ i = 1 ∨ i = 2 ∨ i = 3 ∨ i = 4 ∨ i = 5 ∨ i = 6 ∨ i = 7 ∨ i = 8 := by omega
  rcases this with rfl | rfl | rfl | rfl | rfl | rfl | rfl | rfl | rfl <;> decide

end Go.Proofs.Ytjadkgndnpjpiaa.Pure
