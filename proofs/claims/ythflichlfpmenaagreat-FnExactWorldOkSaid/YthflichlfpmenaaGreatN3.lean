/- Nodes that are right, impl's walk; the law of NodeOk. No condition. -/
import Derived.Test.YthflichlfpmenaaGreatN2
import Derived.Test.YthflichlfpmenaaGreatR2C
import Derived.Test.YthflichlfpmenaaGreatR2E
namespace Mg
open Go Go.RowKit
set_option maxRecDepth 100000
set_option linter.unusedVariables false
set_option linter.unusedSimpArgs false
attribute [local irreducible] W Pure
theorem beq_two {a b c d : Int} : (a == c && b == d) = decide (a = c ∧ b = d) := by
  rw [Bool.eq_iff_iff]; simp
set_option maxHeartbeats 8000000 in
theorem c_impl_NodeOk (n : Node) (hn : n.ok lim) : Pure PP false 22 [.agg n.cells] (ob (nodeOk n)) := by
  by_cases hid : inr n.id 0 2 = true
  · have hl8 := c_impl_leadOk n hn hid
    rw [lead_eq n hid] at hl8
    obtain ⟨lb, hlb⟩ : ∃ lb, leadS n = lb := ⟨_, rfl⟩
    rw [hlb] at hl8
    have hN : nodeOk n = (inr n.id 0 2 && accOk n.acc && entsOk n.known && inr n.seq 0 1000 && decide ((n.queue.length : Int) ≤ 4) && lb && wantsOk n && n.queue.all queueOk) := by unfold nodeOk; rw [hlb]
    rw [hN]
    obtain ⟨id, ac, kn, sq, ph, ba, fr, be, cu, vo, bu, pr, ⟨wn, ⟨q1, q2⟩, wr⟩, qu⟩ := n
    have hid : inr id 0 2 = true := hid
    have hk := hn.known
    have hql : qu.length ≤ 1048576 := hn.queue.1
    have hqu : ∀ v ∈ qu, v.ok lim := hn.queue.2
    have hwa : Entry.ok lim ⟨wn, ⟨q1, q2⟩, wr⟩ := hn.want
    refine Pure.vc [(7, .res (ob (inr id 0 2))), (12, .res (ob (accOk ac))), (18, .res (ob (entsOk kn))), (24, .res (ob (inr sq 0 1000))), (52, .res (ob (progOk pr))), (57, .res (ob (entryOk ⟨wn, ⟨q1, q2⟩, wr⟩))), (84, .res (ob (decide (Entry.mk wn ⟨q1, q2⟩ wr = zeroE false)))), (88, .res (ob lb))] TTok hmo Go.Proofs.Tryz.func22 (by kernel_rfl) rfl (by kernel_rfl) ?_
    repeat' (first | refine And.intro ?_ ?_ | exact tf | exact ft | refine tt ?_ | refine ff ?_ | exact ⟨trivial⟩ | exact sAll rfl | exact sF1 rfl | exact sBld (by repeat' (first | exact trivial | rfl | exact Nat.le_of_ble_eq_true rfl | refine And.intro ?_ ?_)) rfl | exact sBS (by repeat' (first | exact trivial | rfl | exact Nat.le_of_ble_eq_true rfl | refine And.intro ?_ ?_)) rfl rfl rfl rfl | exact sLe rfl | exact Chk.mk (by kernel_rfl) | exact ⟨Chk.mk (by kernel_rfl)⟩ | exact sLeEq rfl rfl | exact sAnd (by repeat' constructor) (c_impl_in _ _ _) | exact sAnd (by repeat' constructor) (c_impl_AccOk _ hn.acc) | exact sAnd (by repeat' constructor) (c_impl_listOk _ (Nat.le_trans hk.1 (by decide)) hk.2) | refine fun h => ?_)
    all_goals try dsimp only at *
    all_goals try simp only [List.length_map, beq_iff_eq, beq_eq_false_iff_ne, ne_eq, decide_eq_true_eq, decide_eq_false_iff_not, Bool.not_eq_true', Bool.not_eq_false', bne_iff_ne, bne_eq_false_iff_eq] at *
    all_goals try (refine Side.mk ?_; simp_all; done)
    all_goals try (refine Side.mk ?_; simp_all; omega)
    refine W.loopC (D := Nat) (fun i => [(38, .row (qu.getD i default).cells), (41, .res (ob (entryOk (qu.getD i default))))]) TTok hmo
      (fun i => ⟨89, 1, [(1, .one (.ptr 0 0 0)), (2, ob false), (34, .one (.ag (qu.map Entry.cells))), (35, oi qu.length), (36, oi i)], [(0, .box (nodeA id ac kn sq ph ba fr be cu vo bu pr ⟨wn, ⟨q1, q2⟩, wr⟩ qu))]⟩) (fun i => qu.length - i) (fun i => i ≤ qu.length ∧ (qu.take i).all queueOk = true) 0 [] ⟨by omega, by simp⟩ ?_ ?_
    · show subC _ _ _ _
      repeat' (first | exact trivial | exact Side.mk rfl | exact Chk.mk (by kernel_rfl) | exact ⟨Chk.mk (by kernel_rfl)⟩ | refine And.intro ?_ ?_ | rfl)
      all_goals exact ⟨by simp⟩
    · intro i ⟨hi, hp⟩
      clear hN hlb
      repeat' (first | refine And.intro ?_ ?_ | exact tf | exact ft | refine tt ?_ | refine ff ?_ | exact ⟨trivial⟩ | exact sAll rfl | exact sF1 rfl | exact sBld (by repeat' (first | exact trivial | rfl | exact Nat.le_of_ble_eq_true rfl | refine And.intro ?_ ?_)) rfl | exact sBS (by repeat' (first | exact trivial | rfl | exact Nat.le_of_ble_eq_true rfl | refine And.intro ?_ ?_)) rfl rfl rfl rfl | exact sLe rfl | exact Chk.mk (by kernel_rfl) | exact ⟨Chk.mk (by kernel_rfl)⟩ | exact sLeEq rfl rfl | exact sAnd (by repeat' constructor) (c_impl_ProgOk _ (Nat.le_trans hn.prog (by decide))) | exact sAnd (by repeat' constructor) (c_impl_CertEntry _ hwa) | exact sAnd (by repeat' constructor) (c_impl_CertLike ⟨wn, ⟨q1, q2⟩, wr⟩ (zeroE false) hwa zeroRun_ok) | exact sAnd (by repeat' constructor) (hl8) | refine fun h => ?_)
      all_goals clear hl8
      all_goals try simp only [decide_eq_true_eq, decide_eq_false_iff_not, List.length_map, Bool.not_eq_true', Bool.not_eq_false', Bool.not_eq_eq_eq_not, Bool.not_true, Bool.not_false, bne_iff_ne, ne_eq, bne_eq_false_iff_eq, beq_iff_eq, beq_eq_false_iff_ne] at *
      all_goals try (exact sRow (by omega) (row_at qu _ (by omega)) rfl)
      all_goals try (exact sAnd (by repeat' constructor) (c_impl_CertEntry _ (hqu _ (getD_mem (by omega)))))
      all_goals try (exact ⟨⟨trivial, Nat.le_of_ble_eq_true rfl⟩, fun g hg => by simp at hg; rcases hg with rfl | rfl <;> rfl⟩)
      · refine ⟨?_⟩; have := all_bad (f := queueOk) (xs := qu) (i := i) (by omega) (by simp_all [queueOk]); simp [this]
      · refine ⟨i + 1, [], by omega, ⟨by omega, all_step (by omega) hp (by simp_all [queueOk])⟩, ?_⟩
        repeat' (first | exact trivial | exact Side.mk rfl | exact Chk.mk (by kernel_rfl) | exact ⟨Chk.mk (by kernel_rfl)⟩ | exact ⟨wrap_succ (n := qu.length) (by omega) (by omega)⟩ | refine And.intro ?_ ?_ | rfl)
      · refine ⟨?_⟩; have := all_bad (f := queueOk) (xs := qu) (i := i) (by omega) (by simp_all [queueOk]); simp [this]
      all_goals (have hq := all_end (by omega) hp; clear hp; refine Side.mk ?_)
      all_goals try (simp_all [wantsOk]; done)
      all_goals try (simp_all [wantsOk]; omega)
      all_goals have hpr : pr ≠ [] := fun e => by (subst e; simp at h)
      all_goals simp_all [wantsOk]
  · have hN : nodeOk n = false := by
      have : inr n.id 0 2 = false := by simpa using hid
      simp [nodeOk, this]
    rw [hN]
    obtain ⟨id, ac, kn, sq, ph, ba, fr, be, cu, vo, bu, pr, wa, qu⟩ := n
    have hid : ¬ inr id 0 2 = true := hid
    refine Pure.vc [(7, .res (ob (inr id 0 2)))] TTok hmo Go.Proofs.Tryz.func22 (by kernel_rfl) rfl (by kernel_rfl) ?_
    repeat' (first | refine And.intro ?_ ?_ | exact tf | exact ft | refine tt ?_ | refine ff ?_ | exact fun h => absurd (show inr id 0 2 = true by simpa using h) hid | exact ⟨trivial⟩ | exact sAll rfl | exact sF1 rfl | exact sBld (by repeat' (first | exact trivial | rfl | exact Nat.le_of_ble_eq_true rfl | refine And.intro ?_ ?_)) rfl | exact sBS (by repeat' (first | exact trivial | rfl | exact Nat.le_of_ble_eq_true rfl | refine And.intro ?_ ?_)) rfl rfl rfl rfl | exact sLe rfl | exact Chk.mk (by kernel_rfl) | exact ⟨Chk.mk (by kernel_rfl)⟩ | exact sLeEq rfl rfl | exact sAnd (by repeat' constructor) (c_impl_in _ _ _) | refine fun h => ?_)
    all_goals (refine Side.mk ?_; simp)
end Mg
