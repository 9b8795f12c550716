/- Runs that are right: spec's walk. No condition. -/
import Derived.Test.YthflichlfpmenaaGreatR1O
namespace Mg
open Go Go.RowKit
set_option maxRecDepth 100000
set_option linter.unusedVariables false
set_option linter.unusedSimpArgs false
attribute [local irreducible] W Pure
theorem atI_saw {xs : List Two} {b : Int} : atI xs b ≥ 0 ↔ saw xs b = true := by
  rw [← atI_neg, decide_eq_true_eq]
theorem atI_nsaw {xs : List Two} {b : Int} : ¬ atI xs b ≥ 0 ↔ saw xs b = false := by
  rw [← atI_neg, decide_eq_false_iff_not]
set_option maxHeartbeats 2000000 in
theorem c_spec_ExecOk (x : Run) (hx : x.ok lim) : Pure PP false 67 [.agg x.cells] (ob (execOk x)) := by
  obtain ⟨rs, ps, c, d⟩ := x
  have hxr : rs.length ≤ 1048576 := hx.1
  have hxp : ps.length ≤ 1048576 := hx.2
  by_cases hh : headOk ⟨rs, ps, c, d⟩ = true
  · refine Pure.vc [(16, .res (ob (inr c (-1000000) 1000000)))] TTok hmo Go.Proofs.Tryz.func67 (by kernel_rfl) rfl (by kernel_rfl) ?_
    repeat' (first | refine And.intro ?_ ?_ | exact tf | exact ft | refine tt ?_ | refine ff ?_ | exact ⟨trivial⟩ | exact sAll rfl | exact sF1 rfl | exact sBld (by repeat' (first | exact trivial | rfl | exact Nat.le_of_ble_eq_true rfl | refine And.intro ?_ ?_)) rfl | exact sBS (by repeat' (first | exact trivial | rfl | exact Nat.le_of_ble_eq_true rfl | refine And.intro ?_ ?_)) rfl rfl rfl rfl | exact sLe rfl | exact Chk.mk (by kernel_rfl) | exact ⟨Chk.mk (by kernel_rfl)⟩ | exact sLeEq rfl rfl | exact sAnd (by repeat' constructor) (c_l1Num _) | refine fun h => ?_)
    all_goals try (exfalso; simp_all [headOk, inr]; done)
    all_goals try (exfalso; simp_all [headOk, inr]; omega)
    all_goals repeat (first | clear h | (rename_i hz; clear hz))
    all_goals (
     refine W.loopC (D := Nat) (fun i => [(56, .row (rs.getD i default).cells), (59, .res (ob (inr (rs.getD i default).a 0 3))), (65, .row (rs.getD i default).cells), (74, .row (rs.getD i default).cells), (87, .row (rs.getD i default).cells), (90, .res (ob (saw (rs.take i) (rs.getD i default).a)))]) TTok hmo
      (fun i => ⟨131, 1, [(1, .one (.ptr 0 0 0)), (2, ob false), (3, oi i)], [(0, .box [.ag (rs.map Two.cells), .ag (ps.map Two.cells), i6 c, i6 d])]⟩) (fun i => rs.length - i) (fun i => i ≤ rs.length ∧ ∀ j, j < i → elemOk 0 rs j = true) 0 [] ⟨by omega, fun j hj => by omega⟩ ?_ ?body)
    case body =>
      intro i ⟨hi, hp⟩
      repeat' (first | refine And.intro ?_ ?_ | exact tf | exact ft | refine tt ?_ | refine ff ?_ | exact ⟨trivial⟩ | exact sAll rfl | exact sF1 rfl | exact sBld (by repeat' (first | exact trivial | rfl | exact Nat.le_of_ble_eq_true rfl | refine And.intro ?_ ?_)) rfl | exact sBS (by repeat' (first | exact trivial | rfl | exact Nat.le_of_ble_eq_true rfl | refine And.intro ?_ ?_)) rfl rfl rfl rfl | exact sLe rfl | exact Chk.mk (by kernel_rfl) | exact ⟨Chk.mk (by kernel_rfl)⟩ | exact sLeEq rfl rfl | exact sAnd (by repeat' constructor) (c_l2Box _) | refine fun h => ?_)
      all_goals try (exact sRow (by simp_all) (row_at rs _ (by simp_all)) rfl)
      all_goals simp only [decide_eq_true_eq, decide_eq_false_iff_not, List.length_map, Bool.not_false, Bool.not_true, Bool.not_eq_true', Bool.not_eq_false'] at *
      · refine ⟨⟨by omega, by omega, by omega⟩, fun r hr => ?_⟩
        obtain ⟨y, _, rfl⟩ := List.mem_map.1 hr; rfl
      · exact sAnd (by repeat' constructor) (c_l3Saw' (by simp [List.map_take]) (by unfold maxLen; simp; omega))
      · refine ⟨?_⟩
        have := listOk_bad (lo := 0) (xs := rs) (i := i) (by omega) (by simp_all [elemOk])
        simp [execOk, this]
      · refine ⟨i + 1, [], by omega, ⟨by omega, fun j hj => ?_⟩, ?_⟩
        · by_cases e : j = i
          · subst e
            simp_all [elemOk, inr]
            try omega
          · exact hp j (by omega)
        · repeat' (first | exact trivial | exact Side.mk rfl | exact Chk.mk (by kernel_rfl) | exact ⟨Chk.mk (by kernel_rfl)⟩ | exact ⟨wrap_succ (n := rs.length) (by omega) (by omega)⟩ | refine And.intro ?_ ?_ | rfl)
      · refine ⟨?_⟩
        have := listOk_bad (lo := 0) (xs := rs) (i := i) (by omega) (by simp_all [elemOk, inr]; try omega)
        simp [execOk, this]
      · refine ⟨?_⟩
        have := listOk_bad (lo := 0) (xs := rs) (i := i) (by omega) (by simp_all [elemOk, inr]; try omega)
        simp [execOk, this]
      · refine ⟨?_⟩
        have := listOk_bad (lo := 0) (xs := rs) (i := i) (by omega) (by simp_all [elemOk])
        simp [execOk, this]
      · have hr : listOk 0 rs = true := listOk_all (i := i) (by omega) (fun j hj _ => hp j hj)
        clear hp
        refine W.loopC (D := Nat) (fun i => [(102, .row (ps.getD i default).cells), (105, .res (ob (inr (ps.getD i default).a 0 3))), (111, .row (ps.getD i default).cells), (114, .res (ob (inr (ps.getD i default).b (-1000000) 1000000))), (125, .row (ps.getD i default).cells), (128, .res (oi (atI (ps.take i) (ps.getD i default).a)))]) TTok hmo
          (fun i => ⟨131, 1, [(1, .one (.ptr 0 0 0)), (2, ob false), (4, oi i)], [(0, .box [.ag (rs.map Two.cells), .ag (ps.map Two.cells), i6 c, i6 d])]⟩) (fun i => ps.length - i) (fun i => i ≤ ps.length ∧ ∀ j, j < i → elemOk (-1000000) ps j = true) 0 [] ⟨by omega, fun j hj => by omega⟩ ?_ ?_
        · show subC _ _ _ _
          repeat' (first | exact trivial | exact Side.mk rfl | exact Chk.mk (by kernel_rfl) | exact ⟨Chk.mk (by kernel_rfl)⟩ | refine And.intro ?_ ?_ | rfl)
        intro i ⟨hi, hp⟩
        repeat' (first | refine And.intro ?_ ?_ | exact tf | exact ft | refine tt ?_ | refine ff ?_ | exact ⟨trivial⟩ | exact sAll rfl | exact sF1 rfl | exact sBld (by repeat' (first | exact trivial | rfl | exact Nat.le_of_ble_eq_true rfl | refine And.intro ?_ ?_)) rfl | exact sBS (by repeat' (first | exact trivial | rfl | exact Nat.le_of_ble_eq_true rfl | refine And.intro ?_ ?_)) rfl rfl rfl rfl | exact sLe rfl | exact Chk.mk (by kernel_rfl) | exact ⟨Chk.mk (by kernel_rfl)⟩ | exact sLeEq rfl rfl | exact sAnd (by repeat' constructor) (c_l2Box _) | exact sAnd (by repeat' constructor) (c_l1Num _) | refine fun h => ?_)
        all_goals try (exact sRow (by simp_all) (row_at ps _ (by simp_all)) rfl)
        all_goals simp only [decide_eq_true_eq, decide_eq_false_iff_not, List.length_map, Bool.not_false, Bool.not_true, Bool.not_eq_true', Bool.not_eq_false'] at *
        · refine ⟨⟨by omega, by omega, by omega⟩, fun r hr => ?_⟩
          obtain ⟨y, _, rfl⟩ := List.mem_map.1 hr; rfl
        · exact sAnd (by repeat' constructor) (c_l3At' (by simp [List.map_take]) (by unfold maxLen; simp; omega))
        · refine ⟨?_⟩
          have hs := atI_saw.1 h
          have := listOk_bad (lo := -1000000) (xs := ps) (i := i) (by omega) (by simp_all [elemOk])
          simp [execOk, this]
        · have hs := atI_nsaw.1 h
          refine ⟨i + 1, [], by omega, ⟨by omega, fun j hj => ?_⟩, ?_⟩
          · by_cases e : j = i
            · subst e
              simp_all [elemOk, inr]
              try omega
            · exact hp j (by omega)
          · repeat' (first | exact trivial | exact Side.mk rfl | exact Chk.mk (by kernel_rfl) | exact ⟨Chk.mk (by kernel_rfl)⟩ | exact ⟨wrap_succ (n := ps.length) (by omega) (by omega)⟩ | refine And.intro ?_ ?_ | rfl)
        · refine ⟨?_⟩
          have := listOk_bad (lo := -1000000) (xs := ps) (i := i) (by omega) (by simp_all [elemOk])
          simp [execOk, this]
        · refine ⟨?_⟩
          have := listOk_bad (lo := -1000000) (xs := ps) (i := i) (by omega) (by simp_all [elemOk])
          simp [execOk, this]
        · have hq : listOk (-1000000) ps = true := listOk_all (i := i) (by omega) (fun j hj _ => hp j hj)
          refine ⟨?_⟩
          simp [execOk, hh, hr, hq]
    all_goals (show subC _ _ _ _; repeat' (first | exact trivial | exact Side.mk rfl | exact Chk.mk (by kernel_rfl) | exact ⟨Chk.mk (by kernel_rfl)⟩ | refine And.intro ?_ ?_ | rfl))
  · refine Pure.vc [(16, .res (ob (inr c (-1000000) 1000000)))] TTok hmo Go.Proofs.Tryz.func67 (by kernel_rfl) rfl (by kernel_rfl) ?_
    repeat' (first | refine And.intro ?_ ?_ | exact tf | exact ft | refine tt ?_ | refine ff ?_ | exact ⟨trivial⟩ | exact sAll rfl | exact sF1 rfl | exact sBld (by repeat' (first | exact trivial | rfl | exact Nat.le_of_ble_eq_true rfl | refine And.intro ?_ ?_)) rfl | exact sBS (by repeat' (first | exact trivial | rfl | exact Nat.le_of_ble_eq_true rfl | refine And.intro ?_ ?_)) rfl rfl rfl rfl | exact sLe rfl | exact Chk.mk (by kernel_rfl) | exact ⟨Chk.mk (by kernel_rfl)⟩ | exact sLeEq rfl rfl | exact sAnd (by repeat' constructor) (c_l1Num _) | refine fun h => ?_)
    all_goals try (exfalso; apply hh; simp_all [headOk, inr]; done)
    all_goals (refine Side.mk ?_; simp_all [execOk])
end Mg
