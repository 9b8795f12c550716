/- Parts of the abstract state logic and of the walks, one behind the other: R1Q, R1U, H1. No condition. -/
import Derived.Test.YtedgmfmhilihoaaGreatP15
import Derived.Test.YtedgmfmhilihoaaGreatP12
import Derived.Test.YtedgmfmhilihoaaGreatP13
/- Runs that are right: impl's walk. No condition. -/
namespace Mg
open Go Go.RowKit
set_option maxRecDepth 100000
set_option linter.unusedVariables false
set_option linter.unusedSimpArgs false
attribute [local irreducible] W Pure
theorem inr_cases {a : Int} : a = 0 ∨ a = 1 ∨ a = 2 ∨ a = 3 ∨ inr a 0 3 = false := by
  by_cases h : inr a 0 3 = true
  · simp only [inr, Bool.and_eq_true, decide_eq_true_eq] at h; omega
  · simp only [Bool.not_eq_true] at h; simp [h]
theorem saw_other {xs : List Two} {i : Nat} {a b k : Int} (hi : i < xs.length) (hx : xs.getD i default = ⟨a, b⟩) (h : a ≠ k) : saw (xs.take (i + 1)) k = saw (xs.take i) k := by
  rw [saw_step hi, hx]; simp [h]
theorem saw_this {xs : List Two} {i : Nat} {a b : Int} (hi : i < xs.length) (hx : xs.getD i default = ⟨a, b⟩) : saw (xs.take (i + 1)) a = true := by
  rw [saw_step hi, hx]; simp
theorem row_is {xs : List Two} {i : Nat} {x : Two} (h : i < xs.length) (hx : xs.getD i default = x) : (xs.map Two.cells)[((i : Int)).toNat]? = some x.cells := by
  rw [← hx]; exact row_at xs _ h
theorem elemOk_is {lo : Int} {xs : List Two} {i : Nat} {a b : Int} (hx : xs.getD i default = ⟨a, b⟩) : elemOk lo xs i = (inr a 0 3 && inr b lo 1000000 && !saw (xs.take i) a) := by
  unfold elemOk; rw [hx]
set_option maxHeartbeats 4000000 in
theorem c_impl_ExecOk (x : Run) (hx : x.ok lim) : Pure PP false 140 [.agg x.cells] (ob (execOk x)) := by
  obtain ⟨rs, ps, c, d⟩ := x
  have hxr : rs.length ≤ 1048576 := hx.1
  have hxp : ps.length ≤ 1048576 := hx.2
  by_cases hh : headOk ⟨rs, ps, c, d⟩ = true
  · refine Pure.vc [(11, .res (ob (inr d 0 3))), (16, .res (ob (inr c (-1000000) 1000000)))] TTok hmo Go.Proofs.Tryz.func140 (by kernel_rfl) rfl (by kernel_rfl) ?_
    repeat' (first | refine And.intro ?_ ?_ | exact tf | exact ft | refine tt ?_ | refine ff ?_ | exact ⟨trivial⟩ | exact sAll rfl | exact sF1 rfl | exact sBld (by repeat' (first | exact trivial | rfl | exact Nat.le_of_ble_eq_true rfl | refine And.intro ?_ ?_)) rfl | exact sBS (by repeat' (first | exact trivial | rfl | exact Nat.le_of_ble_eq_true rfl | refine And.intro ?_ ?_)) rfl rfl rfl rfl | exact sBSF (by repeat' (first | exact trivial | rfl | exact Nat.le_of_ble_eq_true rfl | refine And.intro ?_ ?_)) rfl rfl rfl rfl | exact sLe rfl | exact Chk.mk (by kernel_rfl) | exact ⟨Chk.mk (by kernel_rfl)⟩ | exact sLeEq rfl rfl | exact sAnd (by repeat' constructor) (c_impl_in _ _ _) | refine fun h => ?_)
    all_goals try (exfalso; simp_all [headOk, inr]; done)
    all_goals try (exfalso; simp_all [headOk, inr]; omega)
    all_goals repeat (first | clear h | (rename_i hz; clear hz))
    all_goals (
     refine W.loopC (D := Nat) (fun i => [(51, .row (rs.getD i default).cells), (55, .res (ob (inr (rs.getD i default).a 0 3))), (66, .res (ob (inr (rs.getD i default).b (0) 1000000)))]) TTok hmo
      (fun i => ⟨100, 3, [(1, .one (.ptr 0 0 0)), (2, ob false), (3, .one (.ptr 1 0 0)), (4, .one (.ptr 2 0 0)), (47, .one (.ag (rs.map Two.cells))), (48, oi rs.length), (49, oi i)], [(0, .box [.ag (rs.map Two.cells), .ag (ps.map Two.cells), i6 c, i6 d]), (1, .box [bo (saw (rs.take i) 0), bo (saw (rs.take i) 1), bo (saw (rs.take i) 2), bo (saw (rs.take i) 3)]), (2, .box [bo false, bo false, bo false, bo false])]⟩) (fun i => rs.length - i) (fun i => i ≤ rs.length ∧ ∀ j, j < i → elemOk (0) rs j = true) 0 [] ⟨by omega, fun j hj => by omega⟩ ?_ ?body)
    case body =>
      intro i ⟨hi, hp⟩
      obtain ⟨a, b, hx⟩ : ∃ a b, rs.getD i default = ⟨a, b⟩ := ⟨_, _, rfl⟩
      by_cases hlt : i < rs.length
      · rw [hx]
        rcases inr_cases (a := a) with rfl | rfl | rfl | rfl | ha
        · repeat' (first | refine And.intro ?_ ?_ | exact tf | exact ft | refine tt ?_ | refine ff ?_ | exact ⟨trivial⟩ | exact sAll rfl | exact sF1 rfl | exact sBld (by repeat' (first | exact trivial | rfl | exact Nat.le_of_ble_eq_true rfl | refine And.intro ?_ ?_)) rfl | exact sBS (by repeat' (first | exact trivial | rfl | exact Nat.le_of_ble_eq_true rfl | refine And.intro ?_ ?_)) rfl rfl rfl rfl | exact sBSF (by repeat' (first | exact trivial | rfl | exact Nat.le_of_ble_eq_true rfl | refine And.intro ?_ ?_)) rfl rfl rfl rfl | exact sLe rfl | exact Chk.mk (by kernel_rfl) | exact ⟨Chk.mk (by kernel_rfl)⟩ | exact sLeEq rfl rfl | exact sAnd (by repeat' constructor) (c_impl_in _ _ _) | refine fun h => ?_)
          all_goals try (exfalso; simp_all; done)
          all_goals simp only [decide_eq_true_eq, decide_eq_false_iff_not, List.length_map, Bool.not_false, Bool.not_true, Bool.not_eq_true', Bool.not_eq_false'] at *
          · exact sRow (by omega) (row_is (by omega) hx) rfl
          · exact ⟨by decide⟩
          · refine ⟨?_⟩
            have := listOk_bad (lo := 0) (xs := rs) (i := i) (by omega) (by rw [elemOk_is hx]; simp_all)
            simp [execOk, this]
          · exact ⟨by decide⟩
          · refine ⟨i + 1, [], by omega, ⟨by omega, fun j hj => ?_⟩, ?_⟩
            · by_cases e : j = i
              · subst e; rw [elemOk_is hx]; simp_all [inr]
              · exact hp j (by omega)
            · repeat' (first | exact trivial | exact Side.mk rfl | exact Chk.mk (by kernel_rfl) | exact ⟨Chk.mk (by kernel_rfl)⟩ | exact ⟨wrap_succ (n := rs.length) (by omega) (by omega)⟩ | refine And.intro ?_ ?_ | rfl)
              · exact ⟨by rw [saw_this hlt hx]⟩
              · exact ⟨by rw [saw_other hlt hx (by decide)]⟩
              · exact ⟨by rw [saw_other hlt hx (by decide)]⟩
              · exact ⟨by rw [saw_other hlt hx (by decide)]⟩
          · refine ⟨?_⟩
            have := listOk_bad (lo := 0) (xs := rs) (i := i) (by omega) (by rw [elemOk_is hx]; simp_all)
            simp [execOk, this]
        · repeat' (first | refine And.intro ?_ ?_ | exact tf | exact ft | refine tt ?_ | refine ff ?_ | exact ⟨trivial⟩ | exact sAll rfl | exact sF1 rfl | exact sBld (by repeat' (first | exact trivial | rfl | exact Nat.le_of_ble_eq_true rfl | refine And.intro ?_ ?_)) rfl | exact sBS (by repeat' (first | exact trivial | rfl | exact Nat.le_of_ble_eq_true rfl | refine And.intro ?_ ?_)) rfl rfl rfl rfl | exact sBSF (by repeat' (first | exact trivial | rfl | exact Nat.le_of_ble_eq_true rfl | refine And.intro ?_ ?_)) rfl rfl rfl rfl | exact sLe rfl | exact Chk.mk (by kernel_rfl) | exact ⟨Chk.mk (by kernel_rfl)⟩ | exact sLeEq rfl rfl | exact sAnd (by repeat' constructor) (c_impl_in _ _ _) | refine fun h => ?_)
          all_goals try (exfalso; simp_all; done)
          all_goals simp only [decide_eq_true_eq, decide_eq_false_iff_not, List.length_map, Bool.not_false, Bool.not_true, Bool.not_eq_true', Bool.not_eq_false'] at *
          · exact sRow (by omega) (row_is (by omega) hx) rfl
          · exact ⟨by decide⟩
          · refine ⟨?_⟩
            have := listOk_bad (lo := 0) (xs := rs) (i := i) (by omega) (by rw [elemOk_is hx]; simp_all)
            simp [execOk, this]
          · exact ⟨by decide⟩
          · refine ⟨i + 1, [], by omega, ⟨by omega, fun j hj => ?_⟩, ?_⟩
            · by_cases e : j = i
              · subst e; rw [elemOk_is hx]; simp_all [inr]
              · exact hp j (by omega)
            · repeat' (first | exact trivial | exact Side.mk rfl | exact Chk.mk (by kernel_rfl) | exact ⟨Chk.mk (by kernel_rfl)⟩ | exact ⟨wrap_succ (n := rs.length) (by omega) (by omega)⟩ | refine And.intro ?_ ?_ | rfl)
              · exact ⟨by rw [saw_other hlt hx (by decide)]⟩
              · exact ⟨by rw [saw_this hlt hx]⟩
              · exact ⟨by rw [saw_other hlt hx (by decide)]⟩
              · exact ⟨by rw [saw_other hlt hx (by decide)]⟩
          · refine ⟨?_⟩
            have := listOk_bad (lo := 0) (xs := rs) (i := i) (by omega) (by rw [elemOk_is hx]; simp_all)
            simp [execOk, this]
        · repeat' (first | refine And.intro ?_ ?_ | exact tf | exact ft | refine tt ?_ | refine ff ?_ | exact ⟨trivial⟩ | exact sAll rfl | exact sF1 rfl | exact sBld (by repeat' (first | exact trivial | rfl | exact Nat.le_of_ble_eq_true rfl | refine And.intro ?_ ?_)) rfl | exact sBS (by repeat' (first | exact trivial | rfl | exact Nat.le_of_ble_eq_true rfl | refine And.intro ?_ ?_)) rfl rfl rfl rfl | exact sBSF (by repeat' (first | exact trivial | rfl | exact Nat.le_of_ble_eq_true rfl | refine And.intro ?_ ?_)) rfl rfl rfl rfl | exact sLe rfl | exact Chk.mk (by kernel_rfl) | exact ⟨Chk.mk (by kernel_rfl)⟩ | exact sLeEq rfl rfl | exact sAnd (by repeat' constructor) (c_impl_in _ _ _) | refine fun h => ?_)
          all_goals try (exfalso; simp_all; done)
          all_goals simp only [decide_eq_true_eq, decide_eq_false_iff_not, List.length_map, Bool.not_false, Bool.not_true, Bool.not_eq_true', Bool.not_eq_false'] at *
          · exact sRow (by omega) (row_is (by omega) hx) rfl
          · exact ⟨by decide⟩
          · refine ⟨?_⟩
            have := listOk_bad (lo := 0) (xs := rs) (i := i) (by omega) (by rw [elemOk_is hx]; simp_all)
            simp [execOk, this]
          · exact ⟨by decide⟩
          · refine ⟨i + 1, [], by omega, ⟨by omega, fun j hj => ?_⟩, ?_⟩
            · by_cases e : j = i
              · subst e; rw [elemOk_is hx]; simp_all [inr]
              · exact hp j (by omega)
            · repeat' (first | exact trivial | exact Side.mk rfl | exact Chk.mk (by kernel_rfl) | exact ⟨Chk.mk (by kernel_rfl)⟩ | exact ⟨wrap_succ (n := rs.length) (by omega) (by omega)⟩ | refine And.intro ?_ ?_ | rfl)
              · exact ⟨by rw [saw_other hlt hx (by decide)]⟩
              · exact ⟨by rw [saw_other hlt hx (by decide)]⟩
              · exact ⟨by rw [saw_this hlt hx]⟩
              · exact ⟨by rw [saw_other hlt hx (by decide)]⟩
          · refine ⟨?_⟩
            have := listOk_bad (lo := 0) (xs := rs) (i := i) (by omega) (by rw [elemOk_is hx]; simp_all)
            simp [execOk, this]
        · repeat' (first | refine And.intro ?_ ?_ | exact tf | exact ft | refine tt ?_ | refine ff ?_ | exact ⟨trivial⟩ | exact sAll rfl | exact sF1 rfl | exact sBld (by repeat' (first | exact trivial | rfl | exact Nat.le_of_ble_eq_true rfl | refine And.intro ?_ ?_)) rfl | exact sBS (by repeat' (first | exact trivial | rfl | exact Nat.le_of_ble_eq_true rfl | refine And.intro ?_ ?_)) rfl rfl rfl rfl | exact sBSF (by repeat' (first | exact trivial | rfl | exact Nat.le_of_ble_eq_true rfl | refine And.intro ?_ ?_)) rfl rfl rfl rfl | exact sLe rfl | exact Chk.mk (by kernel_rfl) | exact ⟨Chk.mk (by kernel_rfl)⟩ | exact sLeEq rfl rfl | exact sAnd (by repeat' constructor) (c_impl_in _ _ _) | refine fun h => ?_)
          all_goals try (exfalso; simp_all; done)
          all_goals simp only [decide_eq_true_eq, decide_eq_false_iff_not, List.length_map, Bool.not_false, Bool.not_true, Bool.not_eq_true', Bool.not_eq_false'] at *
          · exact sRow (by omega) (row_is (by omega) hx) rfl
          · exact ⟨by decide⟩
          · refine ⟨?_⟩
            have := listOk_bad (lo := 0) (xs := rs) (i := i) (by omega) (by rw [elemOk_is hx]; simp_all)
            simp [execOk, this]
          · exact ⟨by decide⟩
          · refine ⟨i + 1, [], by omega, ⟨by omega, fun j hj => ?_⟩, ?_⟩
            · by_cases e : j = i
              · subst e; rw [elemOk_is hx]; simp_all [inr]
              · exact hp j (by omega)
            · repeat' (first | exact trivial | exact Side.mk rfl | exact Chk.mk (by kernel_rfl) | exact ⟨Chk.mk (by kernel_rfl)⟩ | exact ⟨wrap_succ (n := rs.length) (by omega) (by omega)⟩ | refine And.intro ?_ ?_ | rfl)
              · exact ⟨by rw [saw_other hlt hx (by decide)]⟩
              · exact ⟨by rw [saw_other hlt hx (by decide)]⟩
              · exact ⟨by rw [saw_other hlt hx (by decide)]⟩
              · exact ⟨by rw [saw_this hlt hx]⟩
          · refine ⟨?_⟩
            have := listOk_bad (lo := 0) (xs := rs) (i := i) (by omega) (by rw [elemOk_is hx]; simp_all)
            simp [execOk, this]
        · repeat' (first | refine And.intro ?_ ?_ | exact tf | exact ft | refine tt ?_ | refine ff ?_ | exact ⟨trivial⟩ | exact sAll rfl | exact sF1 rfl | exact sBld (by repeat' (first | exact trivial | rfl | exact Nat.le_of_ble_eq_true rfl | refine And.intro ?_ ?_)) rfl | exact sBS (by repeat' (first | exact trivial | rfl | exact Nat.le_of_ble_eq_true rfl | refine And.intro ?_ ?_)) rfl rfl rfl rfl | exact sBSF (by repeat' (first | exact trivial | rfl | exact Nat.le_of_ble_eq_true rfl | refine And.intro ?_ ?_)) rfl rfl rfl rfl | exact sLe rfl | exact Chk.mk (by kernel_rfl) | exact ⟨Chk.mk (by kernel_rfl)⟩ | exact sLeEq rfl rfl | exact sAnd (by repeat' constructor) (c_impl_in _ _ _) | refine fun h => ?_)
          all_goals try (exfalso; simp_all; done)
          all_goals simp only [decide_eq_true_eq, decide_eq_false_iff_not, List.length_map, Bool.not_false, Bool.not_true, Bool.not_eq_true', Bool.not_eq_false'] at *
          · exact sRow (by omega) (row_is (by omega) hx) rfl
          · refine ⟨?_⟩
            have := listOk_bad (lo := 0) (xs := rs) (i := i) (by omega) (by rw [elemOk_is hx]; simp_all)
            simp [execOk, this]
      · have hqrs : listOk (0) rs = true := listOk_all (i := i) (by omega) (fun j hj _ => hp j hj)
        clear hp hx
        repeat' (first | refine And.intro ?_ ?_ | exact tf | exact ft | refine tt ?_ | refine ff ?_ | exact ⟨trivial⟩ | exact sAll rfl | exact sF1 rfl | exact sBld (by repeat' (first | exact trivial | rfl | exact Nat.le_of_ble_eq_true rfl | refine And.intro ?_ ?_)) rfl | exact sBS (by repeat' (first | exact trivial | rfl | exact Nat.le_of_ble_eq_true rfl | refine And.intro ?_ ?_)) rfl rfl rfl rfl | exact sBSF (by repeat' (first | exact trivial | rfl | exact Nat.le_of_ble_eq_true rfl | refine And.intro ?_ ?_)) rfl rfl rfl rfl | exact sLe rfl | exact Chk.mk (by kernel_rfl) | exact ⟨Chk.mk (by kernel_rfl)⟩ | exact sLeEq rfl rfl | refine fun h => ?_)
        all_goals try (exfalso; simp_all; done)
        all_goals try (exfalso; simp at *; omega)
        refine W.loopC (D := Nat) (fun i => [(78, .row (ps.getD i default).cells), (82, .res (ob (inr (ps.getD i default).a 0 3))), (93, .res (ob (inr (ps.getD i default).b (-1000000) 1000000)))]) TTok hmo
              (fun i => ⟨100, 3, [(1, .one (.ptr 0 0 0)), (2, ob false), (3, .one (.ptr 1 0 0)), (4, .one (.ptr 2 0 0)), (74, .one (.ag (ps.map Two.cells))), (75, oi ps.length), (76, oi i)], [(0, .box [.ag (rs.map Two.cells), .ag (ps.map Two.cells), i6 c, i6 d]), (2, .box [bo (saw (ps.take i) 0), bo (saw (ps.take i) 1), bo (saw (ps.take i) 2), bo (saw (ps.take i) 3)])]⟩) (fun i => ps.length - i) (fun i => i ≤ ps.length ∧ ∀ j, j < i → elemOk (-1000000) ps j = true) 0 [] ⟨by omega, fun j hj => by omega⟩ ?_ ?_
        · show subC _ _ _ _
          repeat' (first | exact trivial | exact Side.mk rfl | exact Chk.mk (by kernel_rfl) | exact ⟨Chk.mk (by kernel_rfl)⟩ | refine And.intro ?_ ?_ | rfl)
          all_goals exact ⟨by simp⟩
        · intro i ⟨hi, hp⟩
          obtain ⟨a, b, hx⟩ : ∃ a b, ps.getD i default = ⟨a, b⟩ := ⟨_, _, rfl⟩
          by_cases hlt : i < ps.length
          · rw [hx]
            rcases inr_cases (a := a) with rfl | rfl | rfl | rfl | ha
            · repeat' (first | refine And.intro ?_ ?_ | exact tf | exact ft | refine tt ?_ | refine ff ?_ | exact ⟨trivial⟩ | exact sAll rfl | exact sF1 rfl | exact sBld (by repeat' (first | exact trivial | rfl | exact Nat.le_of_ble_eq_true rfl | refine And.intro ?_ ?_)) rfl | exact sBS (by repeat' (first | exact trivial | rfl | exact Nat.le_of_ble_eq_true rfl | refine And.intro ?_ ?_)) rfl rfl rfl rfl | exact sBSF (by repeat' (first | exact trivial | rfl | exact Nat.le_of_ble_eq_true rfl | refine And.intro ?_ ?_)) rfl rfl rfl rfl | exact sLe rfl | exact Chk.mk (by kernel_rfl) | exact ⟨Chk.mk (by kernel_rfl)⟩ | exact sLeEq rfl rfl | exact sAnd (by repeat' constructor) (c_impl_in _ _ _) | refine fun h => ?_)
              all_goals try (exfalso; simp_all; done)
              all_goals simp only [decide_eq_true_eq, decide_eq_false_iff_not, List.length_map, Bool.not_false, Bool.not_true, Bool.not_eq_true', Bool.not_eq_false'] at *
              · exact sRow (by omega) (row_is (by omega) hx) rfl
              · exact ⟨by decide⟩
              · refine ⟨?_⟩
                have := listOk_bad (lo := -1000000) (xs := ps) (i := i) (by omega) (by rw [elemOk_is hx]; simp_all)
                simp [execOk, this]
              · exact ⟨by decide⟩
              · refine ⟨i + 1, [], by omega, ⟨by omega, fun j hj => ?_⟩, ?_⟩
                · by_cases e : j = i
                  · subst e; rw [elemOk_is hx]; simp_all [inr]
                  · exact hp j (by omega)
                · repeat' (first | exact trivial | exact Side.mk rfl | exact Chk.mk (by kernel_rfl) | exact ⟨Chk.mk (by kernel_rfl)⟩ | exact ⟨wrap_succ (n := ps.length) (by omega) (by omega)⟩ | refine And.intro ?_ ?_ | rfl)
                  · exact ⟨by rw [saw_this hlt hx]⟩
                  · exact ⟨by rw [saw_other hlt hx (by decide)]⟩
                  · exact ⟨by rw [saw_other hlt hx (by decide)]⟩
                  · exact ⟨by rw [saw_other hlt hx (by decide)]⟩
              · refine ⟨?_⟩
                have := listOk_bad (lo := -1000000) (xs := ps) (i := i) (by omega) (by rw [elemOk_is hx]; simp_all)
                simp [execOk, this]
            · repeat' (first | refine And.intro ?_ ?_ | exact tf | exact ft | refine tt ?_ | refine ff ?_ | exact ⟨trivial⟩ | exact sAll rfl | exact sF1 rfl | exact sBld (by repeat' (first | exact trivial | rfl | exact Nat.le_of_ble_eq_true rfl | refine And.intro ?_ ?_)) rfl | exact sBS (by repeat' (first | exact trivial | rfl | exact Nat.le_of_ble_eq_true rfl | refine And.intro ?_ ?_)) rfl rfl rfl rfl | exact sBSF (by repeat' (first | exact trivial | rfl | exact Nat.le_of_ble_eq_true rfl | refine And.intro ?_ ?_)) rfl rfl rfl rfl | exact sLe rfl | exact Chk.mk (by kernel_rfl) | exact ⟨Chk.mk (by kernel_rfl)⟩ | exact sLeEq rfl rfl | exact sAnd (by repeat' constructor) (c_impl_in _ _ _) | refine fun h => ?_)
              all_goals try (exfalso; simp_all; done)
              all_goals simp only [decide_eq_true_eq, decide_eq_false_iff_not, List.length_map, Bool.not_false, Bool.not_true, Bool.not_eq_true', Bool.not_eq_false'] at *
              · exact sRow (by omega) (row_is (by omega) hx) rfl
              · exact ⟨by decide⟩
              · refine ⟨?_⟩
                have := listOk_bad (lo := -1000000) (xs := ps) (i := i) (by omega) (by rw [elemOk_is hx]; simp_all)
                simp [execOk, this]
              · exact ⟨by decide⟩
              · refine ⟨i + 1, [], by omega, ⟨by omega, fun j hj => ?_⟩, ?_⟩
                · by_cases e : j = i
                  · subst e; rw [elemOk_is hx]; simp_all [inr]
                  · exact hp j (by omega)
                · repeat' (first | exact trivial | exact Side.mk rfl | exact Chk.mk (by kernel_rfl) | exact ⟨Chk.mk (by kernel_rfl)⟩ | exact ⟨wrap_succ (n := ps.length) (by omega) (by omega)⟩ | refine And.intro ?_ ?_ | rfl)
                  · exact ⟨by rw [saw_other hlt hx (by decide)]⟩
                  · exact ⟨by rw [saw_this hlt hx]⟩
                  · exact ⟨by rw [saw_other hlt hx (by decide)]⟩
                  · exact ⟨by rw [saw_other hlt hx (by decide)]⟩
              · refine ⟨?_⟩
                have := listOk_bad (lo := -1000000) (xs := ps) (i := i) (by omega) (by rw [elemOk_is hx]; simp_all)
                simp [execOk, this]
            · repeat' (first | refine And.intro ?_ ?_ | exact tf | exact ft | refine tt ?_ | refine ff ?_ | exact ⟨trivial⟩ | exact sAll rfl | exact sF1 rfl | exact sBld (by repeat' (first | exact trivial | rfl | exact Nat.le_of_ble_eq_true rfl | refine And.intro ?_ ?_)) rfl | exact sBS (by repeat' (first | exact trivial | rfl | exact Nat.le_of_ble_eq_true rfl | refine And.intro ?_ ?_)) rfl rfl rfl rfl | exact sBSF (by repeat' (first | exact trivial | rfl | exact Nat.le_of_ble_eq_true rfl | refine And.intro ?_ ?_)) rfl rfl rfl rfl | exact sLe rfl | exact Chk.mk (by kernel_rfl) | exact ⟨Chk.mk (by kernel_rfl)⟩ | exact sLeEq rfl rfl | exact sAnd (by repeat' constructor) (c_impl_in _ _ _) | refine fun h => ?_)
              all_goals try (exfalso; simp_all; done)
              all_goals simp only [decide_eq_true_eq, decide_eq_false_iff_not, List.length_map, Bool.not_false, Bool.not_true, Bool.not_eq_true', Bool.not_eq_false'] at *
              · exact sRow (by omega) (row_is (by omega) hx) rfl
              · exact ⟨by decide⟩
              · refine ⟨?_⟩
                have := listOk_bad (lo := -1000000) (xs := ps) (i := i) (by omega) (by rw [elemOk_is hx]; simp_all)
                simp [execOk, this]
              · exact ⟨by decide⟩
              · refine ⟨i + 1, [], by omega, ⟨by omega, fun j hj => ?_⟩, ?_⟩
                · by_cases e : j = i
                  · subst e; rw [elemOk_is hx]; simp_all [inr]
                  · exact hp j (by omega)
                · repeat' (first | exact trivial | exact Side.mk rfl | exact Chk.mk (by kernel_rfl) | exact ⟨Chk.mk (by kernel_rfl)⟩ | exact ⟨wrap_succ (n := ps.length) (by omega) (by omega)⟩ | refine And.intro ?_ ?_ | rfl)
                  · exact ⟨by rw [saw_other hlt hx (by decide)]⟩
                  · exact ⟨by rw [saw_other hlt hx (by decide)]⟩
                  · exact ⟨by rw [saw_this hlt hx]⟩
                  · exact ⟨by rw [saw_other hlt hx (by decide)]⟩
              · refine ⟨?_⟩
                have := listOk_bad (lo := -1000000) (xs := ps) (i := i) (by omega) (by rw [elemOk_is hx]; simp_all)
                simp [execOk, this]
            · repeat' (first | refine And.intro ?_ ?_ | exact tf | exact ft | refine tt ?_ | refine ff ?_ | exact ⟨trivial⟩ | exact sAll rfl | exact sF1 rfl | exact sBld (by repeat' (first | exact trivial | rfl | exact Nat.le_of_ble_eq_true rfl | refine And.intro ?_ ?_)) rfl | exact sBS (by repeat' (first | exact trivial | rfl | exact Nat.le_of_ble_eq_true rfl | refine And.intro ?_ ?_)) rfl rfl rfl rfl | exact sBSF (by repeat' (first | exact trivial | rfl | exact Nat.le_of_ble_eq_true rfl | refine And.intro ?_ ?_)) rfl rfl rfl rfl | exact sLe rfl | exact Chk.mk (by kernel_rfl) | exact ⟨Chk.mk (by kernel_rfl)⟩ | exact sLeEq rfl rfl | exact sAnd (by repeat' constructor) (c_impl_in _ _ _) | refine fun h => ?_)
              all_goals try (exfalso; simp_all; done)
              all_goals simp only [decide_eq_true_eq, decide_eq_false_iff_not, List.length_map, Bool.not_false, Bool.not_true, Bool.not_eq_true', Bool.not_eq_false'] at *
              · exact sRow (by omega) (row_is (by omega) hx) rfl
              · exact ⟨by decide⟩
              · refine ⟨?_⟩
                have := listOk_bad (lo := -1000000) (xs := ps) (i := i) (by omega) (by rw [elemOk_is hx]; simp_all)
                simp [execOk, this]
              · exact ⟨by decide⟩
              · refine ⟨i + 1, [], by omega, ⟨by omega, fun j hj => ?_⟩, ?_⟩
                · by_cases e : j = i
                  · subst e; rw [elemOk_is hx]; simp_all [inr]
                  · exact hp j (by omega)
                · repeat' (first | exact trivial | exact Side.mk rfl | exact Chk.mk (by kernel_rfl) | exact ⟨Chk.mk (by kernel_rfl)⟩ | exact ⟨wrap_succ (n := ps.length) (by omega) (by omega)⟩ | refine And.intro ?_ ?_ | rfl)
                  · exact ⟨by rw [saw_other hlt hx (by decide)]⟩
                  · exact ⟨by rw [saw_other hlt hx (by decide)]⟩
                  · exact ⟨by rw [saw_other hlt hx (by decide)]⟩
                  · exact ⟨by rw [saw_this hlt hx]⟩
              · refine ⟨?_⟩
                have := listOk_bad (lo := -1000000) (xs := ps) (i := i) (by omega) (by rw [elemOk_is hx]; simp_all)
                simp [execOk, this]
            · repeat' (first | refine And.intro ?_ ?_ | exact tf | exact ft | refine tt ?_ | refine ff ?_ | exact ⟨trivial⟩ | exact sAll rfl | exact sF1 rfl | exact sBld (by repeat' (first | exact trivial | rfl | exact Nat.le_of_ble_eq_true rfl | refine And.intro ?_ ?_)) rfl | exact sBS (by repeat' (first | exact trivial | rfl | exact Nat.le_of_ble_eq_true rfl | refine And.intro ?_ ?_)) rfl rfl rfl rfl | exact sBSF (by repeat' (first | exact trivial | rfl | exact Nat.le_of_ble_eq_true rfl | refine And.intro ?_ ?_)) rfl rfl rfl rfl | exact sLe rfl | exact Chk.mk (by kernel_rfl) | exact ⟨Chk.mk (by kernel_rfl)⟩ | exact sLeEq rfl rfl | exact sAnd (by repeat' constructor) (c_impl_in _ _ _) | refine fun h => ?_)
              all_goals try (exfalso; simp_all; done)
              all_goals simp only [decide_eq_true_eq, decide_eq_false_iff_not, List.length_map, Bool.not_false, Bool.not_true, Bool.not_eq_true', Bool.not_eq_false'] at *
              · exact sRow (by omega) (row_is (by omega) hx) rfl
              · refine ⟨?_⟩
                have := listOk_bad (lo := -1000000) (xs := ps) (i := i) (by omega) (by rw [elemOk_is hx]; simp_all)
                simp [execOk, this]
          · have hqps : listOk (-1000000) ps = true := listOk_all (i := i) (by omega) (fun j hj _ => hp j hj)
            clear hp hx
            repeat' (first | refine And.intro ?_ ?_ | exact tf | exact ft | refine tt ?_ | refine ff ?_ | exact ⟨trivial⟩ | exact sAll rfl | exact sF1 rfl | exact sBld (by repeat' (first | exact trivial | rfl | exact Nat.le_of_ble_eq_true rfl | refine And.intro ?_ ?_)) rfl | exact sBS (by repeat' (first | exact trivial | rfl | exact Nat.le_of_ble_eq_true rfl | refine And.intro ?_ ?_)) rfl rfl rfl rfl | exact sBSF (by repeat' (first | exact trivial | rfl | exact Nat.le_of_ble_eq_true rfl | refine And.intro ?_ ?_)) rfl rfl rfl rfl | exact sLe rfl | exact Chk.mk (by kernel_rfl) | exact ⟨Chk.mk (by kernel_rfl)⟩ | exact sLeEq rfl rfl | refine fun h => ?_)
            all_goals try (exfalso; simp_all; done)
            all_goals try (exfalso; simp at *; omega)
            refine ⟨?_⟩
            simp [execOk, hh, hqrs, hqps]
    all_goals (show subC _ _ _ _; repeat' (first | exact trivial | exact Side.mk rfl | exact Chk.mk (by kernel_rfl) | exact ⟨Chk.mk (by kernel_rfl)⟩ | refine And.intro ?_ ?_ | rfl))
    all_goals exact ⟨by simp⟩
  · refine Pure.vc [(11, .res (ob (inr d 0 3))), (16, .res (ob (inr c (-1000000) 1000000)))] TTok hmo Go.Proofs.Tryz.func140 (by kernel_rfl) rfl (by kernel_rfl) ?_
    repeat' (first | refine And.intro ?_ ?_ | exact tf | exact ft | refine tt ?_ | refine ff ?_ | exact ⟨trivial⟩ | exact sAll rfl | exact sF1 rfl | exact sBld (by repeat' (first | exact trivial | rfl | exact Nat.le_of_ble_eq_true rfl | refine And.intro ?_ ?_)) rfl | exact sBS (by repeat' (first | exact trivial | rfl | exact Nat.le_of_ble_eq_true rfl | refine And.intro ?_ ?_)) rfl rfl rfl rfl | exact sBSF (by repeat' (first | exact trivial | rfl | exact Nat.le_of_ble_eq_true rfl | refine And.intro ?_ ?_)) rfl rfl rfl rfl | exact sLe rfl | exact Chk.mk (by kernel_rfl) | exact ⟨Chk.mk (by kernel_rfl)⟩ | exact sLeEq rfl rfl | exact sAnd (by repeat' constructor) (c_impl_in _ _ _) | refine fun h => ?_)
    all_goals try (exfalso; apply hh; simp_all [headOk, inr]; done)
    all_goals (refine Side.mk ?_; simp_all [execOk])
end Mg

/- Entries, votes and acceptors that are right. No condition. -/
namespace Mg
open Go Go.RowKit
set_option maxRecDepth 100000
set_option linter.unusedVariables false
set_option linter.unusedSimpArgs false
attribute [local irreducible] W Pure
theorem all_step {α : Type} [Inhabited α] {f : α → Bool} {xs : List α} {i : Nat} (h : i < xs.length) (hp : (xs.take i).all f = true) (he : f (xs.getD i default) = true) : (xs.take (i + 1)).all f = true := by
  rw [getD_get h] at he
  rw [List.take_succ_eq_append_getElem h, List.all_append]
  simp [hp, he]
theorem all_bad {α : Type} [Inhabited α] {f : α → Bool} {xs : List α} {i : Nat} (h : i < xs.length) (he : f (xs.getD i default) = false) : xs.all f = false := by
  rw [List.all_eq_false]
  exact ⟨_, getD_mem h, by rw [he]; simp⟩
theorem all_end {α : Type} [Inhabited α] {f : α → Bool} {xs : List α} {i : Nat} (h : xs.length ≤ i) (hp : (xs.take i).all f = true) : xs.all f = true := by
  rwa [List.take_of_length_le h] at hp

def zeroRun : Run := ⟨[], [], 0, 0⟩
def zeroE (n : Bool) : Entry := ⟨n, ⟨0, 0⟩, zeroRun⟩
theorem zeroRun_ok {n : Nat} : zeroRun.ok n := ⟨Nat.zero_le _, Nat.zero_le _⟩
def entryOk (e : Entry) : Bool := if e.none then decide (e = zeroE true) else reqOk e.q && execOk e.run && e.run.d != 3
def voteOk (v : Vote) : Bool := if v.bal = 0 then decide (v.e = zeroE false) else inr v.bal 1 3000 && entryOk v.e
def votesOk (xs : List Vote) : Bool := decide (xs.length ≤ 40) && xs.all voteOk
def accOk (a : Acc) : Bool := inr a.p 0 3000 && votesOk a.votes && a.votes.all fun v => decide (v.bal ≤ a.p)

theorem c_impl_CertEntry (e : Entry) (he : e.ok lim) : Pure PP false 99 [.agg e.cells] (ob (entryOk e)) := by
  obtain ⟨n, q, r⟩ := e
  refine Pure.vc [(7, .res (ob (decide (Entry.mk n q r = zeroE true)))), (10, .res (ob (reqOk q))), (14, .res (ob (execOk r)))] TTok hmo Go.Proofs.Tryz.func99 (by kernel_rfl) rfl (by kernel_rfl) ?_
  repeat' (first | refine And.intro ?_ ?_ | exact tf | exact ft | refine tt ?_ | refine ff ?_ | exact ⟨trivial⟩ | exact sAll rfl | exact sF1 rfl | exact sBld (by repeat' (first | exact trivial | rfl | exact Nat.le_of_ble_eq_true rfl | refine And.intro ?_ ?_)) rfl | exact sBS (by repeat' (first | exact trivial | rfl | exact Nat.le_of_ble_eq_true rfl | refine And.intro ?_ ?_)) rfl rfl rfl rfl | exact sBSF (by repeat' (first | exact trivial | rfl | exact Nat.le_of_ble_eq_true rfl | refine And.intro ?_ ?_)) rfl rfl rfl rfl | exact sLe rfl | exact Chk.mk (by kernel_rfl) | exact ⟨Chk.mk (by kernel_rfl)⟩ | exact sLeEq rfl rfl | exact sAnd (by repeat' constructor) (c_impl_CertLike _ (zeroE true) he zeroRun_ok) | exact sAnd (by repeat' constructor) (c_reqOk _) | exact sAnd (by repeat' constructor) (c_impl_ExecOk _ he) | refine fun h => ?_)
  all_goals (refine Side.mk ?_; simp_all [entryOk])
  all_goals repeat' (first | rfl | refine And.intro ?_ ?_)
theorem c_spec_CertEntry (e : Entry) (he : e.ok lim) : Pure PP false 88 [.agg e.cells] (ob (entryOk e)) := by
  obtain ⟨n, ⟨q1, q2⟩, r⟩ := e
  refine Pure.vc [(13, .res (ob (decide (r = zeroRun)))), (17, .res (ob (reqOk ⟨q1, q2⟩))), (21, .res (ob (execOk r)))] TTok hmo Go.Proofs.Tryz.func88 (by kernel_rfl) rfl (by kernel_rfl) ?_
  repeat' (first | refine And.intro ?_ ?_ | exact tf | exact ft | refine tt ?_ | refine ff ?_ | exact ⟨trivial⟩ | exact sAll rfl | exact sF1 rfl | exact sBld (by repeat' (first | exact trivial | rfl | exact Nat.le_of_ble_eq_true rfl | refine And.intro ?_ ?_)) rfl | exact sBS (by repeat' (first | exact trivial | rfl | exact Nat.le_of_ble_eq_true rfl | refine And.intro ?_ ?_)) rfl rfl rfl rfl | exact sBSF (by repeat' (first | exact trivial | rfl | exact Nat.le_of_ble_eq_true rfl | refine And.intro ?_ ?_)) rfl rfl rfl rfl | exact sLe rfl | exact Chk.mk (by kernel_rfl) | exact ⟨Chk.mk (by kernel_rfl)⟩ | exact sLeEq rfl rfl | exact sAnd (by repeat' constructor) (c_spec_ExecSame _ zeroRun he zeroRun_ok) | exact sAnd (by repeat' constructor) (c_l5Req ⟨q1, q2⟩) | exact sAnd (by repeat' constructor) (c_spec_ExecOk _ he) | refine fun h => ?_)
  all_goals (refine Side.mk ?_; simp_all [entryOk, zeroE])
  all_goals repeat' (first | rfl | refine And.intro ?_ ?_)
theorem c_impl_voteOk (v : Vote) (hv : v.ok lim) : Pure PP false 166 [.agg v.cells] (ob (voteOk v)) := by
  obtain ⟨b, e⟩ := v
  refine Pure.vc [(9, .res (ob (decide (e = zeroE false)))), (12, .res (ob (inr b 1 3000))), (16, .res (ob (entryOk e)))] TTok hmo Go.Proofs.Tryz.func166 (by kernel_rfl) rfl (by kernel_rfl) ?_
  repeat' (first | refine And.intro ?_ ?_ | exact tf | exact ft | refine tt ?_ | refine ff ?_ | exact ⟨trivial⟩ | exact sAll rfl | exact sF1 rfl | exact sBld (by repeat' (first | exact trivial | rfl | exact Nat.le_of_ble_eq_true rfl | refine And.intro ?_ ?_)) rfl | exact sBS (by repeat' (first | exact trivial | rfl | exact Nat.le_of_ble_eq_true rfl | refine And.intro ?_ ?_)) rfl rfl rfl rfl | exact sBSF (by repeat' (first | exact trivial | rfl | exact Nat.le_of_ble_eq_true rfl | refine And.intro ?_ ?_)) rfl rfl rfl rfl | exact sLe rfl | exact Chk.mk (by kernel_rfl) | exact ⟨Chk.mk (by kernel_rfl)⟩ | exact sLeEq rfl rfl | exact sAnd (by repeat' constructor) (c_impl_CertLike _ (zeroE false) hv zeroRun_ok) | exact sAnd (by repeat' constructor) (c_impl_in _ _ _) | exact sAnd (by repeat' constructor) (c_impl_CertEntry _ hv) | refine fun h => ?_)
  all_goals (refine Side.mk ?_; simp_all [voteOk])
  all_goals repeat' (first | rfl | refine And.intro ?_ ?_)
theorem c_l6Vote (v : Vote) (hv : v.ok lim) : Pure PP false 158 [.agg v.cells] (ob (voteOk v)) := by
  obtain ⟨b, n, ⟨q1, q2⟩, r⟩ := v
  refine Pure.vc [(22, .res (ob (decide (r = zeroRun)))), (26, .res (ob (inr b 1 3000))), (30, .res (ob (entryOk ⟨n, ⟨q1, q2⟩, r⟩)))] TTok hmo Go.Proofs.Tryz.func158 (by kernel_rfl) rfl (by kernel_rfl) ?_
  repeat' (first | refine And.intro ?_ ?_ | exact tf | exact ft | refine tt ?_ | refine ff ?_ | exact ⟨trivial⟩ | exact sAll rfl | exact sF1 rfl | exact sBld (by repeat' (first | exact trivial | rfl | exact Nat.le_of_ble_eq_true rfl | refine And.intro ?_ ?_)) rfl | exact sBS (by repeat' (first | exact trivial | rfl | exact Nat.le_of_ble_eq_true rfl | refine And.intro ?_ ?_)) rfl rfl rfl rfl | exact sBSF (by repeat' (first | exact trivial | rfl | exact Nat.le_of_ble_eq_true rfl | refine And.intro ?_ ?_)) rfl rfl rfl rfl | exact sLe rfl | exact Chk.mk (by kernel_rfl) | exact ⟨Chk.mk (by kernel_rfl)⟩ | exact sLeEq rfl rfl | exact sAnd (by repeat' constructor) (c_spec_ExecSame _ zeroRun hv zeroRun_ok) | exact sAnd (by repeat' constructor) (c_l6Bal _) | exact sAnd (by repeat' constructor) (c_spec_CertEntry ⟨n, ⟨q1, q2⟩, r⟩ hv) | refine fun h => ?_)
  all_goals (refine Side.mk ?_; simp_all [voteOk, zeroE])
  all_goals repeat' (first | rfl | refine And.intro ?_ ?_)
theorem c_l6Votes (xs : List Vote) (hx : xs.length ≤ maxLen) (hv : ∀ v ∈ xs, v.ok lim) : Pure PP false 128 [.one (.fz (xs.map Vote.cells))] (ob (votesOk xs)) := by
  have hx' : xs.length ≤ 9223372036854775807 := hx
  refine Pure.vc [] TTok hmo Go.Proofs.Tryz.func128 (by kernel_rfl) rfl (by kernel_rfl) ?_
  repeat' (first | refine And.intro ?_ ?_ | exact tf | exact ft | refine tt ?_ | refine ff ?_ | exact ⟨trivial⟩ | exact sAll rfl | exact sF1 rfl | exact sBld (by repeat' (first | exact trivial | rfl | exact Nat.le_of_ble_eq_true rfl | refine And.intro ?_ ?_)) rfl | exact sBS (by repeat' (first | exact trivial | rfl | exact Nat.le_of_ble_eq_true rfl | refine And.intro ?_ ?_)) rfl rfl rfl rfl | exact sBSF (by repeat' (first | exact trivial | rfl | exact Nat.le_of_ble_eq_true rfl | refine And.intro ?_ ?_)) rfl rfl rfl rfl | exact sLe rfl | exact Chk.mk (by kernel_rfl) | exact ⟨Chk.mk (by kernel_rfl)⟩ | exact sLeEq rfl rfl | refine fun h => ?_)
  · refine ⟨?_⟩; simp_all [votesOk]; omega
  refine W.loopC (D := Nat) (fun i => [(15, .row (xs.getD i default).cells), (17, .res (ob (voteOk (xs.getD i default))))]) TTok hmo
    (fun i => ⟨19, 0, [(0, .one (.ag (xs.map Vote.cells))), (2, ob false), (3, oi i)], []⟩) (fun i => xs.length - i) (fun i => i ≤ xs.length ∧ (xs.take i).all voteOk = true) 0 [] ⟨by omega, by simp⟩ ?_ ?_
  · show subC _ _ _ _
    repeat' (first | exact trivial | exact Side.mk rfl | exact Chk.mk (by kernel_rfl) | exact ⟨Chk.mk (by kernel_rfl)⟩ | refine And.intro ?_ ?_ | rfl)
  · intro i ⟨hi, hp⟩
    repeat' (first | refine And.intro ?_ ?_ | exact tf | exact ft | refine tt ?_ | refine ff ?_ | exact ⟨trivial⟩ | exact sAll rfl | exact sF1 rfl | exact sBld (by repeat' (first | exact trivial | rfl | exact Nat.le_of_ble_eq_true rfl | refine And.intro ?_ ?_)) rfl | exact sBS (by repeat' (first | exact trivial | rfl | exact Nat.le_of_ble_eq_true rfl | refine And.intro ?_ ?_)) rfl rfl rfl rfl | exact sBSF (by repeat' (first | exact trivial | rfl | exact Nat.le_of_ble_eq_true rfl | refine And.intro ?_ ?_)) rfl rfl rfl rfl | exact sLe rfl | exact Chk.mk (by kernel_rfl) | exact ⟨Chk.mk (by kernel_rfl)⟩ | exact sLeEq rfl rfl | refine fun h => ?_)
    all_goals simp only [decide_eq_true_eq, decide_eq_false_iff_not, List.length_map, Bool.not_eq_true', Bool.not_eq_false', Bool.not_eq_eq_eq_not, Bool.not_true, Bool.not_false, bne_iff_ne, ne_eq, bne_eq_false_iff_eq, beq_iff_eq, beq_eq_false_iff_ne] at *
    · exact sRow (by omega) (row_at xs _ (by omega)) rfl
    · exact sAnd (by repeat' constructor) (c_l6Vote _ (hv _ (getD_mem (by omega))))
    · refine ⟨?_⟩; have := all_bad (f := voteOk) (xs := xs) (i := i) (by omega) (by simp_all); simp [votesOk, this]
    · refine ⟨i + 1, [], by omega, ⟨by omega, all_step (by omega) hp (by simp_all)⟩, ?_⟩
      repeat' (first | exact trivial | exact Side.mk rfl | exact Chk.mk (by kernel_rfl) | exact ⟨Chk.mk (by kernel_rfl)⟩ | exact ⟨wrap_succ (n := xs.length) (by omega) (by omega)⟩ | refine And.intro ?_ ?_ | rfl)
    · refine ⟨?_⟩; have := all_end (by omega) hp; simp [votesOk, this]; omega
theorem c_impl_votesOk (xs : List Vote) (hx : xs.length ≤ maxLen) (hv : ∀ v ∈ xs, v.ok lim) : Pure PP false 138 [.one (.fz (xs.map Vote.cells))] (ob (votesOk xs)) := by
  have hx' : xs.length ≤ 9223372036854775807 := hx
  refine Pure.vc [] TTok hmo Go.Proofs.Tryz.func138 (by kernel_rfl) rfl (by kernel_rfl) ?_
  repeat' (first | refine And.intro ?_ ?_ | exact tf | exact ft | refine tt ?_ | refine ff ?_ | exact ⟨trivial⟩ | exact sAll rfl | exact sF1 rfl | exact sBld (by repeat' (first | exact trivial | rfl | exact Nat.le_of_ble_eq_true rfl | refine And.intro ?_ ?_)) rfl | exact sBS (by repeat' (first | exact trivial | rfl | exact Nat.le_of_ble_eq_true rfl | refine And.intro ?_ ?_)) rfl rfl rfl rfl | exact sBSF (by repeat' (first | exact trivial | rfl | exact Nat.le_of_ble_eq_true rfl | refine And.intro ?_ ?_)) rfl rfl rfl rfl | exact sLe rfl | exact Chk.mk (by kernel_rfl) | exact ⟨Chk.mk (by kernel_rfl)⟩ | exact sLeEq rfl rfl | refine fun h => ?_)
  refine W.loopC (D := Nat) (fun i => [(9, .row (xs.getD i default).cells), (12, .res (ob (voteOk (xs.getD i default))))]) TTok hmo
    (fun i => ⟨18, 0, [(0, .one (.ag (xs.map Vote.cells))), (2, ob false), (5, .one (.ag (xs.map Vote.cells))), (6, oi xs.length), (7, oi i)], []⟩) (fun i => xs.length - i) (fun i => i ≤ xs.length ∧ (xs.take i).all voteOk = true) 0 [] ⟨by omega, by simp⟩ ?_ ?_
  · show subC _ _ _ _
    repeat' (first | exact trivial | exact Side.mk rfl | exact Chk.mk (by kernel_rfl) | exact ⟨Chk.mk (by kernel_rfl)⟩ | refine And.intro ?_ ?_ | rfl)
    all_goals exact ⟨by simp⟩
  · intro i ⟨hi, hp⟩
    repeat' (first | refine And.intro ?_ ?_ | exact tf | exact ft | refine tt ?_ | refine ff ?_ | exact ⟨trivial⟩ | exact sAll rfl | exact sF1 rfl | exact sBld (by repeat' (first | exact trivial | rfl | exact Nat.le_of_ble_eq_true rfl | refine And.intro ?_ ?_)) rfl | exact sBS (by repeat' (first | exact trivial | rfl | exact Nat.le_of_ble_eq_true rfl | refine And.intro ?_ ?_)) rfl rfl rfl rfl | exact sBSF (by repeat' (first | exact trivial | rfl | exact Nat.le_of_ble_eq_true rfl | refine And.intro ?_ ?_)) rfl rfl rfl rfl | exact sLe rfl | exact Chk.mk (by kernel_rfl) | exact ⟨Chk.mk (by kernel_rfl)⟩ | exact sLeEq rfl rfl | refine fun h => ?_)
    all_goals simp only [decide_eq_true_eq, decide_eq_false_iff_not, List.length_map, Bool.not_eq_true', Bool.not_eq_false', Bool.not_eq_eq_eq_not, Bool.not_true, Bool.not_false, bne_iff_ne, ne_eq, bne_eq_false_iff_eq, beq_iff_eq, beq_eq_false_iff_ne] at *
    · exact sRow (by omega) (row_at xs _ (by omega)) rfl
    · exact sAnd (by repeat' constructor) (c_impl_voteOk _ (hv _ (getD_mem (by omega))))
    · refine ⟨?_⟩; have := all_bad (f := voteOk) (xs := xs) (i := i) (by omega) (by simp_all); simp [votesOk, this]
    · refine ⟨i + 1, [], by omega, ⟨by omega, all_step (by omega) hp (by simp_all)⟩, ?_⟩
      repeat' (first | exact trivial | exact Side.mk rfl | exact Chk.mk (by kernel_rfl) | exact ⟨Chk.mk (by kernel_rfl)⟩ | exact ⟨wrap_succ (n := xs.length) (by omega) (by omega)⟩ | refine And.intro ?_ ?_ | rfl)
    · refine ⟨?_⟩; have := all_end (by omega) hp; simp [votesOk, this]; omega
theorem c_spec_AccOk (a : Acc) (ha : a.ok lim) : Pure PP false 84 [.agg a.cells] (ob (accOk a)) := by
  obtain ⟨p, xs⟩ := a
  have hl : xs.length ≤ 1048576 := ha.1
  refine Pure.vc [(15, .res (ob (votesOk xs)))] TTok hmo Go.Proofs.Tryz.func84 (by kernel_rfl) rfl (by kernel_rfl) ?_
  repeat' (first | refine And.intro ?_ ?_ | exact tf | exact ft | refine tt ?_ | refine ff ?_ | exact ⟨trivial⟩ | exact sAll rfl | exact sF1 rfl | exact sBld (by repeat' (first | exact trivial | rfl | exact Nat.le_of_ble_eq_true rfl | refine And.intro ?_ ?_)) rfl | exact sBS (by repeat' (first | exact trivial | rfl | exact Nat.le_of_ble_eq_true rfl | refine And.intro ?_ ?_)) rfl rfl rfl rfl | exact sBSF (by repeat' (first | exact trivial | rfl | exact Nat.le_of_ble_eq_true rfl | refine And.intro ?_ ?_)) rfl rfl rfl rfl | exact sLe rfl | exact Chk.mk (by kernel_rfl) | exact ⟨Chk.mk (by kernel_rfl)⟩ | exact sLeEq rfl rfl | exact sAnd (by repeat' constructor) (c_l6Votes _ (Nat.le_trans ha.1 (by decide)) ha.2) | refine fun h => ?_)
  all_goals try (refine Side.mk ?_; simp_all [accOk, inr]; done)
  all_goals try (refine Side.mk ?_; simp_all [accOk, inr]; omega)
  refine W.loopC (D := Nat) (fun i => [(28, .row (xs.getD i default).cells)]) TTok hmo
    (fun i => ⟨34, 1, [(1, .one (.ptr 0 0 0)), (2, ob false), (3, oi i)], [(0, .box [i6 p, .ag (xs.map Vote.cells)])]⟩) (fun i => xs.length - i) (fun i => i ≤ xs.length ∧ (xs.take i).all (fun v => decide (v.bal ≤ p)) = true) 0 [] ⟨by omega, by simp⟩ ?_ ?_
  · show subC _ _ _ _
    repeat' (first | exact trivial | exact Side.mk rfl | exact Chk.mk (by kernel_rfl) | exact ⟨Chk.mk (by kernel_rfl)⟩ | refine And.intro ?_ ?_ | rfl)
  · intro i ⟨hi, hp⟩
    repeat' (first | refine And.intro ?_ ?_ | exact tf | exact ft | refine tt ?_ | refine ff ?_ | exact ⟨trivial⟩ | exact sAll rfl | exact sF1 rfl | exact sBld (by repeat' (first | exact trivial | rfl | exact Nat.le_of_ble_eq_true rfl | refine And.intro ?_ ?_)) rfl | exact sBS (by repeat' (first | exact trivial | rfl | exact Nat.le_of_ble_eq_true rfl | refine And.intro ?_ ?_)) rfl rfl rfl rfl | exact sBSF (by repeat' (first | exact trivial | rfl | exact Nat.le_of_ble_eq_true rfl | refine And.intro ?_ ?_)) rfl rfl rfl rfl | exact sLe rfl | exact Chk.mk (by kernel_rfl) | exact ⟨Chk.mk (by kernel_rfl)⟩ | exact sLeEq rfl rfl | refine fun h => ?_)
    all_goals simp only [decide_eq_true_eq, decide_eq_false_iff_not, List.length_map, Bool.not_eq_true', Bool.not_eq_false', Bool.not_eq_eq_eq_not, Bool.not_true, Bool.not_false, bne_iff_ne, ne_eq, bne_eq_false_iff_eq, beq_iff_eq, beq_eq_false_iff_ne] at *
    · exact sRow (by omega) (row_at xs _ (by omega)) rfl
    · refine ⟨?_⟩; have := all_bad (f := fun v => decide (v.bal ≤ p)) (xs := xs) (i := i) (by omega) (by simp_all); simp [accOk, this]
    · refine ⟨i + 1, [], by omega, ⟨by omega, all_step (by omega) hp (by simp_all)⟩, ?_⟩
      repeat' (first | exact trivial | exact Side.mk rfl | exact Chk.mk (by kernel_rfl) | exact ⟨Chk.mk (by kernel_rfl)⟩ | exact ⟨wrap_succ (n := xs.length) (by omega) (by omega)⟩ | refine And.intro ?_ ?_ | rfl)
    · refine ⟨?_⟩; have := all_end (by omega) hp; simp_all [accOk, inr]
theorem c_impl_AccOk (a : Acc) (ha : a.ok lim) : Pure PP false 97 [.agg a.cells] (ob (accOk a)) := by
  obtain ⟨p, xs⟩ := a
  have hl : xs.length ≤ 1048576 := ha.1
  refine Pure.vc [(20, .res (ob (inr p 0 3000))), (24, .res (ob (votesOk xs)))] TTok hmo Go.Proofs.Tryz.func97 (by kernel_rfl) rfl (by kernel_rfl) ?_
  repeat' (first | refine And.intro ?_ ?_ | exact tf | exact ft | refine tt ?_ | refine ff ?_ | exact ⟨trivial⟩ | exact sAll rfl | exact sF1 rfl | exact sBld (by repeat' (first | exact trivial | rfl | exact Nat.le_of_ble_eq_true rfl | refine And.intro ?_ ?_)) rfl | exact sBS (by repeat' (first | exact trivial | rfl | exact Nat.le_of_ble_eq_true rfl | refine And.intro ?_ ?_)) rfl rfl rfl rfl | exact sBSF (by repeat' (first | exact trivial | rfl | exact Nat.le_of_ble_eq_true rfl | refine And.intro ?_ ?_)) rfl rfl rfl rfl | exact sLe rfl | exact Chk.mk (by kernel_rfl) | exact ⟨Chk.mk (by kernel_rfl)⟩ | exact sLeEq rfl rfl | refine fun h => ?_)
  refine W.loopC (D := Nat) (fun i => [(10, .row (xs.getD i default).cells)]) TTok hmo
    (fun i => ⟨26, 1, [(1, .one (.ptr 0 0 0)), (2, ob false), (6, .one (.ag (xs.map Vote.cells))), (7, oi xs.length), (8, oi i)], [(0, .box [i6 p, .ag (xs.map Vote.cells)])]⟩) (fun i => xs.length - i) (fun i => i ≤ xs.length ∧ (xs.take i).all (fun v => decide (v.bal ≤ p)) = true) 0 [] ⟨by omega, by simp⟩ ?_ ?_
  · show subC _ _ _ _
    repeat' (first | exact trivial | exact Side.mk rfl | exact Chk.mk (by kernel_rfl) | exact ⟨Chk.mk (by kernel_rfl)⟩ | refine And.intro ?_ ?_ | rfl)
    all_goals exact ⟨by simp⟩
  · intro i ⟨hi, hp⟩
    repeat' (first | refine And.intro ?_ ?_ | exact tf | exact ft | refine tt ?_ | refine ff ?_ | exact ⟨trivial⟩ | exact sAll rfl | exact sF1 rfl | exact sBld (by repeat' (first | exact trivial | rfl | exact Nat.le_of_ble_eq_true rfl | refine And.intro ?_ ?_)) rfl | exact sBS (by repeat' (first | exact trivial | rfl | exact Nat.le_of_ble_eq_true rfl | refine And.intro ?_ ?_)) rfl rfl rfl rfl | exact sBSF (by repeat' (first | exact trivial | rfl | exact Nat.le_of_ble_eq_true rfl | refine And.intro ?_ ?_)) rfl rfl rfl rfl | exact sLe rfl | exact Chk.mk (by kernel_rfl) | exact ⟨Chk.mk (by kernel_rfl)⟩ | exact sLeEq rfl rfl | exact sAnd (by repeat' constructor) (c_impl_in _ _ _) | exact sAnd (by repeat' constructor) (c_impl_votesOk _ (Nat.le_trans ha.1 (by decide)) ha.2) | refine fun h => ?_)
    all_goals simp only [decide_eq_true_eq, decide_eq_false_iff_not, List.length_map, Bool.not_eq_true', Bool.not_eq_false', Bool.not_eq_eq_eq_not, Bool.not_true, Bool.not_false, bne_iff_ne, ne_eq, bne_eq_false_iff_eq, beq_iff_eq, beq_eq_false_iff_ne] at *
    · exact sRow (by omega) (row_at xs _ (by omega)) rfl
    · refine ⟨?_⟩; have := all_bad (f := fun v => decide (v.bal ≤ p)) (xs := xs) (i := i) (by omega) (by simp_all); simp [accOk, this]
    · refine ⟨i + 1, [], by omega, ⟨by omega, all_step (by omega) hp (by simp_all)⟩, ?_⟩
      repeat' (first | exact trivial | exact Side.mk rfl | exact Chk.mk (by kernel_rfl) | exact ⟨Chk.mk (by kernel_rfl)⟩ | exact ⟨wrap_succ (n := xs.length) (by omega) (by omega)⟩ | refine And.intro ?_ ?_ | rfl)
    all_goals (refine Side.mk ?_; have := all_end (by omega) hp; simp_all [accOk])
end Mg

/- What is shared by the walks: copies of the other side, lists of votes. No condition. -/
namespace Mg
open Go Go.RowKit
set_option maxRecDepth 100000
set_option linter.unusedVariables false
set_option linter.unusedSimpArgs false
attribute [local irreducible] W Pure Con
def noT : ConT := ⟨Unit, fun _ => True, fun _ => .un, fun _ => []⟩
theorem c_l3Copy (x : Run) (hx : x.ok lim) : Pure PP false 135 [.agg x.cells] (.agg x.cells) := by
  have hx0 : x.reads.length ≤ 1048576 := hx.1
  have hx1 : x.puts.length ≤ 1048576 := hx.2
  refine Pure.vc [(6, .res (.one (.fz (x.reads.map Two.cells)))), (10, .res (.one (.fz (x.puts.map Two.cells))))] TTok hmo Go.Proofs.Tryz.func135 (by kernel_rfl) rfl (by kernel_rfl) ?_
  repeat' (first | refine And.intro ?_ ?_ | exact tf | exact ft | refine tt ?_ | refine ff ?_ | exact ⟨trivial⟩ | exact sAll rfl | exact sF1 rfl | exact sBld (by repeat' (first | exact trivial | rfl | exact Nat.le_of_ble_eq_true rfl | refine And.intro ?_ ?_)) rfl | exact sBS (by repeat' (first | exact trivial | rfl | exact Nat.le_of_ble_eq_true rfl | refine And.intro ?_ ?_)) rfl rfl rfl rfl | exact sBSF (by repeat' (first | exact trivial | rfl | exact Nat.le_of_ble_eq_true rfl | refine And.intro ?_ ?_)) rfl rfl rfl rfl | exact sLe rfl | exact Chk.mk (by kernel_rfl) | exact ⟨Chk.mk (by kernel_rfl)⟩ | exact sLeEq rfl rfl | refine fun h => ?_)
  all_goals try (exact sAppF (c := Two.cells) (xs := x.reads) (toA_map fun _ => rfl) (fun _ => rfl) Two.frz (by omega) rfl)
  all_goals try (exact sAppF (c := Two.cells) (xs := x.puts) (toA_map fun _ => rfl) (fun _ => rfl) Two.frz (by omega) rfl)
  all_goals exact ⟨⟨Nat.le_of_ble_eq_true rfl, trivial⟩, rfl, rfl, rfl, rfl, trivial⟩
theorem c_l5Entry (e : Entry) (he : e.ok lim) : Pure PP false 91 [.agg e.cells] (.agg e.cells) := by
  refine Pure.vc [(9, .res (.agg e.run.cells))] TTok hmo Go.Proofs.Tryz.func91 (by kernel_rfl) rfl (by kernel_rfl) ?_
  repeat' (first | refine And.intro ?_ ?_ | exact tf | exact ft | refine tt ?_ | refine ff ?_ | exact ⟨trivial⟩ | exact sAll rfl | exact sF1 rfl | exact sBld (by repeat' (first | exact trivial | rfl | exact Nat.le_of_ble_eq_true rfl | refine And.intro ?_ ?_)) rfl | exact sBS (by repeat' (first | exact trivial | rfl | exact Nat.le_of_ble_eq_true rfl | refine And.intro ?_ ?_)) rfl rfl rfl rfl | exact sBSF (by repeat' (first | exact trivial | rfl | exact Nat.le_of_ble_eq_true rfl | refine And.intro ?_ ?_)) rfl rfl rfl rfl | exact sLe rfl | exact Chk.mk (by kernel_rfl) | exact ⟨Chk.mk (by kernel_rfl)⟩ | exact sLeEq rfl rfl | exact sAnd (by repeat' constructor) (c_l3Copy _ he) | refine fun h => ?_)
  all_goals exact ⟨⟨Nat.le_of_ble_eq_true rfl, trivial⟩, rfl, rfl, rfl, rfl, rfl, rfl, rfl, trivial⟩
theorem sAppL2 {α : Type} {xs : List α} {x : α} {m n : Nat} (hm : m = xs.length) (hn : n = 1) : Side (m + n = (xs ++ [x]).length) := ⟨by simp [hm, hn]⟩
theorem Vote.ok_default : (default : Vote).ok 30 := ⟨Nat.zero_le _, Nat.zero_le _⟩
def VsOk (n : Nat) (vs : List Vote) : Prop := ∀ v ∈ vs, v.ok n
theorem VsOk.app {n : Nat} {vs : List Vote} {v : Vote} (h : VsOk n vs) (hv : v.ok n) : VsOk n (vs ++ [v]) := fun x hx => by
  rcases List.mem_append.1 hx with hx | hx
  · exact h x hx
  · simp at hx; rw [hx]; exact hv
theorem VsOk.set {n k : Nat} {vs : List Vote} {v : Vote} (h : VsOk n vs) (hv : v.ok n) : VsOk n (vs.set k v) := fun x hx => by
  rcases List.mem_or_eq_of_mem_set hx with hx | hx
  · exact h x hx
  · rw [hx]; exact hv
theorem VsOk.get {n : Nat} {vs : List Vote} (h : VsOk n vs) (i : Nat) : (vs.getD i default).ok n := by
  by_cases hi : i < vs.length
  · exact h _ (getD_mem hi)
  · have : vs.getD i default = default := by simp [List.getD_eq_getElem?_getD, List.getElem?_eq_none (Nat.le_of_not_lt hi)]
    rw [this]; exact ⟨Nat.zero_le _, Nat.zero_le _⟩
theorem VsOk.lim {vs : List Vote} (h : VsOk 30 vs) : VsOk lim vs := fun v hv => ⟨Nat.le_trans (h v hv).1 (by decide), Nat.le_trans (h v hv).2 (by decide)⟩
theorem inr_iff {n lo hi : Int} : inr n lo hi = true ↔ lo ≤ n ∧ n ≤ hi := by simp [inr]
theorem inr_no {n lo hi : Int} (h : inr n lo hi = false) : ¬ (lo ≤ n ∧ n ≤ hi) := fun g => by rw [inr_iff.2 g] at h; cases h
theorem getD_none {a : List Vote} {i : Nat} (h : ¬ i < a.length) : a.getD i default = default := by simp [List.getD_eq_getElem?_getD, List.getElem?_eq_none (Nat.le_of_not_lt h)]
end Mg
