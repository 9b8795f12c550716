/- Runs that are right: impl's walk. No condition. -/
import Derived.Test.YthflichlfpmenaaGreatR1P
namespace Mg
open Go Go.RowKit
set_option maxRecDepth 100000
set_option linter.unusedVariables false
set_option linter.unusedSimpArgs false
attribute [local irreducible] W Pure
theorem inr_cases {a : Int} : a = 0 ∨ a = 1 ∨ a = 2 ∨ a = 3 ∨ inr a 0 3 = false := by
  by_cases h : inr a 0 3 = true
  · simp only [inr, Bool.and_eq_true, decide_eq_true_eq] at h; omega
  · simp only [Bool.not_eq_true] at h; simp [h]
theorem saw_other {xs : List Two} {i : Nat} {a b k : Int} (hi : i < xs.length) (hx : xs.getD i default = ⟨a, b⟩) (h : a ≠ k) : saw (xs.take (i + 1)) k = saw (xs.take i) k := by
  rw [saw_step hi, hx]; simp [h]
theorem saw_this {xs : List Two} {i : Nat} {a b : Int} (hi : i < xs.length) (hx : xs.getD i default = ⟨a, b⟩) : saw (xs.take (i + 1)) a = true := by
  rw [saw_step hi, hx]; simp
theorem row_is {xs : List Two} {i : Nat} {x : Two} (h : i < xs.length) (hx : xs.getD i default = x) : (xs.map Two.cells)[((i : Int)).toNat]? = some x.cells := by
  rw [← hx]; exact row_at xs _ h
theorem elemOk_is {lo : Int} {xs : List Two} {i : Nat} {a b : Int} (hx : xs.getD i default = ⟨a, b⟩) : elemOk lo xs i = (inr a 0 3 && inr b lo 1000000 && !saw (xs.take i) a) := by
  unfold elemOk; rw [hx]
set_option maxHeartbeats 4000000 in
theorem c_impl_ExecOk (x : Run) (hx : x.ok lim) : Pure PP false 78 [.agg x.cells] (ob (execOk x)) := by
  obtain ⟨rs, ps, c, d⟩ := x
  have hxr : rs.length ≤ 1048576 := hx.1
  have hxp : ps.length ≤ 1048576 := hx.2
  by_cases hh : headOk ⟨rs, ps, c, d⟩ = true
  · refine Pure.vc [(11, .res (ob (inr d 0 3))), (16, .res (ob (inr c (-1000000) 1000000)))] TTok hmo Go.Proofs.Tryz.func78 (by kernel_rfl) rfl (by kernel_rfl) ?_
    repeat' (first | refine And.intro ?_ ?_ | exact tf | exact ft | refine tt ?_ | refine ff ?_ | exact ⟨trivial⟩ | exact sAll rfl | exact sF1 rfl | exact sBld (by repeat' (first | exact trivial | rfl | exact Nat.le_of_ble_eq_true rfl | refine And.intro ?_ ?_)) rfl | exact sBS (by repeat' (first | exact trivial | rfl | exact Nat.le_of_ble_eq_true rfl | refine And.intro ?_ ?_)) rfl rfl rfl rfl | exact sLe rfl | exact Chk.mk (by kernel_rfl) | exact ⟨Chk.mk (by kernel_rfl)⟩ | exact sLeEq rfl rfl | exact sAnd (by repeat' constructor) (c_impl_in _ _ _) | refine fun h => ?_)
    all_goals try (exfalso; simp_all [headOk, inr]; done)
    all_goals try (exfalso; simp_all [headOk, inr]; omega)
    all_goals repeat (first | clear h | (rename_i hz; clear hz))
    all_goals (
     refine W.loopC (D := Nat) (fun i => [(51, .row (rs.getD i default).cells), (55, .res (ob (inr (rs.getD i default).a 0 3))), (66, .res (ob (inr (rs.getD i default).b (0) 1000000)))]) TTok hmo
      (fun i => ⟨100, 3, [(1, .one (.ptr 0 0 0)), (2, ob false), (3, .one (.ptr 1 0 0)), (4, .one (.ptr 2 0 0)), (47, .one (.ag (rs.map Two.cells))), (48, oi rs.length), (49, oi i)], [(0, .box [.ag (rs.map Two.cells), .ag (ps.map Two.cells), i6 c, i6 d]), (1, .box [bo (saw (rs.take i) 0), bo (saw (rs.take i) 1), bo (saw (rs.take i) 2), bo (saw (rs.take i) 3)]), (2, .box [bo false, bo false, bo false, bo false])]⟩) (fun i => rs.length - i) (fun i => i ≤ rs.length ∧ ∀ j, j < i → elemOk (0) rs j = true) 0 [] ⟨by omega, fun j hj => by omega⟩ ?_ ?body)
    case body =>
      intro i ⟨hi, hp⟩
      obtain ⟨a, b, hx⟩ : ∃ a b, rs.getD i default = ⟨a, b⟩ := ⟨_, _, rfl⟩
      by_cases hlt : i < rs.length
      · rw [hx]
        rcases inr_cases (a := a) with rfl | rfl | rfl | rfl | ha
        · repeat' (first | refine And.intro ?_ ?_ | exact tf | exact ft | refine tt ?_ | refine ff ?_ | exact ⟨trivial⟩ | exact sAll rfl | exact sF1 rfl | exact sBld (by repeat' (first | exact trivial | rfl | exact Nat.le_of_ble_eq_true rfl | refine And.intro ?_ ?_)) rfl | exact sBS (by repeat' (first | exact trivial | rfl | exact Nat.le_of_ble_eq_true rfl | refine And.intro ?_ ?_)) rfl rfl rfl rfl | exact sLe rfl | exact Chk.mk (by kernel_rfl) | exact ⟨Chk.mk (by kernel_rfl)⟩ | exact sLeEq rfl rfl | exact sAnd (by repeat' constructor) (c_impl_in _ _ _) | refine fun h => ?_)
          all_goals try (exfalso; simp_all; done)
          all_goals simp only [decide_eq_true_eq, decide_eq_false_iff_not, List.length_map, Bool.not_false, Bool.not_true, Bool.not_eq_true', Bool.not_eq_false'] at *
          · exact sRow (by omega) (row_is (by omega) hx) rfl
          · exact ⟨by decide⟩
          · refine ⟨?_⟩
            have := listOk_bad (lo := 0) (xs := rs) (i := i) (by omega) (by rw [elemOk_is hx]; simp_all)
            simp [execOk, this]
          · exact ⟨by decide⟩
          · refine ⟨i + 1, [], by omega, ⟨by omega, fun j hj => ?_⟩, ?_⟩
            · by_cases e : j = i
              · subst e; rw [elemOk_is hx]; simp_all [inr]
              · exact hp j (by omega)
            · repeat' (first | exact trivial | exact Side.mk rfl | exact Chk.mk (by kernel_rfl) | exact ⟨Chk.mk (by kernel_rfl)⟩ | exact ⟨wrap_succ (n := rs.length) (by omega) (by omega)⟩ | refine And.intro ?_ ?_ | rfl)
              · exact ⟨by rw [saw_this hlt hx]⟩
              · exact ⟨by rw [saw_other hlt hx (by decide)]⟩
              · exact ⟨by rw [saw_other hlt hx (by decide)]⟩
              · exact ⟨by rw [saw_other hlt hx (by decide)]⟩
          · refine ⟨?_⟩
            have := listOk_bad (lo := 0) (xs := rs) (i := i) (by omega) (by rw [elemOk_is hx]; simp_all)
            simp [execOk, this]
        · repeat' (first | refine And.intro ?_ ?_ | exact tf | exact ft | refine tt ?_ | refine ff ?_ | exact ⟨trivial⟩ | exact sAll rfl | exact sF1 rfl | exact sBld (by repeat' (first | exact trivial | rfl | exact Nat.le_of_ble_eq_true rfl | refine And.intro ?_ ?_)) rfl | exact sBS (by repeat' (first | exact trivial | rfl | exact Nat.le_of_ble_eq_true rfl | refine And.intro ?_ ?_)) rfl rfl rfl rfl | exact sLe rfl | exact Chk.mk (by kernel_rfl) | exact ⟨Chk.mk (by kernel_rfl)⟩ | exact sLeEq rfl rfl | exact sAnd (by repeat' constructor) (c_impl_in _ _ _) | refine fun h => ?_)
          all_goals try (exfalso; simp_all; done)
          all_goals simp only [decide_eq_true_eq, decide_eq_false_iff_not, List.length_map, Bool.not_false, Bool.not_true, Bool.not_eq_true', Bool.not_eq_false'] at *
          · exact sRow (by omega) (row_is (by omega) hx) rfl
          · exact ⟨by decide⟩
          · refine ⟨?_⟩
            have := listOk_bad (lo := 0) (xs := rs) (i := i) (by omega) (by rw [elemOk_is hx]; simp_all)
            simp [execOk, this]
          · exact ⟨by decide⟩
          · refine ⟨i + 1, [], by omega, ⟨by omega, fun j hj => ?_⟩, ?_⟩
            · by_cases e : j = i
              · subst e; rw [elemOk_is hx]; simp_all [inr]
              · exact hp j (by omega)
            · repeat' (first | exact trivial | exact Side.mk rfl | exact Chk.mk (by kernel_rfl) | exact ⟨Chk.mk (by kernel_rfl)⟩ | exact ⟨wrap_succ (n := rs.length) (by omega) (by omega)⟩ | refine And.intro ?_ ?_ | rfl)
              · exact ⟨by rw [saw_other hlt hx (by decide)]⟩
              · exact ⟨by rw [saw_this hlt hx]⟩
              · exact ⟨by rw [saw_other hlt hx (by decide)]⟩
              · exact ⟨by rw [saw_other hlt hx (by decide)]⟩
          · refine ⟨?_⟩
            have := listOk_bad (lo := 0) (xs := rs) (i := i) (by omega) (by rw [elemOk_is hx]; simp_all)
            simp [execOk, this]
        · repeat' (first | refine And.intro ?_ ?_ | exact tf | exact ft | refine tt ?_ | refine ff ?_ | exact ⟨trivial⟩ | exact sAll rfl | exact sF1 rfl | exact sBld (by repeat' (first | exact trivial | rfl | exact Nat.le_of_ble_eq_true rfl | refine And.intro ?_ ?_)) rfl | exact sBS (by repeat' (first | exact trivial | rfl | exact Nat.le_of_ble_eq_true rfl | refine And.intro ?_ ?_)) rfl rfl rfl rfl | exact sLe rfl | exact Chk.mk (by kernel_rfl) | exact ⟨Chk.mk (by kernel_rfl)⟩ | exact sLeEq rfl rfl | exact sAnd (by repeat' constructor) (c_impl_in _ _ _) | refine fun h => ?_)
          all_goals try (exfalso; simp_all; done)
          all_goals simp only [decide_eq_true_eq, decide_eq_false_iff_not, List.length_map, Bool.not_false, Bool.not_true, Bool.not_eq_true', Bool.not_eq_false'] at *
          · exact sRow (by omega) (row_is (by omega) hx) rfl
          · exact ⟨by decide⟩
          · refine ⟨?_⟩
            have := listOk_bad (lo := 0) (xs := rs) (i := i) (by omega) (by rw [elemOk_is hx]; simp_all)
            simp [execOk, this]
          · exact ⟨by decide⟩
          · refine ⟨i + 1, [], by omega, ⟨by omega, fun j hj => ?_⟩, ?_⟩
            · by_cases e : j = i
              · subst e; rw [elemOk_is hx]; simp_all [inr]
              · exact hp j (by omega)
            · repeat' (first | exact trivial | exact Side.mk rfl | exact Chk.mk (by kernel_rfl) | exact ⟨Chk.mk (by kernel_rfl)⟩ | exact ⟨wrap_succ (n := rs.length) (by omega) (by omega)⟩ | refine And.intro ?_ ?_ | rfl)
              · exact ⟨by rw [saw_other hlt hx (by decide)]⟩
              · exact ⟨by rw [saw_other hlt hx (by decide)]⟩
              · exact ⟨by rw [saw_this hlt hx]⟩
              · exact ⟨by rw [saw_other hlt hx (by decide)]⟩
          · refine ⟨?_⟩
            have := listOk_bad (lo := 0) (xs := rs) (i := i) (by omega) (by rw [elemOk_is hx]; simp_all)
            simp [execOk, this]
        · repeat' (first | refine And.intro ?_ ?_ | exact tf | exact ft | refine tt ?_ | refine ff ?_ | exact ⟨trivial⟩ | exact sAll rfl | exact sF1 rfl | exact sBld (by repeat' (first | exact trivial | rfl | exact Nat.le_of_ble_eq_true rfl | refine And.intro ?_ ?_)) rfl | exact sBS (by repeat' (first | exact trivial | rfl | exact Nat.le_of_ble_eq_true rfl | refine And.intro ?_ ?_)) rfl rfl rfl rfl | exact sLe rfl | exact Chk.mk (by kernel_rfl) | exact ⟨Chk.mk (by kernel_rfl)⟩ | exact sLeEq rfl rfl | exact sAnd (by repeat' constructor) (c_impl_in _ _ _) | refine fun h => ?_)
          all_goals try (exfalso; simp_all; done)
          all_goals simp only [decide_eq_true_eq, decide_eq_false_iff_not, List.length_map, Bool.not_false, Bool.not_true, Bool.not_eq_true', Bool.not_eq_false'] at *
          · exact sRow (by omega) (row_is (by omega) hx) rfl
          · exact ⟨by decide⟩
          · refine ⟨?_⟩
            have := listOk_bad (lo := 0) (xs := rs) (i := i) (by omega) (by rw [elemOk_is hx]; simp_all)
            simp [execOk, this]
          · exact ⟨by decide⟩
          · refine ⟨i + 1, [], by omega, ⟨by omega, fun j hj => ?_⟩, ?_⟩
            · by_cases e : j = i
              · subst e; rw [elemOk_is hx]; simp_all [inr]
              · exact hp j (by omega)
            · repeat' (first | exact trivial | exact Side.mk rfl | exact Chk.mk (by kernel_rfl) | exact ⟨Chk.mk (by kernel_rfl)⟩ | exact ⟨wrap_succ (n := rs.length) (by omega) (by omega)⟩ | refine And.intro ?_ ?_ | rfl)
              · exact ⟨by rw [saw_other hlt hx (by decide)]⟩
              · exact ⟨by rw [saw_other hlt hx (by decide)]⟩
              · exact ⟨by rw [saw_other hlt hx (by decide)]⟩
              · exact ⟨by rw [saw_this hlt hx]⟩
          · refine ⟨?_⟩
            have := listOk_bad (lo := 0) (xs := rs) (i := i) (by omega) (by rw [elemOk_is hx]; simp_all)
            simp [execOk, this]
        · repeat' (first | refine And.intro ?_ ?_ | exact tf | exact ft | refine tt ?_ | refine ff ?_ | exact ⟨trivial⟩ | exact sAll rfl | exact sF1 rfl | exact sBld (by repeat' (first | exact trivial | rfl | exact Nat.le_of_ble_eq_true rfl | refine And.intro ?_ ?_)) rfl | exact sBS (by repeat' (first | exact trivial | rfl | exact Nat.le_of_ble_eq_true rfl | refine And.intro ?_ ?_)) rfl rfl rfl rfl | exact sLe rfl | exact Chk.mk (by kernel_rfl) | exact ⟨Chk.mk (by kernel_rfl)⟩ | exact sLeEq rfl rfl | exact sAnd (by repeat' constructor) (c_impl_in _ _ _) | refine fun h => ?_)
          all_goals try (exfalso; simp_all; done)
          all_goals simp only [decide_eq_true_eq, decide_eq_false_iff_not, List.length_map, Bool.not_false, Bool.not_true, Bool.not_eq_true', Bool.not_eq_false'] at *
          · exact sRow (by omega) (row_is (by omega) hx) rfl
          · refine ⟨?_⟩
            have := listOk_bad (lo := 0) (xs := rs) (i := i) (by omega) (by rw [elemOk_is hx]; simp_all)
            simp [execOk, this]
      · have hqrs : listOk (0) rs = true := listOk_all (i := i) (by omega) (fun j hj _ => hp j hj)
        clear hp hx
        repeat' (first | refine And.intro ?_ ?_ | exact tf | exact ft | refine tt ?_ | refine ff ?_ | exact ⟨trivial⟩ | exact sAll rfl | exact sF1 rfl | exact sBld (by repeat' (first | exact trivial | rfl | exact Nat.le_of_ble_eq_true rfl | refine And.intro ?_ ?_)) rfl | exact sBS (by repeat' (first | exact trivial | rfl | exact Nat.le_of_ble_eq_true rfl | refine And.intro ?_ ?_)) rfl rfl rfl rfl | exact sLe rfl | exact Chk.mk (by kernel_rfl) | exact ⟨Chk.mk (by kernel_rfl)⟩ | exact sLeEq rfl rfl | refine fun h => ?_)
        all_goals try (exfalso; simp_all; done)
        all_goals try (exfalso; simp at *; omega)
        refine W.loopC (D := Nat) (fun i => [(78, .row (ps.getD i default).cells), (82, .res (ob (inr (ps.getD i default).a 0 3))), (93, .res (ob (inr (ps.getD i default).b (-1000000) 1000000)))]) TTok hmo
              (fun i => ⟨100, 3, [(1, .one (.ptr 0 0 0)), (2, ob false), (3, .one (.ptr 1 0 0)), (4, .one (.ptr 2 0 0)), (74, .one (.ag (ps.map Two.cells))), (75, oi ps.length), (76, oi i)], [(0, .box [.ag (rs.map Two.cells), .ag (ps.map Two.cells), i6 c, i6 d]), (2, .box [bo (saw (ps.take i) 0), bo (saw (ps.take i) 1), bo (saw (ps.take i) 2), bo (saw (ps.take i) 3)])]⟩) (fun i => ps.length - i) (fun i => i ≤ ps.length ∧ ∀ j, j < i → elemOk (-1000000) ps j = true) 0 [] ⟨by omega, fun j hj => by omega⟩ ?_ ?_
        · show subC _ _ _ _
          repeat' (first | exact trivial | exact Side.mk rfl | exact Chk.mk (by kernel_rfl) | exact ⟨Chk.mk (by kernel_rfl)⟩ | refine And.intro ?_ ?_ | rfl)
          all_goals exact ⟨by simp⟩
        · intro i ⟨hi, hp⟩
          obtain ⟨a, b, hx⟩ : ∃ a b, ps.getD i default = ⟨a, b⟩ := ⟨_, _, rfl⟩
          by_cases hlt : i < ps.length
          · rw [hx]
            rcases inr_cases (a := a) with rfl | rfl | rfl | rfl | ha
            · repeat' (first | refine And.intro ?_ ?_ | exact tf | exact ft | refine tt ?_ | refine ff ?_ | exact ⟨trivial⟩ | exact sAll rfl | exact sF1 rfl | exact sBld (by repeat' (first | exact trivial | rfl | exact Nat.le_of_ble_eq_true rfl | refine And.intro ?_ ?_)) rfl | exact sBS (by repeat' (first | exact trivial | rfl | exact Nat.le_of_ble_eq_true rfl | refine And.intro ?_ ?_)) rfl rfl rfl rfl | exact sLe rfl | exact Chk.mk (by kernel_rfl) | exact ⟨Chk.mk (by kernel_rfl)⟩ | exact sLeEq rfl rfl | exact sAnd (by repeat' constructor) (c_impl_in _ _ _) | refine fun h => ?_)
              all_goals try (exfalso; simp_all; done)
              all_goals simp only [decide_eq_true_eq, decide_eq_false_iff_not, List.length_map, Bool.not_false, Bool.not_true, Bool.not_eq_true', Bool.not_eq_false'] at *
              · exact sRow (by omega) (row_is (by omega) hx) rfl
              · exact ⟨by decide⟩
              · refine ⟨?_⟩
                have := listOk_bad (lo := -1000000) (xs := ps) (i := i) (by omega) (by rw [elemOk_is hx]; simp_all)
                simp [execOk, this]
              · exact ⟨by decide⟩
              · refine ⟨i + 1, [], by omega, ⟨by omega, fun j hj => ?_⟩, ?_⟩
                · by_cases e : j = i
                  · subst e; rw [elemOk_is hx]; simp_all [inr]
                  · exact hp j (by omega)
                · repeat' (first | exact trivial | exact Side.mk rfl | exact Chk.mk (by kernel_rfl) | exact ⟨Chk.mk (by kernel_rfl)⟩ | exact ⟨wrap_succ (n := ps.length) (by omega) (by omega)⟩ | refine And.intro ?_ ?_ | rfl)
                  · exact ⟨by rw [saw_this hlt hx]⟩
                  · exact ⟨by rw [saw_other hlt hx (by decide)]⟩
                  · exact ⟨by rw [saw_other hlt hx (by decide)]⟩
                  · exact ⟨by rw [saw_other hlt hx (by decide)]⟩
              · refine ⟨?_⟩
                have := listOk_bad (lo := -1000000) (xs := ps) (i := i) (by omega) (by rw [elemOk_is hx]; simp_all)
                simp [execOk, this]
            · repeat' (first | refine And.intro ?_ ?_ | exact tf | exact ft | refine tt ?_ | refine ff ?_ | exact ⟨trivial⟩ | exact sAll rfl | exact sF1 rfl | exact sBld (by repeat' (first | exact trivial | rfl | exact Nat.le_of_ble_eq_true rfl | refine And.intro ?_ ?_)) rfl | exact sBS (by repeat' (first | exact trivial | rfl | exact Nat.le_of_ble_eq_true rfl | refine And.intro ?_ ?_)) rfl rfl rfl rfl | exact sLe rfl | exact Chk.mk (by kernel_rfl) | exact ⟨Chk.mk (by kernel_rfl)⟩ | exact sLeEq rfl rfl | exact sAnd (by repeat' constructor) (c_impl_in _ _ _) | refine fun h => ?_)
              all_goals try (exfalso; simp_all; done)
              all_goals simp only [decide_eq_true_eq, decide_eq_false_iff_not, List.length_map, Bool.not_false, Bool.not_true, Bool.not_eq_true', Bool.not_eq_false'] at *
              · exact sRow (by omega) (row_is (by omega) hx) rfl
              · exact ⟨by decide⟩
              · refine ⟨?_⟩
                have := listOk_bad (lo := -1000000) (xs := ps) (i := i) (by omega) (by rw [elemOk_is hx]; simp_all)
                simp [execOk, this]
              · exact ⟨by decide⟩
              · refine ⟨i + 1, [], by omega, ⟨by omega, fun j hj => ?_⟩, ?_⟩
                · by_cases e : j = i
                  · subst e; rw [elemOk_is hx]; simp_all [inr]
                  · exact hp j (by omega)
                · repeat' (first | exact trivial | exact Side.mk rfl | exact Chk.mk (by kernel_rfl) | exact ⟨Chk.mk (by kernel_rfl)⟩ | exact ⟨wrap_succ (n := ps.length) (by omega) (by omega)⟩ | refine And.intro ?_ ?_ | rfl)
                  · exact ⟨by rw [saw_other hlt hx (by decide)]⟩
                  · exact ⟨by rw [saw_this hlt hx]⟩
                  · exact ⟨by rw [saw_other hlt hx (by decide)]⟩
                  · exact ⟨by rw [saw_other hlt hx (by decide)]⟩
              · refine ⟨?_⟩
                have := listOk_bad (lo := -1000000) (xs := ps) (i := i) (by omega) (by rw [elemOk_is hx]; simp_all)
                simp [execOk, this]
            · repeat' (first | refine And.intro ?_ ?_ | exact tf | exact ft | refine tt ?_ | refine ff ?_ | exact ⟨trivial⟩ | exact sAll rfl | exact sF1 rfl | exact sBld (by repeat' (first | exact trivial | rfl | exact Nat.le_of_ble_eq_true rfl | refine And.intro ?_ ?_)) rfl | exact sBS (by repeat' (first | exact trivial | rfl | exact Nat.le_of_ble_eq_true rfl | refine And.intro ?_ ?_)) rfl rfl rfl rfl | exact sLe rfl | exact Chk.mk (by kernel_rfl) | exact ⟨Chk.mk (by kernel_rfl)⟩ | exact sLeEq rfl rfl | exact sAnd (by repeat' constructor) (c_impl_in _ _ _) | refine fun h => ?_)
              all_goals try (exfalso; simp_all; done)
              all_goals simp only [decide_eq_true_eq, decide_eq_false_iff_not, List.length_map, Bool.not_false, Bool.not_true, Bool.not_eq_true', Bool.not_eq_false'] at *
              · exact sRow (by omega) (row_is (by omega) hx) rfl
              · exact ⟨by decide⟩
              · refine ⟨?_⟩
                have := listOk_bad (lo := -1000000) (xs := ps) (i := i) (by omega) (by rw [elemOk_is hx]; simp_all)
                simp [execOk, this]
              · exact ⟨by decide⟩
              · refine ⟨i + 1, [], by omega, ⟨by omega, fun j hj => ?_⟩, ?_⟩
                · by_cases e : j = i
                  · subst e; rw [elemOk_is hx]; simp_all [inr]
                  · exact hp j (by omega)
                · repeat' (first | exact trivial | exact Side.mk rfl | exact Chk.mk (by kernel_rfl) | exact ⟨Chk.mk (by kernel_rfl)⟩ | exact ⟨wrap_succ (n := ps.length) (by omega) (by omega)⟩ | refine And.intro ?_ ?_ | rfl)
                  · exact ⟨by rw [saw_other hlt hx (by decide)]⟩
                  · exact ⟨by rw [saw_other hlt hx (by decide)]⟩
                  · exact ⟨by rw [saw_this hlt hx]⟩
                  · exact ⟨by rw [saw_other hlt hx (by decide)]⟩
              · refine ⟨?_⟩
                have := listOk_bad (lo := -1000000) (xs := ps) (i := i) (by omega) (by rw [elemOk_is hx]; simp_all)
                simp [execOk, this]
            · repeat' (first | refine And.intro ?_ ?_ | exact tf | exact ft | refine tt ?_ | refine ff ?_ | exact ⟨trivial⟩ | exact sAll rfl | exact sF1 rfl | exact sBld (by repeat' (first | exact trivial | rfl | exact Nat.le_of_ble_eq_true rfl | refine And.intro ?_ ?_)) rfl | exact sBS (by repeat' (first | exact trivial | rfl | exact Nat.le_of_ble_eq_true rfl | refine And.intro ?_ ?_)) rfl rfl rfl rfl | exact sLe rfl | exact Chk.mk (by kernel_rfl) | exact ⟨Chk.mk (by kernel_rfl)⟩ | exact sLeEq rfl rfl | exact sAnd (by repeat' constructor) (c_impl_in _ _ _) | refine fun h => ?_)
              all_goals try (exfalso; simp_all; done)
              all_goals simp only [decide_eq_true_eq, decide_eq_false_iff_not, List.length_map, Bool.not_false, Bool.not_true, Bool.not_eq_true', Bool.not_eq_false'] at *
              · exact sRow (by omega) (row_is (by omega) hx) rfl
              · exact ⟨by decide⟩
              · refine ⟨?_⟩
                have := listOk_bad (lo := -1000000) (xs := ps) (i := i) (by omega) (by rw [elemOk_is hx]; simp_all)
                simp [execOk, this]
              · exact ⟨by decide⟩
              · refine ⟨i + 1, [], by omega, ⟨by omega, fun j hj => ?_⟩, ?_⟩
                · by_cases e : j = i
                  · subst e; rw [elemOk_is hx]; simp_all [inr]
                  · exact hp j (by omega)
                · repeat' (first | exact trivial | exact Side.mk rfl | exact Chk.mk (by kernel_rfl) | exact ⟨Chk.mk (by kernel_rfl)⟩ | exact ⟨wrap_succ (n := ps.length) (by omega) (by omega)⟩ | refine And.intro ?_ ?_ | rfl)
                  · exact ⟨by rw [saw_other hlt hx (by decide)]⟩
                  · exact ⟨by rw [saw_other hlt hx (by decide)]⟩
                  · exact ⟨by rw [saw_other hlt hx (by decide)]⟩
                  · exact ⟨by rw [saw_this hlt hx]⟩
              · refine ⟨?_⟩
                have := listOk_bad (lo := -1000000) (xs := ps) (i := i) (by omega) (by rw [elemOk_is hx]; simp_all)
                simp [execOk, this]
            · repeat' (first | refine And.intro ?_ ?_ | exact tf | exact ft | refine tt ?_ | refine ff ?_ | exact ⟨trivial⟩ | exact sAll rfl | exact sF1 rfl | exact sBld (by repeat' (first | exact trivial | rfl | exact Nat.le_of_ble_eq_true rfl | refine And.intro ?_ ?_)) rfl | exact sBS (by repeat' (first | exact trivial | rfl | exact Nat.le_of_ble_eq_true rfl | refine And.intro ?_ ?_)) rfl rfl rfl rfl | exact sLe rfl | exact Chk.mk (by kernel_rfl) | exact ⟨Chk.mk (by kernel_rfl)⟩ | exact sLeEq rfl rfl | exact sAnd (by repeat' constructor) (c_impl_in _ _ _) | refine fun h => ?_)
              all_goals try (exfalso; simp_all; done)
              all_goals simp only [decide_eq_true_eq, decide_eq_false_iff_not, List.length_map, Bool.not_false, Bool.not_true, Bool.not_eq_true', Bool.not_eq_false'] at *
              · exact sRow (by omega) (row_is (by omega) hx) rfl
              · refine ⟨?_⟩
                have := listOk_bad (lo := -1000000) (xs := ps) (i := i) (by omega) (by rw [elemOk_is hx]; simp_all)
                simp [execOk, this]
          · have hqps : listOk (-1000000) ps = true := listOk_all (i := i) (by omega) (fun j hj _ => hp j hj)
            clear hp hx
            repeat' (first | refine And.intro ?_ ?_ | exact tf | exact ft | refine tt ?_ | refine ff ?_ | exact ⟨trivial⟩ | exact sAll rfl | exact sF1 rfl | exact sBld (by repeat' (first | exact trivial | rfl | exact Nat.le_of_ble_eq_true rfl | refine And.intro ?_ ?_)) rfl | exact sBS (by repeat' (first | exact trivial | rfl | exact Nat.le_of_ble_eq_true rfl | refine And.intro ?_ ?_)) rfl rfl rfl rfl | exact sLe rfl | exact Chk.mk (by kernel_rfl) | exact ⟨Chk.mk (by kernel_rfl)⟩ | exact sLeEq rfl rfl | refine fun h => ?_)
            all_goals try (exfalso; simp_all; done)
            all_goals try (exfalso; simp at *; omega)
            refine ⟨?_⟩
            simp [execOk, hh, hqrs, hqps]
    all_goals (show subC _ _ _ _; repeat' (first | exact trivial | exact Side.mk rfl | exact Chk.mk (by kernel_rfl) | exact ⟨Chk.mk (by kernel_rfl)⟩ | refine And.intro ?_ ?_ | rfl))
    all_goals exact ⟨by simp⟩
  · refine Pure.vc [(11, .res (ob (inr d 0 3))), (16, .res (ob (inr c (-1000000) 1000000)))] TTok hmo Go.Proofs.Tryz.func78 (by kernel_rfl) rfl (by kernel_rfl) ?_
    repeat' (first | refine And.intro ?_ ?_ | exact tf | exact ft | refine tt ?_ | refine ff ?_ | exact ⟨trivial⟩ | exact sAll rfl | exact sF1 rfl | exact sBld (by repeat' (first | exact trivial | rfl | exact Nat.le_of_ble_eq_true rfl | refine And.intro ?_ ?_)) rfl | exact sBS (by repeat' (first | exact trivial | rfl | exact Nat.le_of_ble_eq_true rfl | refine And.intro ?_ ?_)) rfl rfl rfl rfl | exact sLe rfl | exact Chk.mk (by kernel_rfl) | exact ⟨Chk.mk (by kernel_rfl)⟩ | exact sLeEq rfl rfl | exact sAnd (by repeat' constructor) (c_impl_in _ _ _) | refine fun h => ?_)
    all_goals try (exfalso; apply hh; simp_all [headOk, inr]; done)
    all_goals (refine Side.mk ?_; simp_all [execOk])
end Mg
