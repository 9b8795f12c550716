/- Parts of the abstract state logic and of the walks, one behind the other: R1C, R1E, R1F, R1H, R1M, R2D. No condition. -/
import Derived.Test.YtedgmfmhilihoaaGreatP14
/- Contracts of the law's helpers. No condition. -/
namespace Mg
open Go Go.RowKit
set_option maxRecDepth 100000
set_option linter.unusedVariables false
set_option linter.unusedSimpArgs false
attribute [local irreducible] W Pure
theorem hmo : PP.follows .mixedOrders = true := by kernel_rfl
theorem c_toRead (x : Two) :
    Pure PP false 164 [.agg x.cells] (.agg x.cells) := by
  refine Pure.vc [] TTok hmo Go.Proofs.Tryz.func164 (by kernel_rfl) rfl (by kernel_rfl) ?_
  repeat' (first | refine And.intro ?_ ?_ | exact tf | exact ft | refine tt ?_ | refine ff ?_ | exact ⟨trivial⟩ | exact sLe rfl | exact Chk.mk (by kernel_rfl) | exact ⟨Chk.mk (by kernel_rfl)⟩ | exact sLeEq rfl rfl | refine fun h => ?_)
  all_goals (refine ⟨?_⟩; repeat' (first | exact trivial | exact Nat.le_of_ble_eq_true rfl | rfl | refine And.intro ?_ ?_))

theorem c_toPut (x : Two) :
    Pure PP false 165 [.agg x.cells] (.agg x.cells) := by
  refine Pure.vc [] TTok hmo Go.Proofs.Tryz.func165 (by kernel_rfl) rfl (by kernel_rfl) ?_
  repeat' (first | refine And.intro ?_ ?_ | exact tf | exact ft | refine tt ?_ | refine ff ?_ | exact ⟨trivial⟩ | exact sLe rfl | exact Chk.mk (by kernel_rfl) | exact ⟨Chk.mk (by kernel_rfl)⟩ | exact sLeEq rfl rfl | refine fun h => ?_)
  all_goals (refine ⟨?_⟩; repeat' (first | exact trivial | exact Nat.le_of_ble_eq_true rfl | rfl | refine And.intro ?_ ?_))

theorem c_toReq (x : Two) :
    Pure PP false 93 [.agg x.cells] (.agg x.cells) := by
  refine Pure.vc [] TTok hmo Go.Proofs.Tryz.func93 (by kernel_rfl) rfl (by kernel_rfl) ?_
  repeat' (first | refine And.intro ?_ ?_ | exact tf | exact ft | refine tt ?_ | refine ff ?_ | exact ⟨trivial⟩ | exact sLe rfl | exact Chk.mk (by kernel_rfl) | exact ⟨Chk.mk (by kernel_rfl)⟩ | exact sLeEq rfl rfl | refine fun h => ?_)
  all_goals (refine ⟨?_⟩; repeat' (first | exact trivial | exact Nat.le_of_ble_eq_true rfl | rfl | refine And.intro ?_ ?_))

theorem c_eqRead (x y : Two)  :
    Pure PP false 173 [.agg x.cells, .agg y.cells] (ob (decide (x = y))) := by
  obtain ⟨a, b⟩ := x
  obtain ⟨a', b'⟩ := y
  refine Pure.vc [] TTok hmo Go.Proofs.Tryz.func173 (by kernel_rfl) rfl (by kernel_rfl) ?_
  repeat' (first | refine And.intro ?_ ?_ | exact tf | exact ft | refine tt ?_ | refine ff ?_ | exact ⟨trivial⟩ | exact sLe rfl | exact Chk.mk (by kernel_rfl) | exact ⟨Chk.mk (by kernel_rfl)⟩ | exact sLeEq rfl rfl | refine fun h => ?_)
  all_goals (refine ⟨?_⟩; simp_all)
  all_goals rfl

theorem c_eqPut (x y : Two)  :
    Pure PP false 174 [.agg x.cells, .agg y.cells] (ob (decide (x = y))) := by
  obtain ⟨a, b⟩ := x
  obtain ⟨a', b'⟩ := y
  refine Pure.vc [] TTok hmo Go.Proofs.Tryz.func174 (by kernel_rfl) rfl (by kernel_rfl) ?_
  repeat' (first | refine And.intro ?_ ?_ | exact tf | exact ft | refine tt ?_ | refine ff ?_ | exact ⟨trivial⟩ | exact sLe rfl | exact Chk.mk (by kernel_rfl) | exact ⟨Chk.mk (by kernel_rfl)⟩ | exact sLeEq rfl rfl | refine fun h => ?_)
  all_goals (refine ⟨?_⟩; simp_all)
  all_goals rfl

theorem c_eqReq (x y : Two)  :
    Pure PP false 110 [.agg x.cells, .agg y.cells] (ob (decide (x = y))) := by
  obtain ⟨a, b⟩ := x
  obtain ⟨a', b'⟩ := y
  refine Pure.vc [] TTok hmo Go.Proofs.Tryz.func110 (by kernel_rfl) rfl (by kernel_rfl) ?_
  repeat' (first | refine And.intro ?_ ?_ | exact tf | exact ft | refine tt ?_ | refine ff ?_ | exact ⟨trivial⟩ | exact sLe rfl | exact Chk.mk (by kernel_rfl) | exact ⟨Chk.mk (by kernel_rfl)⟩ | exact sLeEq rfl rfl | refine fun h => ?_)
  all_goals (refine ⟨?_⟩; simp_all)
  all_goals rfl

theorem c_eqReadS (xs ys : List Two) (hx : xs.length ≤ maxLen) (hy : ys.length ≤ maxLen)  :
    Pure PP false 147 [.one (.fz (xs.map Two.cells)), .one (.fz (ys.map Two.cells))] (ob (decide (xs = ys))) := by
  refine Pure.vc [] TTok hmo Go.Proofs.Tryz.func147 (by kernel_rfl) rfl (by kernel_rfl) ?_
  repeat' (first | refine And.intro ?_ ?_ | exact tf | exact ft | refine tt ?_ | refine ff ?_ | exact ⟨trivial⟩ | exact sLe rfl | exact Chk.mk (by kernel_rfl) | exact ⟨Chk.mk (by kernel_rfl)⟩ | exact sLeEq rfl rfl | refine fun h => ?_)
  · refine ⟨?_⟩
    simp at *
    intro e; subst e; simp at h
  · have hl : xs.length = ys.length := by simp at h; omega
    unfold maxLen at hx hy
    refine W.loopC (D := Nat) (fun i => [(19, .row (xs.getD i default).cells), (23, .row (ys.getD i default).cells), (25, .res (ob (decide (xs.getD i default = ys.getD i default))))]) TTok hmo
      (fun i => ⟨27, 0, [(0, .one (.ag (xs.map Two.cells))), (1, .one (.ag (ys.map Two.cells))), (4, ob false), (5, oi i)], []⟩) (fun i => xs.length - i) (fun i => i ≤ xs.length ∧ xs.take i = ys.take i) 0 [] ⟨by omega, by simp⟩ ?_ ?_
    · repeat' (first | exact trivial | exact ⟨rfl⟩ | exact Chk.mk (by kernel_rfl) | refine And.intro ?_ ?_ | rfl)
    · intro i ⟨hi, hp⟩
      repeat' (first | refine And.intro ?_ ?_ | exact tf | exact ft | refine tt ?_ | refine ff ?_ | exact ⟨trivial⟩ | exact sLe rfl | exact Chk.mk (by kernel_rfl) | exact ⟨Chk.mk (by kernel_rfl)⟩ | exact sLeEq rfl rfl | exact sAnd (by repeat' constructor) (c_eqRead _ _) | refine fun h => ?_)
      all_goals simp only [decide_eq_true_eq, decide_eq_false_iff_not, List.length_map, Bool.not_eq_true', Bool.not_eq_false', Bool.not_eq_eq_eq_not, Bool.not_true, Bool.not_false] at *
      · exact sRow (by omega) (row_at xs _ (by omega)) rfl
      · exact sRow (by omega) (row_at ys _ (by omega)) rfl
      · refine ⟨?_⟩
        simp
        intro e; subst e; contradiction
      · refine ⟨i + 1, [], by omega, ⟨by omega, eq_upto hl (by omega) hp (by assumption)⟩, ?_⟩
        repeat' (first | exact trivial | exact ⟨rfl⟩ | exact Chk.mk (by kernel_rfl) | refine And.intro ?_ ?_ | rfl)
        exact ⟨by rw [wrapi] <;> omega⟩
      · refine ⟨?_⟩
        simp
        exact eq_all hl (by omega) hp

theorem c_eqPutS (xs ys : List Two) (hx : xs.length ≤ maxLen) (hy : ys.length ≤ maxLen)  :
    Pure PP false 148 [.one (.fz (xs.map Two.cells)), .one (.fz (ys.map Two.cells))] (ob (decide (xs = ys))) := by
  refine Pure.vc [] TTok hmo Go.Proofs.Tryz.func148 (by kernel_rfl) rfl (by kernel_rfl) ?_
  repeat' (first | refine And.intro ?_ ?_ | exact tf | exact ft | refine tt ?_ | refine ff ?_ | exact ⟨trivial⟩ | exact sLe rfl | exact Chk.mk (by kernel_rfl) | exact ⟨Chk.mk (by kernel_rfl)⟩ | exact sLeEq rfl rfl | refine fun h => ?_)
  · refine ⟨?_⟩
    simp at *
    intro e; subst e; simp at h
  · have hl : xs.length = ys.length := by simp at h; omega
    unfold maxLen at hx hy
    refine W.loopC (D := Nat) (fun i => [(19, .row (xs.getD i default).cells), (23, .row (ys.getD i default).cells), (25, .res (ob (decide (xs.getD i default = ys.getD i default))))]) TTok hmo
      (fun i => ⟨27, 0, [(0, .one (.ag (xs.map Two.cells))), (1, .one (.ag (ys.map Two.cells))), (4, ob false), (5, oi i)], []⟩) (fun i => xs.length - i) (fun i => i ≤ xs.length ∧ xs.take i = ys.take i) 0 [] ⟨by omega, by simp⟩ ?_ ?_
    · repeat' (first | exact trivial | exact ⟨rfl⟩ | exact Chk.mk (by kernel_rfl) | refine And.intro ?_ ?_ | rfl)
    · intro i ⟨hi, hp⟩
      repeat' (first | refine And.intro ?_ ?_ | exact tf | exact ft | refine tt ?_ | refine ff ?_ | exact ⟨trivial⟩ | exact sLe rfl | exact Chk.mk (by kernel_rfl) | exact ⟨Chk.mk (by kernel_rfl)⟩ | exact sLeEq rfl rfl | exact sAnd (by repeat' constructor) (c_eqPut _ _) | refine fun h => ?_)
      all_goals simp only [decide_eq_true_eq, decide_eq_false_iff_not, List.length_map, Bool.not_eq_true', Bool.not_eq_false', Bool.not_eq_eq_eq_not, Bool.not_true, Bool.not_false] at *
      · exact sRow (by omega) (row_at xs _ (by omega)) rfl
      · exact sRow (by omega) (row_at ys _ (by omega)) rfl
      · refine ⟨?_⟩
        simp
        intro e; subst e; contradiction
      · refine ⟨i + 1, [], by omega, ⟨by omega, eq_upto hl (by omega) hp (by assumption)⟩, ?_⟩
        repeat' (first | exact trivial | exact ⟨rfl⟩ | exact Chk.mk (by kernel_rfl) | refine And.intro ?_ ?_ | rfl)
        exact ⟨by rw [wrapi] <;> omega⟩
      · refine ⟨?_⟩
        simp
        exact eq_all hl (by omega) hp

theorem c_toReadS (xs : List Two) (hx : xs.length ≤ lim)  :
    Pure PP false 136 [.one (.fz (xs.map Two.cells))] (.one (.fz (xs.map Two.cells))) := by
  have hx0 : xs.length ≤ 1048576 := hx
  refine Pure.vc [] TTok hmo Go.Proofs.Tryz.func136 (by kernel_rfl) rfl (by kernel_rfl) ?_
  repeat' (first | refine And.intro ?_ ?_ | exact tf | exact ft | refine tt ?_ | refine ff ?_ | exact ⟨trivial⟩ | exact sLe rfl | exact Chk.mk (by kernel_rfl) | exact ⟨Chk.mk (by kernel_rfl)⟩ | exact sLeEq rfl rfl | refine fun h => ?_)
  · refine ⟨?_⟩
    simp at *
    omega
  · refine W.loopC (D := Nat) (fun i => [(18, .row (xs.getD i default).cells), (20, .res (.agg (xs.getD i default).cells))]) TTok hmo
      (fun i => ⟨23, 1, [(0, .one (.ag (xs.map Two.cells))), (2, .one .nil), (3, .one (.ref 0 0 xs.length)), (4, oi i)], [(0, .arr (part Two.cells [i6 0, i6 0] xs i))]⟩) (fun i => xs.length - i) (fun i => i ≤ xs.length) 0 [] (by omega) ?_ ?_
    · repeat' (first | exact trivial | exact ⟨rfl⟩ | exact Chk.mk (by kernel_rfl) | exact sPart0 (by simp) | exact sFlat Two.flat rfl | refine And.intro ?_ ?_ | rfl)
      all_goals exact ⟨by simp⟩
    · intro i hi
      repeat' (first | refine And.intro ?_ ?_ | exact tf | exact ft | refine tt ?_ | refine ff ?_ | exact ⟨trivial⟩ | exact sLe rfl | exact Chk.mk (by kernel_rfl) | exact ⟨Chk.mk (by kernel_rfl)⟩ | exact sLeEq rfl rfl | exact sAnd (by repeat' constructor) (c_toRead _) | refine fun h => ?_)
      all_goals simp only [decide_eq_true_eq, decide_eq_false_iff_not, List.length_map] at *
      · exact sRow (by omega) (row_at xs _ (by omega)) rfl
      · exact sIdx (by omega) rfl rfl
      · exact sPut (by omega) rfl rfl
      · refine ⟨i + 1, [], by omega, by omega, ?_⟩
        repeat' (first | exact trivial | exact ⟨rfl⟩ | exact Chk.mk (by kernel_rfl) | exact ⟨wrap_succ (n := xs.length) (by omega) (by omega)⟩ | exact sPartS (by omega) rfl | exact sFlat Two.flat rfl | refine And.intro ?_ ?_ | rfl)
      · refine ⟨⟨trivial, trivial⟩, ⟨part_end (by omega) rfl, ?_⟩, trivial⟩
        show AllF _
        rw [part_all (by omega)]
        exact map_frz Two.frz

theorem c_toPutS (xs : List Two) (hx : xs.length ≤ lim)  :
    Pure PP false 137 [.one (.fz (xs.map Two.cells))] (.one (.fz (xs.map Two.cells))) := by
  have hx0 : xs.length ≤ 1048576 := hx
  refine Pure.vc [] TTok hmo Go.Proofs.Tryz.func137 (by kernel_rfl) rfl (by kernel_rfl) ?_
  repeat' (first | refine And.intro ?_ ?_ | exact tf | exact ft | refine tt ?_ | refine ff ?_ | exact ⟨trivial⟩ | exact sLe rfl | exact Chk.mk (by kernel_rfl) | exact ⟨Chk.mk (by kernel_rfl)⟩ | exact sLeEq rfl rfl | refine fun h => ?_)
  · refine ⟨?_⟩
    simp at *
    omega
  · refine W.loopC (D := Nat) (fun i => [(18, .row (xs.getD i default).cells), (20, .res (.agg (xs.getD i default).cells))]) TTok hmo
      (fun i => ⟨23, 1, [(0, .one (.ag (xs.map Two.cells))), (2, .one .nil), (3, .one (.ref 0 0 xs.length)), (4, oi i)], [(0, .arr (part Two.cells [i6 0, i6 0] xs i))]⟩) (fun i => xs.length - i) (fun i => i ≤ xs.length) 0 [] (by omega) ?_ ?_
    · repeat' (first | exact trivial | exact ⟨rfl⟩ | exact Chk.mk (by kernel_rfl) | exact sPart0 (by simp) | exact sFlat Two.flat rfl | refine And.intro ?_ ?_ | rfl)
      all_goals exact ⟨by simp⟩
    · intro i hi
      repeat' (first | refine And.intro ?_ ?_ | exact tf | exact ft | refine tt ?_ | refine ff ?_ | exact ⟨trivial⟩ | exact sLe rfl | exact Chk.mk (by kernel_rfl) | exact ⟨Chk.mk (by kernel_rfl)⟩ | exact sLeEq rfl rfl | exact sAnd (by repeat' constructor) (c_toPut _) | refine fun h => ?_)
      all_goals simp only [decide_eq_true_eq, decide_eq_false_iff_not, List.length_map] at *
      · exact sRow (by omega) (row_at xs _ (by omega)) rfl
      · exact sIdx (by omega) rfl rfl
      · exact sPut (by omega) rfl rfl
      · refine ⟨i + 1, [], by omega, by omega, ?_⟩
        repeat' (first | exact trivial | exact ⟨rfl⟩ | exact Chk.mk (by kernel_rfl) | exact ⟨wrap_succ (n := xs.length) (by omega) (by omega)⟩ | exact sPartS (by omega) rfl | exact sFlat Two.flat rfl | refine And.intro ?_ ?_ | rfl)
      · refine ⟨⟨trivial, trivial⟩, ⟨part_end (by omega) rfl, ?_⟩, trivial⟩
        show AllF _
        rw [part_all (by omega)]
        exact map_frz Two.frz

theorem c_eqRun (x y : Run) (hx : x.ok lim) (hy : y.ok lim) :
    Pure PP false 111 [.agg x.cells, .agg y.cells] (ob (decide (x = y))) := by
  obtain ⟨rs, ps, c, d⟩ := x
  obtain ⟨rs', ps', c', d'⟩ := y
  refine Pure.vc [(9, .res (ob (decide (rs = rs')))), (15, .res (ob (decide (ps = ps'))))] TTok hmo Go.Proofs.Tryz.func111 (by kernel_rfl) rfl (by kernel_rfl) ?_
  repeat' (first | refine And.intro ?_ ?_ | exact tf | exact ft | refine tt ?_ | refine ff ?_ | exact ⟨trivial⟩ | exact sLe rfl | exact Chk.mk (by kernel_rfl) | exact ⟨Chk.mk (by kernel_rfl)⟩ | exact sLeEq rfl rfl | exact sAnd (by repeat' constructor) (c_eqReadS _ _ (Nat.le_trans hx.1 (by decide)) (Nat.le_trans hy.1 (by decide))) | exact sAnd (by repeat' constructor) (c_eqPutS _ _ (Nat.le_trans hx.2 (by decide)) (Nat.le_trans hy.2 (by decide))) | refine fun h => ?_)
  all_goals (refine ⟨?_⟩; simp_all)
  all_goals rfl

theorem c_eqEntry (x y : Entry) (hx : x.ok lim) (hy : y.ok lim) :
    Pure PP false 43 [.agg x.cells, .agg y.cells] (ob (decide (x = y))) := by
  obtain ⟨n, q, r⟩ := x
  obtain ⟨n', q', r'⟩ := y
  refine Pure.vc [(14, .res (ob (decide (q = q')))), (20, .res (ob (decide (r = r'))))] TTok hmo Go.Proofs.Tryz.func43 (by kernel_rfl) rfl (by kernel_rfl) ?_
  repeat' (first | refine And.intro ?_ ?_ | exact tf | exact ft | refine tt ?_ | refine ff ?_ | exact ⟨trivial⟩ | exact sLe rfl | exact Chk.mk (by kernel_rfl) | exact ⟨Chk.mk (by kernel_rfl)⟩ | exact sLeEq rfl rfl | exact sAnd (by repeat' constructor) (c_eqReq _ _) | exact sAnd (by repeat' constructor) (c_eqRun _ _ hx hy) | refine fun h => ?_)
  all_goals (refine ⟨?_⟩; simp_all)
  all_goals rfl

theorem c_eqVote (x y : Vote) (hx : x.ok lim) (hy : y.ok lim) :
    Pure PP false 109 [.agg x.cells, .agg y.cells] (ob (decide (x = y))) := by
  obtain ⟨b, e⟩ := x
  obtain ⟨b', e'⟩ := y
  refine Pure.vc [(14, .res (ob (decide (e = e'))))] TTok hmo Go.Proofs.Tryz.func109 (by kernel_rfl) rfl (by kernel_rfl) ?_
  repeat' (first | refine And.intro ?_ ?_ | exact tf | exact ft | refine tt ?_ | refine ff ?_ | exact ⟨trivial⟩ | exact sLe rfl | exact Chk.mk (by kernel_rfl) | exact ⟨Chk.mk (by kernel_rfl)⟩ | exact sLeEq rfl rfl | exact sAnd (by repeat' constructor) (c_eqEntry _ _ hx hy) | refine fun h => ?_)
  all_goals (refine ⟨?_⟩; simp_all)
  all_goals rfl

theorem c_eqVoteS (xs ys : List Vote) (hx : xs.length ≤ maxLen) (hy : ys.length ≤ maxLen) (hvx : ∀ v ∈ xs, v.ok lim) (hvy : ∀ v ∈ ys, v.ok lim) :
    Pure PP false 42 [.one (.fz (xs.map Vote.cells)), .one (.fz (ys.map Vote.cells))] (ob (decide (xs = ys))) := by
  refine Pure.vc [] TTok hmo Go.Proofs.Tryz.func42 (by kernel_rfl) rfl (by kernel_rfl) ?_
  repeat' (first | refine And.intro ?_ ?_ | exact tf | exact ft | refine tt ?_ | refine ff ?_ | exact ⟨trivial⟩ | exact sLe rfl | exact Chk.mk (by kernel_rfl) | exact ⟨Chk.mk (by kernel_rfl)⟩ | exact sLeEq rfl rfl | refine fun h => ?_)
  · refine ⟨?_⟩
    simp at *
    intro e; subst e; simp at h
  · have hl : xs.length = ys.length := by simp at h; omega
    unfold maxLen at hx hy
    refine W.loopC (D := Nat) (fun i => [(19, .row (xs.getD i default).cells), (23, .row (ys.getD i default).cells), (25, .res (ob (decide (xs.getD i default = ys.getD i default))))]) TTok hmo
      (fun i => ⟨27, 0, [(0, .one (.ag (xs.map Vote.cells))), (1, .one (.ag (ys.map Vote.cells))), (4, ob false), (5, oi i)], []⟩) (fun i => xs.length - i) (fun i => i ≤ xs.length ∧ xs.take i = ys.take i) 0 [] ⟨by omega, by simp⟩ ?_ ?_
    · repeat' (first | exact trivial | exact ⟨rfl⟩ | exact Chk.mk (by kernel_rfl) | refine And.intro ?_ ?_ | rfl)
    · intro i ⟨hi, hp⟩
      repeat' (first | refine And.intro ?_ ?_ | exact tf | exact ft | refine tt ?_ | refine ff ?_ | exact ⟨trivial⟩ | exact sLe rfl | exact Chk.mk (by kernel_rfl) | exact ⟨Chk.mk (by kernel_rfl)⟩ | exact sLeEq rfl rfl | refine fun h => ?_)
      all_goals simp only [decide_eq_true_eq, decide_eq_false_iff_not, List.length_map, Bool.not_eq_true', Bool.not_eq_false', Bool.not_eq_eq_eq_not, Bool.not_true, Bool.not_false] at *
      · exact sRow (by omega) (row_at xs _ (by omega)) rfl
      · exact sRow (by omega) (row_at ys _ (by omega)) rfl
      · exact sAnd (by repeat' constructor) (c_eqVote _ _ (hvx _ (getD_mem (by omega))) (hvy _ (getD_mem (by omega))))
      · refine ⟨?_⟩
        simp
        intro e; subst e; contradiction
      · refine ⟨i + 1, [], by omega, ⟨by omega, eq_upto hl (by omega) hp (by assumption)⟩, ?_⟩
        repeat' (first | exact trivial | exact ⟨rfl⟩ | exact Chk.mk (by kernel_rfl) | refine And.intro ?_ ?_ | rfl)
        exact ⟨by rw [wrapi] <;> omega⟩
      · refine ⟨?_⟩
        simp
        exact eq_all hl (by omega) hp

theorem c_eqAcc (x y : Acc) (hx : x.ok lim) (hy : y.ok lim) :
    Pure PP false 39 [.agg x.cells, .agg y.cells] (ob (decide (x = y))) := by
  obtain ⟨p, vs⟩ := x
  obtain ⟨p', vs'⟩ := y
  refine Pure.vc [(14, .res (ob (decide (vs = vs'))))] TTok hmo Go.Proofs.Tryz.func39 (by kernel_rfl) rfl (by kernel_rfl) ?_
  repeat' (first | refine And.intro ?_ ?_ | exact tf | exact ft | refine tt ?_ | refine ff ?_ | exact ⟨trivial⟩ | exact sLe rfl | exact Chk.mk (by kernel_rfl) | exact ⟨Chk.mk (by kernel_rfl)⟩ | exact sLeEq rfl rfl | exact sAnd (by repeat' constructor) (c_eqVoteS _ _ (Nat.le_trans hx.1 (by decide)) (Nat.le_trans hy.1 (by decide)) hx.2 hy.2) | refine fun h => ?_)
  all_goals (refine ⟨?_⟩; simp_all)
  all_goals rfl

theorem c_toRun (x : Run) (hx : x.ok lim) :
    Pure PP false 94 [.agg x.cells] (.agg x.cells) := by
  refine Pure.vc [(6, .res (.one (.fz (x.reads.map Two.cells)))), (10, .res (.one (.fz (x.puts.map Two.cells))))] TTok hmo Go.Proofs.Tryz.func94 (by kernel_rfl) rfl (by kernel_rfl) ?_
  repeat' (first | refine And.intro ?_ ?_ | exact tf | exact ft | refine tt ?_ | refine ff ?_ | exact ⟨trivial⟩ | exact sLe rfl | exact Chk.mk (by kernel_rfl) | exact ⟨Chk.mk (by kernel_rfl)⟩ | exact sLeEq rfl rfl | exact sAnd (by repeat' constructor) (c_toReadS _ hx.1) | exact sAnd (by repeat' constructor) (c_toPutS _ hx.2) | refine fun h => ?_)
  all_goals (refine ⟨?_⟩; repeat' (first | exact trivial | exact Nat.le_of_ble_eq_true rfl | rfl | refine And.intro ?_ ?_))

theorem c_toEntry (x : Entry) (hx : x.ok lim) :
    Pure PP false 35 [.agg x.cells] (.agg x.cells) := by
  refine Pure.vc [(9, .res (.agg x.q.cells)), (13, .res (.agg x.run.cells))] TTok hmo Go.Proofs.Tryz.func35 (by kernel_rfl) rfl (by kernel_rfl) ?_
  repeat' (first | refine And.intro ?_ ?_ | exact tf | exact ft | refine tt ?_ | refine ff ?_ | exact ⟨trivial⟩ | exact sLe rfl | exact Chk.mk (by kernel_rfl) | exact ⟨Chk.mk (by kernel_rfl)⟩ | exact sLeEq rfl rfl | exact sAnd (by repeat' constructor) (c_toReq _) | exact sAnd (by repeat' constructor) (c_toRun _ hx) | refine fun h => ?_)
  all_goals (refine ⟨?_⟩; repeat' (first | exact trivial | exact Nat.le_of_ble_eq_true rfl | rfl | refine And.intro ?_ ?_))

theorem c_toVote (x : Vote) (hx : x.ok lim) :
    Pure PP false 92 [.agg x.cells] (.agg x.cells) := by
  refine Pure.vc [(9, .res (.agg x.e.cells))] TTok hmo Go.Proofs.Tryz.func92 (by kernel_rfl) rfl (by kernel_rfl) ?_
  repeat' (first | refine And.intro ?_ ?_ | exact tf | exact ft | refine tt ?_ | refine ff ?_ | exact ⟨trivial⟩ | exact sLe rfl | exact Chk.mk (by kernel_rfl) | exact ⟨Chk.mk (by kernel_rfl)⟩ | exact sLeEq rfl rfl | exact sAnd (by repeat' constructor) (c_toEntry _ hx) | refine fun h => ?_)
  all_goals (refine ⟨?_⟩; repeat' (first | exact trivial | exact Nat.le_of_ble_eq_true rfl | rfl | refine And.intro ?_ ?_))

theorem c_toVoteS (xs : List Vote) (hx : xs.length ≤ lim) (hv : ∀ v ∈ xs, v.ok lim) :
    Pure PP false 34 [.one (.fz (xs.map Vote.cells))] (.one (.fz (xs.map Vote.cells))) := by
  have hx0 : xs.length ≤ 1048576 := hx
  refine Pure.vc [] TTok hmo Go.Proofs.Tryz.func34 (by kernel_rfl) rfl (by kernel_rfl) ?_
  repeat' (first | refine And.intro ?_ ?_ | exact tf | exact ft | refine tt ?_ | refine ff ?_ | exact ⟨trivial⟩ | exact sLe rfl | exact Chk.mk (by kernel_rfl) | exact ⟨Chk.mk (by kernel_rfl)⟩ | exact sLeEq rfl rfl | refine fun h => ?_)
  · refine ⟨?_⟩
    simp at *
    omega
  · refine W.loopC (D := Nat) (fun i => [(18, .row (xs.getD i default).cells), (20, .res (.agg (xs.getD i default).cells))]) TTok hmo
      (fun i => ⟨23, 1, [(0, .one (.ag (xs.map Vote.cells))), (2, .one .nil), (3, .one (.ref 0 0 xs.length)), (4, oi i)], [(0, .arr (part Vote.cells [i6 0, bo false, i6 0, i6 0, .nil, .nil, i6 0, i6 0] xs i))]⟩) (fun i => xs.length - i) (fun i => i ≤ xs.length) 0 [] (by omega) ?_ ?_
    · repeat' (first | exact trivial | exact ⟨rfl⟩ | exact Chk.mk (by kernel_rfl) | exact sPart0 (by simp) | exact sFlat Vote.flat rfl | refine And.intro ?_ ?_ | rfl)
      all_goals exact ⟨by simp⟩
    · intro i hi
      repeat' (first | refine And.intro ?_ ?_ | exact tf | exact ft | refine tt ?_ | refine ff ?_ | exact ⟨trivial⟩ | exact sLe rfl | exact Chk.mk (by kernel_rfl) | exact ⟨Chk.mk (by kernel_rfl)⟩ | exact sLeEq rfl rfl | refine fun h => ?_)
      all_goals simp only [decide_eq_true_eq, decide_eq_false_iff_not, List.length_map] at *
      · exact sRow (by omega) (row_at xs _ (by omega)) rfl
      · exact sAnd (by repeat' constructor) (c_toVote _ (hv _ (getD_mem (by omega))))
      · exact sIdx (by omega) rfl rfl
      · exact sPut (by omega) rfl rfl
      · refine ⟨i + 1, [], by omega, by omega, ?_⟩
        repeat' (first | exact trivial | exact ⟨rfl⟩ | exact Chk.mk (by kernel_rfl) | exact ⟨wrap_succ (n := xs.length) (by omega) (by omega)⟩ | exact sPartS (by omega) rfl | exact sFlat Vote.flat rfl | refine And.intro ?_ ?_ | rfl)
      · refine ⟨⟨trivial, trivial⟩, ⟨part_end (by omega) rfl, ?_⟩, trivial⟩
        show AllF _
        rw [part_all (by omega)]
        exact map_frz Vote.frz

theorem c_toAcc (x : Acc) (hx : x.ok lim) :
    Pure PP false 31 [.agg x.cells] (.agg x.cells) := by
  refine Pure.vc [(9, .res (.one (.fz (x.votes.map Vote.cells))))] TTok hmo Go.Proofs.Tryz.func31 (by kernel_rfl) rfl (by kernel_rfl) ?_
  repeat' (first | refine And.intro ?_ ?_ | exact tf | exact ft | refine tt ?_ | refine ff ?_ | exact ⟨trivial⟩ | exact sLe rfl | exact Chk.mk (by kernel_rfl) | exact ⟨Chk.mk (by kernel_rfl)⟩ | exact sLeEq rfl rfl | exact sAnd (by repeat' constructor) (c_toVoteS _ hx.1 hx.2) | refine fun h => ?_)
  all_goals (refine ⟨?_⟩; repeat' (first | exact trivial | exact Nat.le_of_ble_eq_true rfl | rfl | refine And.intro ?_ ?_))
end Mg

/- Sizes. No condition. -/
namespace Mg
open Go Go.RowKit
set_option maxRecDepth 100000
set_option linter.unusedVariables false
set_option linter.unusedSimpArgs false
attribute [local irreducible] W Pure

def sg (a : Int) : Int := if a < 0 then -1 else a
def szT (n : Nat) (l : Int) : Int := sg (l - n)
def thenI (a : Int) (f : Int → Int) : Int := if a < 0 then -1 else f a
def szRun (x : Run) (l : Int) : Int := thenI (szT x.reads.length l) fun a => sg (szT x.puts.length a)
def szEntry (x : Entry) (l : Int) : Int := sg (szRun x.run l)
def szVote (x : Vote) (l : Int) : Int := sg (szEntry x.e l)
def szL {α : Type} (f : α → Int → Int) : List α → Int → Int
  | [], l => l
  | x :: xs, l => thenI (f x l) (szL f xs)
def szVoteS (xs : List Vote) (l : Int) : Int := thenI (l - xs.length) (szL szVote xs)
def szAcc (x : Acc) (l : Int) : Int := sg (szVoteS x.votes l)

theorem sg_le {a b : Int} (h : a ≤ b) (h0 : 0 ≤ b) : sg a ≤ b := by unfold sg; split <;> omega
theorem szT_le (n : Nat) {l : Int} (h : 0 ≤ l) : szT n l ≤ l := sg_le (by omega) h
theorem szRun_le (x : Run) {l : Int} (h : 0 ≤ l) : szRun x l ≤ l := by
  have h1 := szT_le x.reads.length h
  unfold szRun thenI
  split
  · omega
  · have := szT_le x.puts.length (l := szT x.reads.length l) (by omega)
    exact sg_le (by omega) h
theorem szEntry_le (x : Entry) {l : Int} (h : 0 ≤ l) : szEntry x l ≤ l := sg_le (szRun_le _ h) h
theorem szVote_le (x : Vote) {l : Int} (h : 0 ≤ l) : szVote x l ≤ l := sg_le (szEntry_le _ h) h
theorem szL_step {α : Type} [Inhabited α] (f : α → Int → Int) (xs : List α) {i : Nat} (l : Int) (h : i < xs.length) : szL f (xs.drop i) l = thenI (f (xs.getD i default) l) (szL f (xs.drop (i + 1))) := by
  rw [List.drop_eq_getElem_cons h, getD_get h]; rfl
theorem c_szReadS (xs : List Two) (l : Int) (h0 : 0 ≤ l) (h1 : l ≤ lim) (hx : xs.length ≤ maxLen) : Pure PP false 126 [.one (.fz (xs.map Two.cells)), oi l] (oi (szT xs.length l)) := by
  have hw : IntKind.i64.wrap (l - ((xs.map Two.cells).length : Int)) = l - xs.length := by
    unfold maxLen at hx; unfold lim at h1; rw [List.length_map, wrapi] <;> omega
  refine Pure.vc [] TTok hmo Go.Proofs.Tryz.func126 (by kernel_rfl) rfl (by kernel_rfl) ?_
  repeat' (first | refine And.intro ?_ ?_ | exact tf | exact ft | refine tt ?_ | refine ff ?_ | exact ⟨trivial⟩ | exact sLe rfl | exact Chk.mk (by kernel_rfl) | exact ⟨Chk.mk (by kernel_rfl)⟩ | exact sLeEq rfl rfl | refine fun h => ?_)
  all_goals (rw [hw] at h; refine ⟨?_⟩; simp_all [szT, sg])
  omega

theorem c_szPutS (xs : List Two) (l : Int) (h0 : 0 ≤ l) (h1 : l ≤ lim) (hx : xs.length ≤ maxLen) : Pure PP false 127 [.one (.fz (xs.map Two.cells)), oi l] (oi (szT xs.length l)) := by
  have hw : IntKind.i64.wrap (l - ((xs.map Two.cells).length : Int)) = l - xs.length := by
    unfold maxLen at hx; unfold lim at h1; rw [List.length_map, wrapi] <;> omega
  refine Pure.vc [] TTok hmo Go.Proofs.Tryz.func127 (by kernel_rfl) rfl (by kernel_rfl) ?_
  repeat' (first | refine And.intro ?_ ?_ | exact tf | exact ft | refine tt ?_ | refine ff ?_ | exact ⟨trivial⟩ | exact sLe rfl | exact Chk.mk (by kernel_rfl) | exact ⟨Chk.mk (by kernel_rfl)⟩ | exact sLeEq rfl rfl | refine fun h => ?_)
  all_goals (rw [hw] at h; refine ⟨?_⟩; simp_all [szT, sg])
  omega

theorem c_szRun (x : Run) (l : Int) (h0 : 0 ≤ l) (h1 : l ≤ lim) (hx : x.ok maxLen) : Pure PP false 83 [.agg x.cells, oi l] (oi (szRun x l)) := by
  have hle := szT_le x.reads.length h0
  refine Pure.vc [(8, .res (oi (szT x.reads.length l))), (14, .res (oi (szT x.puts.length (szT x.reads.length l))))] TTok hmo Go.Proofs.Tryz.func83 (by kernel_rfl) rfl (by kernel_rfl) ?_
  repeat' (first | refine And.intro ?_ ?_ | exact tf | exact ft | refine tt ?_ | refine ff ?_ | exact ⟨trivial⟩ | exact sLe rfl | exact Chk.mk (by kernel_rfl) | exact ⟨Chk.mk (by kernel_rfl)⟩ | exact sLeEq rfl rfl | refine fun h => ?_)
  · exact sAnd (by repeat' constructor) (c_szReadS _ _ h0 h1 hx.1)
  · refine ⟨?_⟩; simp_all [szRun, thenI]
  · exact sAnd (by repeat' constructor) (c_szPutS _ _ (by simpa using h) (by omega) hx.2)
  all_goals (refine ⟨?_⟩; simp_all [szRun, thenI, sg])
  all_goals omega

theorem c_szEntry (x : Entry) (l : Int) (h0 : 0 ≤ l) (h1 : l ≤ lim) (hx : x.ok maxLen) : Pure PP false 27 [.agg x.cells, oi l] (oi (szEntry x l)) := by
  refine Pure.vc [(8, .res (oi (szRun x.run l)))] TTok hmo Go.Proofs.Tryz.func27 (by kernel_rfl) rfl (by kernel_rfl) ?_
  repeat' (first | refine And.intro ?_ ?_ | exact tf | exact ft | refine tt ?_ | refine ff ?_ | exact ⟨trivial⟩ | exact sLe rfl | exact Chk.mk (by kernel_rfl) | exact ⟨Chk.mk (by kernel_rfl)⟩ | exact sLeEq rfl rfl | refine fun h => ?_)
  · exact sAnd (by repeat' constructor) (c_szRun _ _ h0 h1 hx)
  all_goals (refine ⟨?_⟩; simp_all [szEntry, sg])
  all_goals omega

theorem c_szVote (x : Vote) (l : Int) (h0 : 0 ≤ l) (h1 : l ≤ lim) (hx : x.ok maxLen) : Pure PP false 82 [.agg x.cells, oi l] (oi (szVote x l)) := by
  refine Pure.vc [(8, .res (oi (szEntry x.e l)))] TTok hmo Go.Proofs.Tryz.func82 (by kernel_rfl) rfl (by kernel_rfl) ?_
  repeat' (first | refine And.intro ?_ ?_ | exact tf | exact ft | refine tt ?_ | refine ff ?_ | exact ⟨trivial⟩ | exact sLe rfl | exact Chk.mk (by kernel_rfl) | exact ⟨Chk.mk (by kernel_rfl)⟩ | exact sLeEq rfl rfl | refine fun h => ?_)
  · exact sAnd (by repeat' constructor) (c_szEntry _ _ h0 h1 hx)
  all_goals (refine ⟨?_⟩; simp_all [szVote, sg])
  all_goals omega

theorem c_szVoteS (xs : List Vote) (l : Int) (h0 : 0 ≤ l) (h1 : l ≤ lim) (hx : xs.length ≤ maxLen) (hv : ∀ v ∈ xs, v.ok maxLen) : Pure PP false 26 [.one (.fz (xs.map Vote.cells)), oi l] (oi (szVoteS xs l)) := by
  have hw : IntKind.i64.wrap (l - ((xs.map Vote.cells).length : Int)) = l - xs.length := by
    unfold maxLen at hx; unfold lim at h1; rw [List.length_map, wrapi] <;> omega
  have hx' : xs.length ≤ 9223372036854775807 := hx
  refine Pure.vc [] TTok hmo Go.Proofs.Tryz.func26 (by kernel_rfl) rfl (by kernel_rfl) ?_
  repeat' (first | refine And.intro ?_ ?_ | exact tf | exact ft | refine tt ?_ | refine ff ?_ | exact ⟨trivial⟩ | exact sLe rfl | exact Chk.mk (by kernel_rfl) | exact ⟨Chk.mk (by kernel_rfl)⟩ | exact sLeEq rfl rfl | refine fun h => ?_)
  · rw [hw] at h; refine ⟨?_⟩; simp_all [szVoteS, thenI]
  · rw [hw] at h
    simp only [decide_eq_false_iff_not] at h
    refine W.loopC (D := Nat × Int) (fun d => [(20, .row (xs.getD d.1 default).cells), (23, .res (oi (szVote (xs.getD d.1 default) d.2)))]) TTok hmo
      (fun d => ⟨27, 0, [(0, .one (.ag (xs.map Vote.cells))), (1, oi d.2), (4, oi 0), (5, oi d.1)], []⟩) (fun d => xs.length - d.1) (fun d => d.1 ≤ xs.length ∧ 0 ≤ d.2 ∧ d.2 ≤ lim ∧ szVoteS xs l = szL szVote (xs.drop d.1) d.2) (0, l - xs.length) [] ⟨by simp, by simp only; omega, by simp only; omega, by simp [szVoteS, thenI]; omega⟩ ?_ ?_
    · repeat' (first | exact trivial | exact ⟨rfl⟩ | exact Chk.mk (by kernel_rfl) | refine And.intro ?_ ?_ | rfl)
      exact ⟨hw.symm⟩
    · intro ⟨i, a⟩ ⟨hi, ha0, ha1, hp⟩
      simp only at hi ha0 ha1 hp
      repeat' (first | refine And.intro ?_ ?_ | exact tf | exact ft | refine tt ?_ | refine ff ?_ | exact ⟨trivial⟩ | exact sLe rfl | exact Chk.mk (by kernel_rfl) | exact ⟨Chk.mk (by kernel_rfl)⟩ | exact sLeEq rfl rfl | refine fun h => ?_)
      all_goals simp only [decide_eq_true_eq, decide_eq_false_iff_not, List.length_map] at *
      · exact sRow (by omega) (row_at xs _ (by omega)) rfl
      · exact sAnd (by repeat' constructor) (c_szVote _ _ ha0 ha1 (hv _ (getD_mem (by omega))))
      · rw [szL_step _ _ _ (by omega)] at hp
        refine ⟨?_⟩; simp_all [thenI]
      · rw [szL_step _ _ _ (by omega)] at hp
        have hle := szVote_le (xs.getD i default) ha0
        refine ⟨(i + 1, szVote (xs.getD i default) a), [], by simp only; omega, ⟨by simp only; omega, by simp only; omega, by simp only; omega, by simp only; rw [hp, thenI, if_neg (by assumption)]⟩, ?_⟩
        repeat' (first | exact trivial | exact ⟨rfl⟩ | exact Chk.mk (by kernel_rfl) | exact ⟨wrap_succ (n := xs.length) (by omega) (by omega)⟩ | refine And.intro ?_ ?_ | rfl)
      · rw [List.drop_eq_nil_of_le (by omega)] at hp
        refine ⟨?_⟩; simp_all [szL]

theorem c_szAcc (x : Acc) (l : Int) (h0 : 0 ≤ l) (h1 : l ≤ lim) (hx : x.ok maxLen) : Pure PP false 23 [.agg x.cells, oi l] (oi (szAcc x l)) := by
  refine Pure.vc [(8, .res (oi (szVoteS x.votes l)))] TTok hmo Go.Proofs.Tryz.func23 (by kernel_rfl) rfl (by kernel_rfl) ?_
  repeat' (first | refine And.intro ?_ ?_ | exact tf | exact ft | refine tt ?_ | refine ff ?_ | exact ⟨trivial⟩ | exact sLe rfl | exact Chk.mk (by kernel_rfl) | exact ⟨Chk.mk (by kernel_rfl)⟩ | exact sLeEq rfl rfl | refine fun h => ?_)
  · exact sAnd (by repeat' constructor) (c_szVoteS _ _ h0 h1 hx.1 hx.2)
  all_goals (refine ⟨?_⟩; simp_all [szAcc, sg])
  all_goals omega
end Mg

/- Sameness. No condition. -/
namespace Mg
open Go Go.RowKit
set_option maxRecDepth 100000
set_option linter.unusedVariables false
set_option linter.unusedSimpArgs false
attribute [local irreducible] W Pure
theorem Two.eq_iff {x y : Two} : x = y ↔ x.a = y.a ∧ x.b = y.b := by
  cases x; cases y; simp
theorem Vote.eq_iff {x y : Vote} : x = y ↔ x.bal = y.bal ∧ x.e = y.e := by
  cases x; cases y; simp
theorem c_same_Read (xs ys : List Two) (hx : xs.length ≤ maxLen) (hy : ys.length ≤ maxLen)  : Pure PP false 169 [.one (.fz (xs.map Two.cells)), .one (.fz (ys.map Two.cells))] (ob (decide (xs = ys))) := by
  refine Pure.vc [] TTok hmo Go.Proofs.Tryz.func169 (by kernel_rfl) rfl (by kernel_rfl) ?_
  repeat' (first | refine And.intro ?_ ?_ | exact tf | exact ft | refine tt ?_ | refine ff ?_ | exact ⟨trivial⟩ | exact sLe rfl | exact Chk.mk (by kernel_rfl) | exact ⟨Chk.mk (by kernel_rfl)⟩ | exact sLeEq rfl rfl | refine fun h => ?_)
  · refine ⟨?_⟩
    simp at *
    intro e; subst e; simp at h
  · have hl : xs.length = ys.length := by simp at h; omega
    unfold maxLen at hx hy
    refine W.loopC (D := Nat) (fun i => [(18, .row (xs.getD i default).cells), (22, .row (ys.getD i default).cells)]) TTok hmo
      (fun i => ⟨26, 0, [(0, .one (.ag (xs.map Two.cells))), (1, .one (.ag (ys.map Two.cells))), (4, ob false), (12, oi xs.length), (13, oi i)], []⟩) (fun i => xs.length - i) (fun i => i ≤ xs.length ∧ xs.take i = ys.take i) 0 [] ⟨by omega, by simp⟩ ?_ ?_
    · repeat' (first | exact trivial | exact ⟨rfl⟩ | exact Chk.mk (by kernel_rfl) | refine And.intro ?_ ?_ | rfl)
      all_goals exact ⟨by simp⟩
    · intro i ⟨hi, hp⟩
      repeat' (first | refine And.intro ?_ ?_ | exact tf | exact ft | refine tt ?_ | refine ff ?_ | exact ⟨trivial⟩ | exact sLe rfl | exact Chk.mk (by kernel_rfl) | exact ⟨Chk.mk (by kernel_rfl)⟩ | exact sLeEq rfl rfl | refine fun h => ?_)
      all_goals simp only [decide_eq_true_eq, decide_eq_false_iff_not, List.length_map, Bool.not_eq_true', Bool.not_eq_false', Bool.not_eq_eq_eq_not, Bool.not_true, Bool.not_false, bne_iff_ne, ne_eq, bne_eq_false_iff_eq] at *
      · exact sRow (by omega) (row_at xs _ (by omega)) rfl
      · exact sRow (by omega) (row_at ys _ (by omega)) rfl
      · refine ⟨?_⟩
        simp
        intro e; subst e; simp_all
      · refine ⟨i + 1, [], by omega, ⟨by omega, eq_upto hl (by omega) hp (by simp_all [Two.eq_iff])⟩, ?_⟩
        repeat' (first | exact trivial | exact ⟨rfl⟩ | exact Chk.mk (by kernel_rfl) | exact ⟨wrap_succ (n := xs.length) (by omega) (by omega)⟩ | refine And.intro ?_ ?_ | rfl)
      · refine ⟨?_⟩
        simp
        exact eq_all hl (by omega) hp

theorem c_same_Put (xs ys : List Two) (hx : xs.length ≤ maxLen) (hy : ys.length ≤ maxLen)  : Pure PP false 170 [.one (.fz (xs.map Two.cells)), .one (.fz (ys.map Two.cells))] (ob (decide (xs = ys))) := by
  refine Pure.vc [] TTok hmo Go.Proofs.Tryz.func170 (by kernel_rfl) rfl (by kernel_rfl) ?_
  repeat' (first | refine And.intro ?_ ?_ | exact tf | exact ft | refine tt ?_ | refine ff ?_ | exact ⟨trivial⟩ | exact sLe rfl | exact Chk.mk (by kernel_rfl) | exact ⟨Chk.mk (by kernel_rfl)⟩ | exact sLeEq rfl rfl | refine fun h => ?_)
  · refine ⟨?_⟩
    simp at *
    intro e; subst e; simp at h
  · have hl : xs.length = ys.length := by simp at h; omega
    unfold maxLen at hx hy
    refine W.loopC (D := Nat) (fun i => [(18, .row (xs.getD i default).cells), (22, .row (ys.getD i default).cells)]) TTok hmo
      (fun i => ⟨26, 0, [(0, .one (.ag (xs.map Two.cells))), (1, .one (.ag (ys.map Two.cells))), (4, ob false), (12, oi xs.length), (13, oi i)], []⟩) (fun i => xs.length - i) (fun i => i ≤ xs.length ∧ xs.take i = ys.take i) 0 [] ⟨by omega, by simp⟩ ?_ ?_
    · repeat' (first | exact trivial | exact ⟨rfl⟩ | exact Chk.mk (by kernel_rfl) | refine And.intro ?_ ?_ | rfl)
      all_goals exact ⟨by simp⟩
    · intro i ⟨hi, hp⟩
      repeat' (first | refine And.intro ?_ ?_ | exact tf | exact ft | refine tt ?_ | refine ff ?_ | exact ⟨trivial⟩ | exact sLe rfl | exact Chk.mk (by kernel_rfl) | exact ⟨Chk.mk (by kernel_rfl)⟩ | exact sLeEq rfl rfl | refine fun h => ?_)
      all_goals simp only [decide_eq_true_eq, decide_eq_false_iff_not, List.length_map, Bool.not_eq_true', Bool.not_eq_false', Bool.not_eq_eq_eq_not, Bool.not_true, Bool.not_false, bne_iff_ne, ne_eq, bne_eq_false_iff_eq] at *
      · exact sRow (by omega) (row_at xs _ (by omega)) rfl
      · exact sRow (by omega) (row_at ys _ (by omega)) rfl
      · refine ⟨?_⟩
        simp
        intro e; subst e; simp_all
      · refine ⟨i + 1, [], by omega, ⟨by omega, eq_upto hl (by omega) hp (by simp_all [Two.eq_iff])⟩, ?_⟩
        repeat' (first | exact trivial | exact ⟨rfl⟩ | exact Chk.mk (by kernel_rfl) | exact ⟨wrap_succ (n := xs.length) (by omega) (by omega)⟩ | refine And.intro ?_ ?_ | rfl)
      · refine ⟨?_⟩
        simp
        exact eq_all hl (by omega) hp

theorem c_impl_ExecSame (x y : Run) (hx : x.ok lim) (hy : y.ok lim) :
    Pure PP false 142 [.agg x.cells, .agg y.cells] (ob (decide (x = y))) := by
  obtain ⟨rs, ps, c, d⟩ := x
  obtain ⟨rs', ps', c', d'⟩ := y
  refine Pure.vc [(9, .res (ob (decide (rs = rs')))), (15, .res (ob (decide (ps = ps'))))] TTok hmo Go.Proofs.Tryz.func142 (by kernel_rfl) rfl (by kernel_rfl) ?_
  repeat' (first | refine And.intro ?_ ?_ | exact tf | exact ft | refine tt ?_ | refine ff ?_ | exact ⟨trivial⟩ | exact sLe rfl | exact Chk.mk (by kernel_rfl) | exact ⟨Chk.mk (by kernel_rfl)⟩ | exact sLeEq rfl rfl | exact sAnd (by repeat' constructor) (c_same_Read _ _ (Nat.le_trans hx.1 (by decide)) (Nat.le_trans hy.1 (by decide))) | exact sAnd (by repeat' constructor) (c_same_Put _ _ (Nat.le_trans hx.2 (by decide)) (Nat.le_trans hy.2 (by decide))) | refine fun h => ?_)
  all_goals (refine ⟨?_⟩; simp_all)
  all_goals rfl

theorem c_impl_CertLike (x y : Entry) (hx : x.ok lim) (hy : y.ok lim) :
    Pure PP false 101 [.agg x.cells, .agg y.cells] (ob (decide (x = y))) := by
  obtain ⟨n, ⟨qa, qb⟩, r⟩ := x
  obtain ⟨n', ⟨qa', qb'⟩, r'⟩ := y
  refine Pure.vc [(22, .res (ob (decide (r = r'))))] TTok hmo Go.Proofs.Tryz.func101 (by kernel_rfl) rfl (by kernel_rfl) ?_
  repeat' (first | refine And.intro ?_ ?_ | exact tf | exact ft | refine tt ?_ | refine ff ?_ | exact ⟨trivial⟩ | exact sLe rfl | exact Chk.mk (by kernel_rfl) | exact ⟨Chk.mk (by kernel_rfl)⟩ | exact sLeEq rfl rfl | exact sAnd (by repeat' constructor) (c_impl_ExecSame _ _ hx hy) | refine fun h => ?_)
  all_goals (refine ⟨?_⟩; simp_all)
  all_goals rfl

theorem c_spec_ExecSame (x y : Run) (hx : x.ok lim) (hy : y.ok lim) : Pure PP false 132 [.agg x.cells, .agg y.cells] (ob (decide (x = y))) := by
  obtain ⟨rs, ps, c, d⟩ := x
  obtain ⟨rs', ps', c', d'⟩ := y
  have hxr : rs.length ≤ 1048576 := hx.1
  have hxp : ps.length ≤ 1048576 := hx.2
  refine Pure.vc [] TTok hmo Go.Proofs.Tryz.func132 (by kernel_rfl) rfl (by kernel_rfl) ?_
  repeat' (first | refine And.intro ?_ ?_ | exact tf | exact ft | refine tt ?_ | refine ff ?_ | exact ⟨trivial⟩ | exact sLe rfl | exact Chk.mk (by kernel_rfl) | exact ⟨Chk.mk (by kernel_rfl)⟩ | exact sLeEq rfl rfl | refine fun h => ?_)
  all_goals try (refine Side.mk ?_; simp_all; done)
  · refine ⟨?_⟩; simp_all; repeat intro e
    simp_all
  · have hlr : rs.length = rs'.length := by simp_all; omega
    have hlp : ps.length = ps'.length := by simp_all; omega
    have hcc : c = c' := by simp_all
    have hdd : d = d' := by simp_all
    refine W.loopC (D := Nat) (fun i => [(47, .row (rs.getD i default).cells), (52, .row (rs'.getD i default).cells)]) TTok hmo
      (fun i => ⟨73, 2, [(2, .one (.ptr 0 0 0)), (3, .one (.ptr 1 0 0)), (4, ob false), (5, oi i)], [(0, .box [.ag (rs.map Two.cells), .ag (ps.map Two.cells), i6 c, i6 d]), (1, .box [.ag (rs'.map Two.cells), .ag (ps'.map Two.cells), i6 c', i6 d'])]⟩) (fun i => rs.length - i) (fun i => i ≤ rs.length ∧ rs.take i = rs'.take i) 0 [] ⟨by omega, by simp⟩ ?_ ?_
    · repeat' (first | exact trivial | exact ⟨rfl⟩ | exact Chk.mk (by kernel_rfl) | refine And.intro ?_ ?_ | rfl)
    · intro i ⟨hi, hp⟩
      repeat' (first | refine And.intro ?_ ?_ | exact tf | exact ft | refine tt ?_ | refine ff ?_ | exact ⟨trivial⟩ | exact sLe rfl | exact Chk.mk (by kernel_rfl) | exact ⟨Chk.mk (by kernel_rfl)⟩ | exact sLeEq rfl rfl | refine fun h => ?_)
      all_goals simp only [decide_eq_true_eq, decide_eq_false_iff_not, List.length_map, Bool.not_eq_true', Bool.not_eq_false', Bool.not_eq_eq_eq_not, Bool.not_true, Bool.not_false, bne_iff_ne, ne_eq, bne_eq_false_iff_eq] at *
      · exact sRow (by omega) (row_at rs _ (by omega)) rfl
      · exact sRow (by omega) (row_at rs' _ (by omega)) rfl
      · refine ⟨?_⟩
        simp_all
        repeat intro e
        simp_all
      · refine ⟨i + 1, [], by omega, ⟨by omega, eq_upto hlr (by omega) hp (by simp_all [Two.eq_iff])⟩, ?_⟩
        repeat' (first | exact trivial | exact ⟨rfl⟩ | exact Chk.mk (by kernel_rfl) | exact ⟨wrap_succ (n := rs.length) (by omega) (by omega)⟩ | refine And.intro ?_ ?_ | rfl)
      · have rse : rs = rs' := eq_all hlr (by omega) hp
        refine W.loopC (D := Nat) (fun i => [(65, .row (ps.getD i default).cells), (70, .row (ps'.getD i default).cells)]) TTok hmo
          (fun i => ⟨73, 2, [(2, .one (.ptr 0 0 0)), (3, .one (.ptr 1 0 0)), (4, ob false), (6, oi i)], [(0, .box [.ag (rs.map Two.cells), .ag (ps.map Two.cells), i6 c, i6 d]), (1, .box [.ag (rs'.map Two.cells), .ag (ps'.map Two.cells), i6 c', i6 d'])]⟩) (fun i => ps.length - i) (fun i => i ≤ ps.length ∧ ps.take i = ps'.take i) 0 [] ⟨by omega, by simp⟩ ?_ ?_
        · repeat' (first | exact trivial | exact ⟨rfl⟩ | exact Chk.mk (by kernel_rfl) | refine And.intro ?_ ?_ | rfl)
        · intro i ⟨hi, hp⟩
          repeat' (first | refine And.intro ?_ ?_ | exact tf | exact ft | refine tt ?_ | refine ff ?_ | exact ⟨trivial⟩ | exact sLe rfl | exact Chk.mk (by kernel_rfl) | exact ⟨Chk.mk (by kernel_rfl)⟩ | exact sLeEq rfl rfl | refine fun h => ?_)
          all_goals simp only [decide_eq_true_eq, decide_eq_false_iff_not, List.length_map, Bool.not_eq_true', Bool.not_eq_false', Bool.not_eq_eq_eq_not, Bool.not_true, Bool.not_false, bne_iff_ne, ne_eq, bne_eq_false_iff_eq] at *
          · exact sRow (by omega) (row_at ps _ (by omega)) rfl
          · exact sRow (by omega) (row_at ps' _ (by omega)) rfl
          · refine ⟨?_⟩
            simp_all
            repeat intro e
            simp_all
          · refine ⟨i + 1, [], by omega, ⟨by omega, eq_upto hlp (by omega) hp (by simp_all [Two.eq_iff])⟩, ?_⟩
            repeat' (first | exact trivial | exact ⟨rfl⟩ | exact Chk.mk (by kernel_rfl) | exact ⟨wrap_succ (n := ps.length) (by omega) (by omega)⟩ | refine And.intro ?_ ?_ | rfl)
          · have pse : ps = ps' := eq_all hlp (by omega) hp
            refine ⟨?_⟩
            simp_all
  all_goals (refine Side.mk ?_; simp_all; repeat intro e)
  all_goals simp_all
end Mg

/- What is left bounds what is there. No condition. -/
namespace Mg
open Go Go.RowKit
set_option maxRecDepth 100000
set_option linter.unusedVariables false
set_option linter.unusedSimpArgs false
attribute [local irreducible] W Pure

theorem sg_pos {a : Int} (h : 0 ≤ sg a) : 0 ≤ a := by unfold sg at h; split at h <;> omega
theorem sg_eq {a : Int} (h : 0 ≤ a) : sg a = a := by unfold sg; rw [if_neg (by omega)]
theorem thenI_pos {a : Int} {f : Int → Int} (h : 0 ≤ thenI a f) : 0 ≤ a ∧ 0 ≤ f a := by
  unfold thenI at h; split at h
  · omega
  · exact ⟨by omega, h⟩
theorem szT_ok {n : Nat} {l : Int} (h : 0 ≤ szT n l) : (n : Int) ≤ l ∧ szT n l ≤ l := by
  have := sg_pos h
  unfold szT
  rw [sg_eq this]; omega
theorem szRun_ok {x : Run} {l : Int} (h1 : l ≤ lim) (h : 0 ≤ szRun x l) : x.ok lim := by
  obtain ⟨ha, hb⟩ := thenI_pos h
  have h2 := szT_ok ha
  have h3 := szT_ok (sg_pos hb)
  exact ⟨by omega, by omega⟩
theorem szVote_ok {x : Vote} {l : Int} (h1 : l ≤ lim) (h : 0 ≤ szVote x l) : x.ok lim := szRun_ok h1 (sg_pos (sg_pos h))
theorem szL_ok {xs : List Vote} : ∀ {l : Int}, 0 ≤ l → l ≤ lim → 0 ≤ szL szVote xs l → ∀ v ∈ xs, v.ok lim := by
  induction xs with
  | nil => intro l _ _ _ v hv; cases hv
  | cons x xs ih =>
    intro l h0 h1 h v hv
    obtain ⟨ha, hb⟩ := thenI_pos h
    rcases List.mem_cons.1 hv with rfl | hv
    · exact szVote_ok h1 ha
    · have := szVote_le x h0
      exact ih ha (by omega) hb v hv
theorem szAcc_ok {x : Acc} {l : Int} (h1 : l ≤ lim) (h : 0 ≤ szAcc x l) : x.ok lim := by
  obtain ⟨ha, hb⟩ := thenI_pos (sg_pos h)
  exact ⟨by omega, szL_ok ha (by omega) hb⟩
theorem szL_le {xs : List Vote} : ∀ {l : Int}, 0 ≤ l → szL szVote xs l ≤ l := by
  induction xs with
  | nil => intro l h; exact Int.le_refl _
  | cons x xs ih =>
    intro l h
    have := szVote_le x h
    simp only [szL, thenI]
    split
    · omega
    · have := ih (l := szVote x l) (by omega); omega
theorem szAcc_le {x : Acc} {l : Int} (h : 0 ≤ l) : szAcc x l ≤ l := by
  refine sg_le ?_ h
  unfold szVoteS thenI
  split
  · omega
  · have := szL_le (xs := x.votes) (l := l - x.votes.length) (by omega); omega

end Mg

/- Messages. No condition. -/
namespace Mg
open Go Go.RowKit
set_option maxRecDepth 100000
set_option linter.unusedVariables false
set_option linter.unusedSimpArgs false
attribute [local irreducible] W Pure
structure Msg where
  kind : Int
  src : Int
  dst : Int
  bal : Int
  slot : Int
  e : Entry
  votes : List Vote
  deriving DecidableEq, Inhabited
def Msg.cells (x : Msg) : List MC := [i6 x.kind, i6 x.src, i6 x.dst, i6 x.bal, i6 x.slot] ++ x.e.cells ++ [.fz (x.votes.map Vote.cells)]
def Msg.ok (n : Nat) (x : Msg) : Prop := x.e.ok n ∧ VotesOk n x.votes
theorem c_eqMsg (x y : Msg) (hx : x.ok lim) (hy : y.ok lim) :
    Pure PP false 77 [.agg x.cells, .agg y.cells] (ob (decide (x = y))) := by
  obtain ⟨k, f, t, b, s, e, vs⟩ := x
  obtain ⟨k', f', t', b', s', e', vs'⟩ := y
  refine Pure.vc [(34, .res (ob (decide (e = e')))), (40, .res (ob (decide (vs = vs'))))] TTok hmo Go.Proofs.Tryz.func77 (by kernel_rfl) rfl (by kernel_rfl) ?_
  repeat' (first | refine And.intro ?_ ?_ | exact tf | exact ft | refine tt ?_ | refine ff ?_ | exact ⟨trivial⟩ | exact sLe rfl | exact Chk.mk (by kernel_rfl) | exact ⟨Chk.mk (by kernel_rfl)⟩ | exact sLeEq rfl rfl | exact sAnd (by repeat' constructor) (c_eqEntry _ _ hx.1 hy.1) | exact sAnd (by repeat' constructor) (c_eqVoteS _ _ (Nat.le_trans hx.2.1 (by decide)) (Nat.le_trans hy.2.1 (by decide)) hx.2.2 hy.2.2) | refine fun h => ?_)
  all_goals (refine ⟨?_⟩; simp_all)
  all_goals rfl

def szMsg (x : Msg) (l : Int) : Int := thenI (szEntry x.e l) fun a => sg (szVoteS x.votes a)
theorem szVoteS_le {xs : List Vote} {l : Int} (h : 0 ≤ l) : szVoteS xs l ≤ l := by
  unfold szVoteS thenI
  split
  · omega
  · have := szL_le (xs := xs) (l := l - xs.length) (by omega); omega
theorem szVoteS_ok {xs : List Vote} {l : Int} (h1 : l ≤ lim) (h : 0 ≤ szVoteS xs l) : VotesOk lim xs := by
  obtain ⟨ha, hb⟩ := thenI_pos h
  exact ⟨by omega, szL_ok ha (by omega) hb⟩
theorem szMsg_le {x : Msg} {l : Int} (h : 0 ≤ l) : szMsg x l ≤ l := by
  have h1 := szEntry_le x.e h
  unfold szMsg thenI
  split
  · omega
  · have := szVoteS_le (xs := x.votes) (l := szEntry x.e l) (by omega)
    exact sg_le (by omega) h
theorem szMsg_ok {x : Msg} {l : Int} (h0 : 0 ≤ l) (h1 : l ≤ lim) (h : 0 ≤ szMsg x l) : x.ok lim := by
  obtain ⟨ha, hb⟩ := thenI_pos h
  have h2 := szEntry_le x.e h0
  exact ⟨szRun_ok h1 (sg_pos ha), szVoteS_ok (by omega) (sg_pos hb)⟩
end Mg

/- The data of nodes and worlds. No condition. -/
namespace Mg
open Go Go.RowKit
set_option linter.unusedVariables false
structure Ins where
  kind : Int
  a : Int
  b : Int
  n : Int
  deriving DecidableEq, Inhabited
structure Told where
  node : Int
  q : Two
  code : Int
  val : Int
  deriving DecidableEq, Inhabited
structure Asked where
  q : Two
  prog : List Ins
  deriving DecidableEq, Inhabited
structure Node where
  id : Int
  acc : Acc
  known : List Entry
  seq : Int
  phase : Int
  bal : Int
  fro : List Bool
  best : List Vote
  cur : Entry
  votes : List Bool
  busy : Bool
  prog : List Ins
  want : Entry
  queue : List Entry
  deriving DecidableEq, Inhabited
structure World where
  nodes : List Node
  net : List Msg
  asked : List Asked
  told : List Told
  deriving DecidableEq, Inhabited
def Bool.cells (b : Bool) : List MC := [bo b]
def Ins.cells (x : Ins) : List MC := [i6 x.kind, i6 x.a, i6 x.b, i6 x.n]
def Told.cells (x : Told) : List MC := [i6 x.node] ++ x.q.cells ++ [i6 x.code, i6 x.val]
def Asked.cells (x : Asked) : List MC := x.q.cells ++ [.fz (x.prog.map Ins.cells)]
def Node.cells (x : Node) : List MC := [i6 x.id] ++ x.acc.cells ++ [.fz (x.known.map Entry.cells), i6 x.seq, i6 x.phase, i6 x.bal, .fz (x.fro.map Bool.cells), .fz (x.best.map Vote.cells)] ++ x.cur.cells ++
  [.fz (x.votes.map Bool.cells), bo x.busy, .fz (x.prog.map Ins.cells)] ++ x.want.cells ++ [.fz (x.queue.map Entry.cells)]
def World.cells (x : World) : List MC := [.fz (x.nodes.map Node.cells), .fz (x.net.map Msg.cells), .fz (x.asked.map Asked.cells), .fz (x.told.map Told.cells)]
def EntriesOk (n : Nat) (xs : List Entry) : Prop := xs.length ≤ n ∧ ∀ e ∈ xs, e.ok n
def Asked.ok (n : Nat) (x : Asked) : Prop := x.prog.length ≤ n
structure Node.ok (n : Nat) (x : Node) : Prop where
  acc : x.acc.ok n
  known : EntriesOk n x.known
  fro : x.fro.length ≤ n
  best : VotesOk n x.best
  cur : x.cur.ok n
  votes : x.votes.length ≤ n
  prog : x.prog.length ≤ n
  want : x.want.ok n
  queue : EntriesOk n x.queue
structure World.ok (n : Nat) (x : World) : Prop where
  nodes : x.nodes.length ≤ n ∧ ∀ y ∈ x.nodes, y.ok n
  net : x.net.length ≤ n ∧ ∀ y ∈ x.net, y.ok n
  asked : x.asked.length ≤ n ∧ ∀ y ∈ x.asked, y.ok n
  told : x.told.length ≤ n
theorem Bool.frz (x : Bool) : (Bool.cells x).all MC.frz = true := rfl
theorem Bool.flat (x : Bool) : (Bool.cells x).all MC.flat = true := rfl
theorem Ins.frz (x : Ins) : x.cells.all MC.frz = true := rfl
theorem Ins.flat (x : Ins) : x.cells.all MC.flat = true := rfl
theorem Told.frz (x : Told) : x.cells.all MC.frz = true := rfl
theorem Told.flat (x : Told) : x.cells.all MC.flat = true := rfl
theorem Asked.frz (x : Asked) : x.cells.all MC.frz = true := rfl
theorem Asked.flat (x : Asked) : x.cells.all MC.flat = true := rfl
theorem Entry.flat (x : Entry) : x.cells.all MC.flat = true := rfl
theorem Msg.frz (x : Msg) : x.cells.all MC.frz = true := rfl
theorem Msg.flat (x : Msg) : x.cells.all MC.flat = true := rfl
theorem Node.frz (x : Node) : x.cells.all MC.frz = true := rfl
theorem Node.flat (x : Node) : x.cells.all MC.flat = true := rfl

/- What is left, reckoned. -/
structure SzOk (f : Int → Int) (p : Prop) : Prop where
  le : ∀ l : Int, 0 ≤ l → f l ≤ l
  ok : ∀ l : Int, 0 ≤ l → l ≤ (lim : Int) → 0 ≤ f l → p
theorem SzOk.imp {f : Int → Int} {p q : Prop} (h : SzOk f p) (hq : p → q) : SzOk f q := ⟨h.le, fun l h0 h1 h2 => hq (h.ok l h0 h1 h2)⟩
theorem SzOk.then_ {f g : Int → Int} {p q : Prop} (hf : SzOk f p) (hg : SzOk g q) : SzOk (fun l => thenI (f l) g) (p ∧ q) := by
  refine ⟨fun l h => ?_, fun l h0 h1 h => ?_⟩
  · have := hf.le l h
    simp only [thenI]; split
    · omega
    · have := hg.le (f l) (by omega); omega
  · obtain ⟨h2, h3⟩ := thenI_pos h
    have := hf.le l h0
    exact ⟨hf.ok l h0 h1 h2, hg.ok _ h2 (by omega) h3⟩
theorem SzOk.sg {f : Int → Int} {p : Prop} (hf : SzOk f p) : SzOk (fun l => Mg.sg (f l)) p :=
  ⟨fun l h => sg_le (hf.le l h) h, fun l h0 h1 h => hf.ok l h0 h1 (sg_pos h)⟩
theorem szOk_T (n : Nat) : SzOk (szT n) (n ≤ lim) :=
  ⟨fun l h => szT_le n h, fun l h0 h1 h => by have := (szT_ok h).1; omega⟩
def szS {α : Type} (f : α → Int → Int) (xs : List α) (l : Int) : Int := thenI (l - xs.length) (szL f xs)
theorem szL_all {α : Type} {f : α → Int → Int} {ok : α → Prop} (hf : ∀ x, SzOk (f x) (ok x)) : ∀ xs : List α, SzOk (szL f xs) (∀ x ∈ xs, ok x)
  | [] => ⟨fun l h => Int.le_refl _, fun l _ _ _ x hx => by simp at hx⟩
  | x :: xs => ((hf x).then_ (szL_all hf xs)).imp fun h y hy => by
    rcases List.mem_cons.1 hy with rfl | hy
    · exact h.1
    · exact h.2 y hy
theorem szOk_S {α : Type} {f : α → Int → Int} {ok : α → Prop} (hf : ∀ x, SzOk (f x) (ok x)) (xs : List α) : SzOk (szS f xs) (xs.length ≤ lim ∧ ∀ x ∈ xs, ok x) := by
  refine ⟨fun l h => ?_, fun l h0 h1 h => ?_⟩
  · unfold szS thenI
    split
    · omega
    · have := (szL_all hf xs).le (l - xs.length) (by omega); omega
  · obtain ⟨h2, h3⟩ := thenI_pos h
    exact ⟨by omega, (szL_all hf xs).ok _ h2 (by omega) h3⟩
theorem szOk_entry (x : Entry) : SzOk (szEntry x) (x.ok lim) := ⟨fun l h => szEntry_le x h, fun l h0 h1 h => szRun_ok h1 (sg_pos h)⟩
theorem szOk_vote (x : Vote) : SzOk (szVote x) (x.ok lim) := ⟨fun l h => szVote_le x h, fun l h0 h1 h => szVote_ok h1 h⟩
theorem szOk_votes (xs : List Vote) : SzOk (szVoteS xs) (VotesOk lim xs) := szOk_S szOk_vote xs
theorem szOk_acc (x : Acc) : SzOk (szAcc x) (x.ok lim) := ⟨fun l h => szAcc_le h, fun l h0 h1 h => szAcc_ok h1 h⟩
theorem szOk_entries (xs : List Entry) : SzOk (szS szEntry xs) (EntriesOk lim xs) := szOk_S szOk_entry xs
theorem szOk_msg (x : Msg) : SzOk (szMsg x) (x.ok lim) := ⟨fun l h => szMsg_le h, fun l h0 h1 h => szMsg_ok h0 h1 h⟩
def szNode (x : Node) (l : Int) : Int := thenI (szAcc x.acc l) fun l => thenI (szS szEntry x.known l) fun l => thenI (szT x.fro.length l) fun l => thenI (szVoteS x.best l) fun l => thenI (szEntry x.cur l) fun l =>
  thenI (szT x.votes.length l) fun l => thenI (szT x.prog.length l) fun l => thenI (szEntry x.want l) fun l => sg (szS szEntry x.queue l)
theorem szOk_node (x : Node) : SzOk (szNode x) (x.ok lim) :=
  ((szOk_acc x.acc).then_ <| (szOk_entries x.known).then_ <| (szOk_T x.fro.length).then_ <| (szOk_votes x.best).then_ <| (szOk_entry x.cur).then_ <| (szOk_T x.votes.length).then_ <| (szOk_T x.prog.length).then_ <| (szOk_entry x.want).then_ <| (szOk_entries x.queue).sg).imp
    fun ⟨h1, h2, h3, h4, h5, h6, h7, h8, h9⟩ => ⟨h1, h2, h3, h4, h5, h6, h7, h8, h9⟩
def szAsked (x : Asked) (l : Int) : Int := sg (szT x.prog.length l)
theorem szOk_asked (x : Asked) : SzOk (szAsked x) (x.ok lim) := (szOk_T x.prog.length).sg
def szWorld (x : World) (l : Int) : Int := thenI (szS szNode x.nodes l) fun l => thenI (szS szMsg x.net l) fun l => thenI (szS szAsked x.asked l) fun l => sg (szT x.told.length l)
theorem szOk_world (x : World) : SzOk (szWorld x) (x.ok lim) :=
  ((szOk_S szOk_node x.nodes).then_ <| (szOk_S szOk_msg x.net).then_ <| (szOk_S szOk_asked x.asked).then_ <| (szOk_T x.told.length).sg).imp fun ⟨h1, h2, h3, h4⟩ => ⟨h1, h2, h3, h4⟩
end Mg
