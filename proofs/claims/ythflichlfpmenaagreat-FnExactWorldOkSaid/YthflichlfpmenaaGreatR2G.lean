/- Helpers of worlds. No condition. -/
import Derived.Test.YthflichlfpmenaaGreatR2C
import Derived.Test.YthflichlfpmenaaGreatR1M
namespace Mg
open Go Go.RowKit
set_option maxRecDepth 100000
set_option linter.unusedVariables false
set_option linter.unusedSimpArgs false
attribute [local irreducible] W Pure
theorem c_eqMsgS (xs ys : List Msg) (hx : xs.length ≤ maxLen) (hy : ys.length ≤ maxLen) (hvx : ∀ v ∈ xs, v.ok lim) (hvy : ∀ v ∈ ys, v.ok lim) :
    Pure PP false 28 [.one (.fz (xs.map Msg.cells)), .one (.fz (ys.map Msg.cells))] (ob (decide (xs = ys))) := by
  refine Pure.vc [] TTok hmo Go.Proofs.Tryz.func28 (by kernel_rfl) rfl (by kernel_rfl) ?_
  repeat' (first | refine And.intro ?_ ?_ | exact tf | exact ft | refine tt ?_ | refine ff ?_ | exact ⟨trivial⟩ | exact sLe rfl | exact Chk.mk (by kernel_rfl) | exact ⟨Chk.mk (by kernel_rfl)⟩ | exact sLeEq rfl rfl | refine fun h => ?_)
  · refine ⟨?_⟩
    simp at *
    intro e; subst e; simp at h
  · have hl : xs.length = ys.length := by simp at h; omega
    unfold maxLen at hx hy
    refine W.loopC (D := Nat) (fun i => [(19, .row (xs.getD i default).cells), (23, .row (ys.getD i default).cells), (25, .res (ob (decide (xs.getD i default = ys.getD i default))))]) TTok hmo
      (fun i => ⟨27, 0, [(0, .one (.ag (xs.map Msg.cells))), (1, .one (.ag (ys.map Msg.cells))), (4, ob false), (5, oi i)], []⟩) (fun i => xs.length - i) (fun i => i ≤ xs.length ∧ xs.take i = ys.take i) 0 [] ⟨by omega, by simp⟩ ?_ ?_
    · repeat' (first | exact trivial | exact ⟨rfl⟩ | exact Chk.mk (by kernel_rfl) | refine And.intro ?_ ?_ | rfl)
    · intro i ⟨hi, hp⟩
      repeat' (first | refine And.intro ?_ ?_ | exact tf | exact ft | refine tt ?_ | refine ff ?_ | exact ⟨trivial⟩ | exact sLe rfl | exact Chk.mk (by kernel_rfl) | exact ⟨Chk.mk (by kernel_rfl)⟩ | exact sLeEq rfl rfl | refine fun h => ?_)
      all_goals simp only [decide_eq_true_eq, decide_eq_false_iff_not, List.length_map, Bool.not_eq_true', Bool.not_eq_false', Bool.not_eq_eq_eq_not, Bool.not_true, Bool.not_false] at *
      · exact sRow (by omega) (row_at xs _ (by omega)) rfl
      · exact sRow (by omega) (row_at ys _ (by omega)) rfl
      · exact sAnd (by repeat' constructor) (c_eqMsg _ _ (hvx _ (getD_mem (by omega))) (hvy _ (getD_mem (by omega))))
      · refine ⟨?_⟩
        simp
        intro e; subst e; contradiction
      · refine ⟨i + 1, [], by omega, ⟨by omega, eq_upto hl (by omega) hp (by assumption)⟩, ?_⟩
        repeat' (first | exact trivial | exact ⟨rfl⟩ | exact Chk.mk (by kernel_rfl) | refine And.intro ?_ ?_ | rfl)
        exact ⟨by rw [wrapi] <;> omega⟩
      · refine ⟨?_⟩
        simp
        exact eq_all hl (by omega) hp

theorem c_toMsgS (xs : List Msg) (hx : xs.length ≤ lim) (hv : ∀ v ∈ xs, v.ok lim) :
    Pure PP false 19 [.one (.fz (xs.map Msg.cells))] (.one (.fz (xs.map Msg.cells))) := by
  have hx0 : xs.length ≤ 1048576 := hx
  refine Pure.vc [] TTok hmo Go.Proofs.Tryz.func19 (by kernel_rfl) rfl (by kernel_rfl) ?_
  repeat' (first | refine And.intro ?_ ?_ | exact tf | exact ft | refine tt ?_ | refine ff ?_ | exact ⟨trivial⟩ | exact sLe rfl | exact Chk.mk (by kernel_rfl) | exact ⟨Chk.mk (by kernel_rfl)⟩ | exact sLeEq rfl rfl | refine fun h => ?_)
  · refine ⟨?_⟩
    simp at *
    omega
  · refine W.loopC (D := Nat) (fun i => [(18, .row (xs.getD i default).cells), (20, .res (.agg (xs.getD i default).cells))]) TTok hmo
      (fun i => ⟨23, 1, [(0, .one (.ag (xs.map Msg.cells))), (2, .one .nil), (3, .one (.ref 0 0 xs.length)), (4, oi i)], [(0, .arr (part Msg.cells [i6 0, i6 0, i6 0, i6 0, i6 0, bo false, i6 0, i6 0, .nil, .nil, i6 0, i6 0, .nil] xs i))]⟩) (fun i => xs.length - i) (fun i => i ≤ xs.length) 0 [] (by omega) ?_ ?_
    · repeat' (first | exact trivial | exact ⟨rfl⟩ | exact Chk.mk (by kernel_rfl) | exact sPart0 (by simp) | exact sFlat Msg.flat rfl | refine And.intro ?_ ?_ | rfl)
      all_goals exact ⟨by simp⟩
    · intro i hi
      repeat' (first | refine And.intro ?_ ?_ | exact tf | exact ft | refine tt ?_ | refine ff ?_ | exact ⟨trivial⟩ | exact sLe rfl | exact Chk.mk (by kernel_rfl) | exact ⟨Chk.mk (by kernel_rfl)⟩ | exact sLeEq rfl rfl | refine fun h => ?_)
      all_goals simp only [decide_eq_true_eq, decide_eq_false_iff_not, List.length_map] at *
      · exact sRow (by omega) (row_at xs _ (by omega)) rfl
      · exact sAnd (by repeat' constructor) (c_toMsg _ (hv _ (getD_mem (by omega))))
      · exact sIdx (by omega) rfl rfl
      · exact sPut (by omega) rfl rfl
      · refine ⟨i + 1, [], by omega, by omega, ?_⟩
        repeat' (first | exact trivial | exact ⟨rfl⟩ | exact Chk.mk (by kernel_rfl) | exact ⟨wrap_succ (n := xs.length) (by omega) (by omega)⟩ | exact sPartS (by omega) rfl | exact sFlat Msg.flat rfl | refine And.intro ?_ ?_ | rfl)
      · refine ⟨⟨trivial, trivial⟩, ⟨part_end (by omega) rfl, ?_⟩, trivial⟩
        show AllF _
        rw [part_all (by omega)]
        exact map_frz Msg.frz

theorem c_toTold (x : Told)  :
    Pure PP false 47 [.agg x.cells] (.agg x.cells) := by
  refine Pure.vc [(9, .res (.agg x.q.cells))] TTok hmo Go.Proofs.Tryz.func47 (by kernel_rfl) rfl (by kernel_rfl) ?_
  repeat' (first | refine And.intro ?_ ?_ | exact tf | exact ft | refine tt ?_ | refine ff ?_ | exact ⟨trivial⟩ | exact sLe rfl | exact Chk.mk (by kernel_rfl) | exact ⟨Chk.mk (by kernel_rfl)⟩ | exact sLeEq rfl rfl | exact sAnd (by repeat' constructor) (c_toReq _) | refine fun h => ?_)
  all_goals (refine ⟨?_⟩; repeat' (first | exact trivial | exact Nat.le_of_ble_eq_true rfl | rfl | refine And.intro ?_ ?_))

theorem c_eqTold (x y : Told)  :
    Pure PP false 58 [.agg x.cells, .agg y.cells] (ob (decide (x = y))) := by
  obtain ⟨nd, q, c, v⟩ := x
  obtain ⟨nd', q', c', v'⟩ := y
  refine Pure.vc [(14, .res (ob (decide (q = q'))))] TTok hmo Go.Proofs.Tryz.func58 (by kernel_rfl) rfl (by kernel_rfl) ?_
  repeat' (first | refine And.intro ?_ ?_ | exact tf | exact ft | refine tt ?_ | refine ff ?_ | exact ⟨trivial⟩ | exact sLe rfl | exact Chk.mk (by kernel_rfl) | exact ⟨Chk.mk (by kernel_rfl)⟩ | exact sLeEq rfl rfl | exact sAnd (by repeat' constructor) (c_eqReq _ _) | refine fun h => ?_)
  all_goals (refine ⟨?_⟩; simp_all)
  all_goals rfl

theorem c_eqToldS (xs ys : List Told) (hx : xs.length ≤ maxLen) (hy : ys.length ≤ maxLen)  :
    Pure PP false 30 [.one (.fz (xs.map Told.cells)), .one (.fz (ys.map Told.cells))] (ob (decide (xs = ys))) := by
  refine Pure.vc [] TTok hmo Go.Proofs.Tryz.func30 (by kernel_rfl) rfl (by kernel_rfl) ?_
  repeat' (first | refine And.intro ?_ ?_ | exact tf | exact ft | refine tt ?_ | refine ff ?_ | exact ⟨trivial⟩ | exact sLe rfl | exact Chk.mk (by kernel_rfl) | exact ⟨Chk.mk (by kernel_rfl)⟩ | exact sLeEq rfl rfl | refine fun h => ?_)
  · refine ⟨?_⟩
    simp at *
    intro e; subst e; simp at h
  · have hl : xs.length = ys.length := by simp at h; omega
    unfold maxLen at hx hy
    refine W.loopC (D := Nat) (fun i => [(19, .row (xs.getD i default).cells), (23, .row (ys.getD i default).cells), (25, .res (ob (decide (xs.getD i default = ys.getD i default))))]) TTok hmo
      (fun i => ⟨27, 0, [(0, .one (.ag (xs.map Told.cells))), (1, .one (.ag (ys.map Told.cells))), (4, ob false), (5, oi i)], []⟩) (fun i => xs.length - i) (fun i => i ≤ xs.length ∧ xs.take i = ys.take i) 0 [] ⟨by omega, by simp⟩ ?_ ?_
    · repeat' (first | exact trivial | exact ⟨rfl⟩ | exact Chk.mk (by kernel_rfl) | refine And.intro ?_ ?_ | rfl)
    · intro i ⟨hi, hp⟩
      repeat' (first | refine And.intro ?_ ?_ | exact tf | exact ft | refine tt ?_ | refine ff ?_ | exact ⟨trivial⟩ | exact sLe rfl | exact Chk.mk (by kernel_rfl) | exact ⟨Chk.mk (by kernel_rfl)⟩ | exact sLeEq rfl rfl | exact sAnd (by repeat' constructor) (c_eqTold _ _) | refine fun h => ?_)
      all_goals simp only [decide_eq_true_eq, decide_eq_false_iff_not, List.length_map, Bool.not_eq_true', Bool.not_eq_false', Bool.not_eq_eq_eq_not, Bool.not_true, Bool.not_false] at *
      · exact sRow (by omega) (row_at xs _ (by omega)) rfl
      · exact sRow (by omega) (row_at ys _ (by omega)) rfl
      · refine ⟨?_⟩
        simp
        intro e; subst e; contradiction
      · refine ⟨i + 1, [], by omega, ⟨by omega, eq_upto hl (by omega) hp (by assumption)⟩, ?_⟩
        repeat' (first | exact trivial | exact ⟨rfl⟩ | exact Chk.mk (by kernel_rfl) | refine And.intro ?_ ?_ | rfl)
        exact ⟨by rw [wrapi] <;> omega⟩
      · refine ⟨?_⟩
        simp
        exact eq_all hl (by omega) hp

theorem c_toToldS (xs : List Told) (hx : xs.length ≤ lim)  :
    Pure PP false 21 [.one (.fz (xs.map Told.cells))] (.one (.fz (xs.map Told.cells))) := by
  have hx0 : xs.length ≤ 1048576 := hx
  refine Pure.vc [] TTok hmo Go.Proofs.Tryz.func21 (by kernel_rfl) rfl (by kernel_rfl) ?_
  repeat' (first | refine And.intro ?_ ?_ | exact tf | exact ft | refine tt ?_ | refine ff ?_ | exact ⟨trivial⟩ | exact sLe rfl | exact Chk.mk (by kernel_rfl) | exact ⟨Chk.mk (by kernel_rfl)⟩ | exact sLeEq rfl rfl | refine fun h => ?_)
  · refine ⟨?_⟩
    simp at *
    omega
  · refine W.loopC (D := Nat) (fun i => [(18, .row (xs.getD i default).cells), (20, .res (.agg (xs.getD i default).cells))]) TTok hmo
      (fun i => ⟨23, 1, [(0, .one (.ag (xs.map Told.cells))), (2, .one .nil), (3, .one (.ref 0 0 xs.length)), (4, oi i)], [(0, .arr (part Told.cells [i6 0, i6 0, i6 0, i6 0, i6 0] xs i))]⟩) (fun i => xs.length - i) (fun i => i ≤ xs.length) 0 [] (by omega) ?_ ?_
    · repeat' (first | exact trivial | exact ⟨rfl⟩ | exact Chk.mk (by kernel_rfl) | exact sPart0 (by simp) | exact sFlat Told.flat rfl | refine And.intro ?_ ?_ | rfl)
      all_goals exact ⟨by simp⟩
    · intro i hi
      repeat' (first | refine And.intro ?_ ?_ | exact tf | exact ft | refine tt ?_ | refine ff ?_ | exact ⟨trivial⟩ | exact sLe rfl | exact Chk.mk (by kernel_rfl) | exact ⟨Chk.mk (by kernel_rfl)⟩ | exact sLeEq rfl rfl | exact sAnd (by repeat' constructor) (c_toTold _) | refine fun h => ?_)
      all_goals simp only [decide_eq_true_eq, decide_eq_false_iff_not, List.length_map] at *
      · exact sRow (by omega) (row_at xs _ (by omega)) rfl
      · exact sIdx (by omega) rfl rfl
      · exact sPut (by omega) rfl rfl
      · refine ⟨i + 1, [], by omega, by omega, ?_⟩
        repeat' (first | exact trivial | exact ⟨rfl⟩ | exact Chk.mk (by kernel_rfl) | exact ⟨wrap_succ (n := xs.length) (by omega) (by omega)⟩ | exact sPartS (by omega) rfl | exact sFlat Told.flat rfl | refine And.intro ?_ ?_ | rfl)
      · refine ⟨⟨trivial, trivial⟩, ⟨part_end (by omega) rfl, ?_⟩, trivial⟩
        show AllF _
        rw [part_all (by omega)]
        exact map_frz Told.frz

theorem c_toAsked (x : Asked) (hx : x.ok lim) :
    Pure PP false 46 [.agg x.cells] (.agg x.cells) := by
  refine Pure.vc [(6, .res (.agg x.q.cells)), (10, .res (.one (.fz (x.prog.map Ins.cells))))] TTok hmo Go.Proofs.Tryz.func46 (by kernel_rfl) rfl (by kernel_rfl) ?_
  repeat' (first | refine And.intro ?_ ?_ | exact tf | exact ft | refine tt ?_ | refine ff ?_ | exact ⟨trivial⟩ | exact sLe rfl | exact Chk.mk (by kernel_rfl) | exact ⟨Chk.mk (by kernel_rfl)⟩ | exact sLeEq rfl rfl | exact sAnd (by repeat' constructor) (c_toReq _) | exact sAnd (by repeat' constructor) (c_toInsS _ hx) | refine fun h => ?_)
  all_goals (refine ⟨?_⟩; repeat' (first | exact trivial | exact Nat.le_of_ble_eq_true rfl | rfl | refine And.intro ?_ ?_))

theorem c_eqAsked (x y : Asked) (hx : x.ok lim) (hy : y.ok lim) :
    Pure PP false 57 [.agg x.cells, .agg y.cells] (ob (decide (x = y))) := by
  obtain ⟨q, ps⟩ := x
  obtain ⟨q', ps'⟩ := y
  refine Pure.vc [(9, .res (ob (decide (q = q')))), (15, .res (ob (decide (ps = ps'))))] TTok hmo Go.Proofs.Tryz.func57 (by kernel_rfl) rfl (by kernel_rfl) ?_
  repeat' (first | refine And.intro ?_ ?_ | exact tf | exact ft | refine tt ?_ | refine ff ?_ | exact ⟨trivial⟩ | exact sLe rfl | exact Chk.mk (by kernel_rfl) | exact ⟨Chk.mk (by kernel_rfl)⟩ | exact sLeEq rfl rfl | exact sAnd (by repeat' constructor) (c_eqReq _ _) | exact sAnd (by repeat' constructor) (c_eqInsS _ _ (Nat.le_trans hx (by decide)) (Nat.le_trans hy (by decide))) | refine fun h => ?_)
  all_goals (refine ⟨?_⟩; simp_all)
  all_goals rfl

theorem c_eqAskedS (xs ys : List Asked) (hx : xs.length ≤ maxLen) (hy : ys.length ≤ maxLen) (hvx : ∀ v ∈ xs, v.ok lim) (hvy : ∀ v ∈ ys, v.ok lim) :
    Pure PP false 29 [.one (.fz (xs.map Asked.cells)), .one (.fz (ys.map Asked.cells))] (ob (decide (xs = ys))) := by
  refine Pure.vc [] TTok hmo Go.Proofs.Tryz.func29 (by kernel_rfl) rfl (by kernel_rfl) ?_
  repeat' (first | refine And.intro ?_ ?_ | exact tf | exact ft | refine tt ?_ | refine ff ?_ | exact ⟨trivial⟩ | exact sLe rfl | exact Chk.mk (by kernel_rfl) | exact ⟨Chk.mk (by kernel_rfl)⟩ | exact sLeEq rfl rfl | refine fun h => ?_)
  · refine ⟨?_⟩
    simp at *
    intro e; subst e; simp at h
  · have hl : xs.length = ys.length := by simp at h; omega
    unfold maxLen at hx hy
    refine W.loopC (D := Nat) (fun i => [(19, .row (xs.getD i default).cells), (23, .row (ys.getD i default).cells), (25, .res (ob (decide (xs.getD i default = ys.getD i default))))]) TTok hmo
      (fun i => ⟨27, 0, [(0, .one (.ag (xs.map Asked.cells))), (1, .one (.ag (ys.map Asked.cells))), (4, ob false), (5, oi i)], []⟩) (fun i => xs.length - i) (fun i => i ≤ xs.length ∧ xs.take i = ys.take i) 0 [] ⟨by omega, by simp⟩ ?_ ?_
    · repeat' (first | exact trivial | exact ⟨rfl⟩ | exact Chk.mk (by kernel_rfl) | refine And.intro ?_ ?_ | rfl)
    · intro i ⟨hi, hp⟩
      repeat' (first | refine And.intro ?_ ?_ | exact tf | exact ft | refine tt ?_ | refine ff ?_ | exact ⟨trivial⟩ | exact sLe rfl | exact Chk.mk (by kernel_rfl) | exact ⟨Chk.mk (by kernel_rfl)⟩ | exact sLeEq rfl rfl | refine fun h => ?_)
      all_goals simp only [decide_eq_true_eq, decide_eq_false_iff_not, List.length_map, Bool.not_eq_true', Bool.not_eq_false', Bool.not_eq_eq_eq_not, Bool.not_true, Bool.not_false] at *
      · exact sRow (by omega) (row_at xs _ (by omega)) rfl
      · exact sRow (by omega) (row_at ys _ (by omega)) rfl
      · exact sAnd (by repeat' constructor) (c_eqAsked _ _ (hvx _ (getD_mem (by omega))) (hvy _ (getD_mem (by omega))))
      · refine ⟨?_⟩
        simp
        intro e; subst e; contradiction
      · refine ⟨i + 1, [], by omega, ⟨by omega, eq_upto hl (by omega) hp (by assumption)⟩, ?_⟩
        repeat' (first | exact trivial | exact ⟨rfl⟩ | exact Chk.mk (by kernel_rfl) | refine And.intro ?_ ?_ | rfl)
        exact ⟨by rw [wrapi] <;> omega⟩
      · refine ⟨?_⟩
        simp
        exact eq_all hl (by omega) hp

theorem c_toAskedS (xs : List Asked) (hx : xs.length ≤ lim) (hv : ∀ v ∈ xs, v.ok lim) :
    Pure PP false 20 [.one (.fz (xs.map Asked.cells))] (.one (.fz (xs.map Asked.cells))) := by
  have hx0 : xs.length ≤ 1048576 := hx
  refine Pure.vc [] TTok hmo Go.Proofs.Tryz.func20 (by kernel_rfl) rfl (by kernel_rfl) ?_
  repeat' (first | refine And.intro ?_ ?_ | exact tf | exact ft | refine tt ?_ | refine ff ?_ | exact ⟨trivial⟩ | exact sLe rfl | exact Chk.mk (by kernel_rfl) | exact ⟨Chk.mk (by kernel_rfl)⟩ | exact sLeEq rfl rfl | refine fun h => ?_)
  · refine ⟨?_⟩
    simp at *
    omega
  · refine W.loopC (D := Nat) (fun i => [(18, .row (xs.getD i default).cells), (20, .res (.agg (xs.getD i default).cells))]) TTok hmo
      (fun i => ⟨23, 1, [(0, .one (.ag (xs.map Asked.cells))), (2, .one .nil), (3, .one (.ref 0 0 xs.length)), (4, oi i)], [(0, .arr (part Asked.cells [i6 0, i6 0, .nil] xs i))]⟩) (fun i => xs.length - i) (fun i => i ≤ xs.length) 0 [] (by omega) ?_ ?_
    · repeat' (first | exact trivial | exact ⟨rfl⟩ | exact Chk.mk (by kernel_rfl) | exact sPart0 (by simp) | exact sFlat Asked.flat rfl | refine And.intro ?_ ?_ | rfl)
      all_goals exact ⟨by simp⟩
    · intro i hi
      repeat' (first | refine And.intro ?_ ?_ | exact tf | exact ft | refine tt ?_ | refine ff ?_ | exact ⟨trivial⟩ | exact sLe rfl | exact Chk.mk (by kernel_rfl) | exact ⟨Chk.mk (by kernel_rfl)⟩ | exact sLeEq rfl rfl | refine fun h => ?_)
      all_goals simp only [decide_eq_true_eq, decide_eq_false_iff_not, List.length_map] at *
      · exact sRow (by omega) (row_at xs _ (by omega)) rfl
      · exact sAnd (by repeat' constructor) (c_toAsked _ (hv _ (getD_mem (by omega))))
      · exact sIdx (by omega) rfl rfl
      · exact sPut (by omega) rfl rfl
      · refine ⟨i + 1, [], by omega, by omega, ?_⟩
        repeat' (first | exact trivial | exact ⟨rfl⟩ | exact Chk.mk (by kernel_rfl) | exact ⟨wrap_succ (n := xs.length) (by omega) (by omega)⟩ | exact sPartS (by omega) rfl | exact sFlat Asked.flat rfl | refine And.intro ?_ ?_ | rfl)
      · refine ⟨⟨trivial, trivial⟩, ⟨part_end (by omega) rfl, ?_⟩, trivial⟩
        show AllF _
        rw [part_all (by omega)]
        exact map_frz Asked.frz

theorem c_eqNodeS (xs ys : List Node) (hx : xs.length ≤ maxLen) (hy : ys.length ≤ maxLen) (hvx : ∀ v ∈ xs, v.ok lim) (hvy : ∀ v ∈ ys, v.ok lim) :
    Pure PP false 27 [.one (.fz (xs.map Node.cells)), .one (.fz (ys.map Node.cells))] (ob (decide (xs = ys))) := by
  refine Pure.vc [] TTok hmo Go.Proofs.Tryz.func27 (by kernel_rfl) rfl (by kernel_rfl) ?_
  repeat' (first | refine And.intro ?_ ?_ | exact tf | exact ft | refine tt ?_ | refine ff ?_ | exact ⟨trivial⟩ | exact sLe rfl | exact Chk.mk (by kernel_rfl) | exact ⟨Chk.mk (by kernel_rfl)⟩ | exact sLeEq rfl rfl | refine fun h => ?_)
  · refine ⟨?_⟩
    simp at *
    intro e; subst e; simp at h
  · have hl : xs.length = ys.length := by simp at h; omega
    unfold maxLen at hx hy
    refine W.loopC (D := Nat) (fun i => [(19, .row (xs.getD i default).cells), (23, .row (ys.getD i default).cells), (25, .res (ob (decide (xs.getD i default = ys.getD i default))))]) TTok hmo
      (fun i => ⟨27, 0, [(0, .one (.ag (xs.map Node.cells))), (1, .one (.ag (ys.map Node.cells))), (4, ob false), (5, oi i)], []⟩) (fun i => xs.length - i) (fun i => i ≤ xs.length ∧ xs.take i = ys.take i) 0 [] ⟨by omega, by simp⟩ ?_ ?_
    · repeat' (first | exact trivial | exact ⟨rfl⟩ | exact Chk.mk (by kernel_rfl) | refine And.intro ?_ ?_ | rfl)
    · intro i ⟨hi, hp⟩
      repeat' (first | refine And.intro ?_ ?_ | exact tf | exact ft | refine tt ?_ | refine ff ?_ | exact ⟨trivial⟩ | exact sLe rfl | exact Chk.mk (by kernel_rfl) | exact ⟨Chk.mk (by kernel_rfl)⟩ | exact sLeEq rfl rfl | refine fun h => ?_)
      all_goals simp only [decide_eq_true_eq, decide_eq_false_iff_not, List.length_map, Bool.not_eq_true', Bool.not_eq_false', Bool.not_eq_eq_eq_not, Bool.not_true, Bool.not_false] at *
      · exact sRow (by omega) (row_at xs _ (by omega)) rfl
      · exact sRow (by omega) (row_at ys _ (by omega)) rfl
      · exact sAnd (by repeat' constructor) (c_eqNode _ _ (hvx _ (getD_mem (by omega))) (hvy _ (getD_mem (by omega))))
      · refine ⟨?_⟩
        simp
        intro e; subst e; contradiction
      · refine ⟨i + 1, [], by omega, ⟨by omega, eq_upto hl (by omega) hp (by assumption)⟩, ?_⟩
        repeat' (first | exact trivial | exact ⟨rfl⟩ | exact Chk.mk (by kernel_rfl) | refine And.intro ?_ ?_ | rfl)
        exact ⟨by rw [wrapi] <;> omega⟩
      · refine ⟨?_⟩
        simp
        exact eq_all hl (by omega) hp

theorem c_toNodeS (xs : List Node) (hx : xs.length ≤ lim) (hv : ∀ v ∈ xs, v.ok lim) :
    Pure PP false 18 [.one (.fz (xs.map Node.cells))] (.one (.fz (xs.map Node.cells))) := by
  have hx0 : xs.length ≤ 1048576 := hx
  refine Pure.vc [] TTok hmo Go.Proofs.Tryz.func18 (by kernel_rfl) rfl (by kernel_rfl) ?_
  repeat' (first | refine And.intro ?_ ?_ | exact tf | exact ft | refine tt ?_ | refine ff ?_ | exact ⟨trivial⟩ | exact sLe rfl | exact Chk.mk (by kernel_rfl) | exact ⟨Chk.mk (by kernel_rfl)⟩ | exact sLeEq rfl rfl | refine fun h => ?_)
  · refine ⟨?_⟩
    simp at *
    omega
  · refine W.loopC (D := Nat) (fun i => [(18, .row (xs.getD i default).cells), (20, .res (.agg (xs.getD i default).cells))]) TTok hmo
      (fun i => ⟨23, 1, [(0, .one (.ag (xs.map Node.cells))), (2, .one .nil), (3, .one (.ref 0 0 xs.length)), (4, oi i)], [(0, .arr (part Node.cells [i6 0, i6 0, .nil, .nil, i6 0, i6 0, i6 0, .nil, .nil, bo false, i6 0, i6 0, .nil, .nil, i6 0, i6 0, .nil, bo false, .nil, bo false, i6 0, i6 0, .nil, .nil, i6 0, i6 0, .nil] xs i))]⟩) (fun i => xs.length - i) (fun i => i ≤ xs.length) 0 [] (by omega) ?_ ?_
    · repeat' (first | exact trivial | exact ⟨rfl⟩ | exact Chk.mk (by kernel_rfl) | exact sPart0 (by simp) | exact sFlat Node.flat rfl | refine And.intro ?_ ?_ | rfl)
      all_goals exact ⟨by simp⟩
    · intro i hi
      repeat' (first | refine And.intro ?_ ?_ | exact tf | exact ft | refine tt ?_ | refine ff ?_ | exact ⟨trivial⟩ | exact sLe rfl | exact Chk.mk (by kernel_rfl) | exact ⟨Chk.mk (by kernel_rfl)⟩ | exact sLeEq rfl rfl | refine fun h => ?_)
      all_goals simp only [decide_eq_true_eq, decide_eq_false_iff_not, List.length_map] at *
      · exact sRow (by omega) (row_at xs _ (by omega)) rfl
      · exact sAnd (by repeat' constructor) (c_toNode _ (hv _ (getD_mem (by omega))))
      · exact sIdx (by omega) rfl rfl
      · exact sPut (by omega) rfl rfl
      · refine ⟨i + 1, [], by omega, by omega, ?_⟩
        repeat' (first | exact trivial | exact ⟨rfl⟩ | exact Chk.mk (by kernel_rfl) | exact ⟨wrap_succ (n := xs.length) (by omega) (by omega)⟩ | exact sPartS (by omega) rfl | exact sFlat Node.flat rfl | refine And.intro ?_ ?_ | rfl)
      · refine ⟨⟨trivial, trivial⟩, ⟨part_end (by omega) rfl, ?_⟩, trivial⟩
        show AllF _
        rw [part_all (by omega)]
        exact map_frz Node.frz

theorem c_toWorld (x : World) (hx : x.ok lim) :
    Pure PP false 6 [.agg x.cells] (.agg x.cells) := by
  refine Pure.vc [(6, .res (.one (.fz (x.nodes.map Node.cells)))), (10, .res (.one (.fz (x.net.map Msg.cells)))), (14, .res (.one (.fz (x.asked.map Asked.cells)))), (18, .res (.one (.fz (x.told.map Told.cells))))] TTok hmo Go.Proofs.Tryz.func6 (by kernel_rfl) rfl (by kernel_rfl) ?_
  repeat' (first | refine And.intro ?_ ?_ | exact tf | exact ft | refine tt ?_ | refine ff ?_ | exact ⟨trivial⟩ | exact sLe rfl | exact Chk.mk (by kernel_rfl) | exact ⟨Chk.mk (by kernel_rfl)⟩ | exact sLeEq rfl rfl | exact sAnd (by repeat' constructor) (c_toNodeS _ hx.nodes.1 hx.nodes.2) | exact sAnd (by repeat' constructor) (c_toMsgS _ hx.net.1 hx.net.2) | exact sAnd (by repeat' constructor) (c_toAskedS _ hx.asked.1 hx.asked.2) | exact sAnd (by repeat' constructor) (c_toToldS _ hx.told) | refine fun h => ?_)
  all_goals (refine ⟨?_⟩; repeat' (first | exact trivial | exact Nat.le_of_ble_eq_true rfl | rfl | refine And.intro ?_ ?_))

theorem c_eqWorld (x y : World) (hx : x.ok lim) (hy : y.ok lim) :
    Pure PP false 8 [.agg x.cells, .agg y.cells] (ob (decide (x = y))) := by
  obtain ⟨ns, ms, aks, ts⟩ := x
  obtain ⟨ns', ms', aks', ts'⟩ := y
  refine Pure.vc [(9, .res (ob (decide (ns = ns')))), (15, .res (ob (decide (ms = ms')))), (21, .res (ob (decide (aks = aks')))), (27, .res (ob (decide (ts = ts'))))] TTok hmo Go.Proofs.Tryz.func8 (by kernel_rfl) rfl (by kernel_rfl) ?_
  repeat' (first | refine And.intro ?_ ?_ | exact tf | exact ft | refine tt ?_ | refine ff ?_ | exact ⟨trivial⟩ | exact sLe rfl | exact Chk.mk (by kernel_rfl) | exact ⟨Chk.mk (by kernel_rfl)⟩ | exact sLeEq rfl rfl | exact sAnd (by repeat' constructor) (c_eqNodeS _ _ (Nat.le_trans hx.nodes.1 (by decide)) (Nat.le_trans hy.nodes.1 (by decide)) hx.nodes.2 hy.nodes.2) | exact sAnd (by repeat' constructor) (c_eqMsgS _ _ (Nat.le_trans hx.net.1 (by decide)) (Nat.le_trans hy.net.1 (by decide)) hx.net.2 hy.net.2) | exact sAnd (by repeat' constructor) (c_eqAskedS _ _ (Nat.le_trans hx.asked.1 (by decide)) (Nat.le_trans hy.asked.1 (by decide)) hx.asked.2 hy.asked.2) | exact sAnd (by repeat' constructor) (c_eqToldS _ _ (Nat.le_trans hx.told (by decide)) (Nat.le_trans hy.told (by decide))) | refine fun h => ?_)
  all_goals (refine ⟨?_⟩; simp_all)
  all_goals rfl

end Mg
