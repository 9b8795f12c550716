/- Sameness. No condition. -/
import Derived.Test.YthflichlfpmenaaGreatR1E
namespace Mg
open Go Go.RowKit
set_option maxRecDepth 100000
set_option linter.unusedVariables false
set_option linter.unusedSimpArgs false
attribute [local irreducible] W Pure
theorem Two.eq_iff {x y : Two} : x = y ↔ x.a = y.a ∧ x.b = y.b := by
  cases x; cases y; simp
theorem Vote.eq_iff {x y : Vote} : x = y ↔ x.bal = y.bal ∧ x.e = y.e := by
  cases x; cases y; simp
theorem c_same_Read (xs ys : List Two) (hx : xs.length ≤ maxLen) (hy : ys.length ≤ maxLen)  : Pure PP false 99 [.one (.fz (xs.map Two.cells)), .one (.fz (ys.map Two.cells))] (ob (decide (xs = ys))) := by
  refine Pure.vc [] TTok hmo Go.Proofs.Tryz.func99 (by kernel_rfl) rfl (by kernel_rfl) ?_
  repeat' (first | refine And.intro ?_ ?_ | exact tf | exact ft | refine tt ?_ | refine ff ?_ | exact ⟨trivial⟩ | exact sLe rfl | exact Chk.mk (by kernel_rfl) | exact ⟨Chk.mk (by kernel_rfl)⟩ | exact sLeEq rfl rfl | refine fun h => ?_)
  · refine ⟨?_⟩
    simp at *
    intro e; subst e; simp at h
  · have hl : xs.length = ys.length := by simp at h; omega
    unfold maxLen at hx hy
    refine W.loopC (D := Nat) (fun i => [(18, .row (xs.getD i default).cells), (22, .row (ys.getD i default).cells)]) TTok hmo
      (fun i => ⟨26, 0, [(0, .one (.ag (xs.map Two.cells))), (1, .one (.ag (ys.map Two.cells))), (4, ob false), (12, oi xs.length), (13, oi i)], []⟩) (fun i => xs.length - i) (fun i => i ≤ xs.length ∧ xs.take i = ys.take i) 0 [] ⟨by omega, by simp⟩ ?_ ?_
    · repeat' (first | exact trivial | exact ⟨rfl⟩ | exact Chk.mk (by kernel_rfl) | refine And.intro ?_ ?_ | rfl)
      all_goals exact ⟨by simp⟩
    · intro i ⟨hi, hp⟩
      repeat' (first | refine And.intro ?_ ?_ | exact tf | exact ft | refine tt ?_ | refine ff ?_ | exact ⟨trivial⟩ | exact sLe rfl | exact Chk.mk (by kernel_rfl) | exact ⟨Chk.mk (by kernel_rfl)⟩ | exact sLeEq rfl rfl | refine fun h => ?_)
      all_goals simp only [decide_eq_true_eq, decide_eq_false_iff_not, List.length_map, Bool.not_eq_true', Bool.not_eq_false', Bool.not_eq_eq_eq_not, Bool.not_true, Bool.not_false, bne_iff_ne, ne_eq, bne_eq_false_iff_eq] at *
      · exact sRow (by omega) (row_at xs _ (by omega)) rfl
      · exact sRow (by omega) (row_at ys _ (by omega)) rfl
      · refine ⟨?_⟩
        simp
        intro e; subst e; simp_all
      · refine ⟨i + 1, [], by omega, ⟨by omega, eq_upto hl (by omega) hp (by simp_all [Two.eq_iff])⟩, ?_⟩
        repeat' (first | exact trivial | exact ⟨rfl⟩ | exact Chk.mk (by kernel_rfl) | exact ⟨wrap_succ (n := xs.length) (by omega) (by omega)⟩ | refine And.intro ?_ ?_ | rfl)
      · refine ⟨?_⟩
        simp
        exact eq_all hl (by omega) hp

theorem c_same_Put (xs ys : List Two) (hx : xs.length ≤ maxLen) (hy : ys.length ≤ maxLen)  : Pure PP false 100 [.one (.fz (xs.map Two.cells)), .one (.fz (ys.map Two.cells))] (ob (decide (xs = ys))) := by
  refine Pure.vc [] TTok hmo Go.Proofs.Tryz.func100 (by kernel_rfl) rfl (by kernel_rfl) ?_
  repeat' (first | refine And.intro ?_ ?_ | exact tf | exact ft | refine tt ?_ | refine ff ?_ | exact ⟨trivial⟩ | exact sLe rfl | exact Chk.mk (by kernel_rfl) | exact ⟨Chk.mk (by kernel_rfl)⟩ | exact sLeEq rfl rfl | refine fun h => ?_)
  · refine ⟨?_⟩
    simp at *
    intro e; subst e; simp at h
  · have hl : xs.length = ys.length := by simp at h; omega
    unfold maxLen at hx hy
    refine W.loopC (D := Nat) (fun i => [(18, .row (xs.getD i default).cells), (22, .row (ys.getD i default).cells)]) TTok hmo
      (fun i => ⟨26, 0, [(0, .one (.ag (xs.map Two.cells))), (1, .one (.ag (ys.map Two.cells))), (4, ob false), (12, oi xs.length), (13, oi i)], []⟩) (fun i => xs.length - i) (fun i => i ≤ xs.length ∧ xs.take i = ys.take i) 0 [] ⟨by omega, by simp⟩ ?_ ?_
    · repeat' (first | exact trivial | exact ⟨rfl⟩ | exact Chk.mk (by kernel_rfl) | refine And.intro ?_ ?_ | rfl)
      all_goals exact ⟨by simp⟩
    · intro i ⟨hi, hp⟩
      repeat' (first | refine And.intro ?_ ?_ | exact tf | exact ft | refine tt ?_ | refine ff ?_ | exact ⟨trivial⟩ | exact sLe rfl | exact Chk.mk (by kernel_rfl) | exact ⟨Chk.mk (by kernel_rfl)⟩ | exact sLeEq rfl rfl | refine fun h => ?_)
      all_goals simp only [decide_eq_true_eq, decide_eq_false_iff_not, List.length_map, Bool.not_eq_true', Bool.not_eq_false', Bool.not_eq_eq_eq_not, Bool.not_true, Bool.not_false, bne_iff_ne, ne_eq, bne_eq_false_iff_eq] at *
      · exact sRow (by omega) (row_at xs _ (by omega)) rfl
      · exact sRow (by omega) (row_at ys _ (by omega)) rfl
      · refine ⟨?_⟩
        simp
        intro e; subst e; simp_all
      · refine ⟨i + 1, [], by omega, ⟨by omega, eq_upto hl (by omega) hp (by simp_all [Two.eq_iff])⟩, ?_⟩
        repeat' (first | exact trivial | exact ⟨rfl⟩ | exact Chk.mk (by kernel_rfl) | exact ⟨wrap_succ (n := xs.length) (by omega) (by omega)⟩ | refine And.intro ?_ ?_ | rfl)
      · refine ⟨?_⟩
        simp
        exact eq_all hl (by omega) hp

theorem c_impl_ExecSame (x y : Run) (hx : x.ok lim) (hy : y.ok lim) :
    Pure PP false 79 [.agg x.cells, .agg y.cells] (ob (decide (x = y))) := by
  obtain ⟨rs, ps, c, d⟩ := x
  obtain ⟨rs', ps', c', d'⟩ := y
  refine Pure.vc [(9, .res (ob (decide (rs = rs')))), (15, .res (ob (decide (ps = ps'))))] TTok hmo Go.Proofs.Tryz.func79 (by kernel_rfl) rfl (by kernel_rfl) ?_
  repeat' (first | refine And.intro ?_ ?_ | exact tf | exact ft | refine tt ?_ | refine ff ?_ | exact ⟨trivial⟩ | exact sLe rfl | exact Chk.mk (by kernel_rfl) | exact ⟨Chk.mk (by kernel_rfl)⟩ | exact sLeEq rfl rfl | exact sAnd (by repeat' constructor) (c_same_Read _ _ (Nat.le_trans hx.1 (by decide)) (Nat.le_trans hy.1 (by decide))) | exact sAnd (by repeat' constructor) (c_same_Put _ _ (Nat.le_trans hx.2 (by decide)) (Nat.le_trans hy.2 (by decide))) | refine fun h => ?_)
  all_goals (refine ⟨?_⟩; simp_all)
  all_goals rfl

theorem c_impl_CertLike (x y : Entry) (hx : x.ok lim) (hy : y.ok lim) :
    Pure PP false 51 [.agg x.cells, .agg y.cells] (ob (decide (x = y))) := by
  obtain ⟨n, ⟨qa, qb⟩, r⟩ := x
  obtain ⟨n', ⟨qa', qb'⟩, r'⟩ := y
  refine Pure.vc [(22, .res (ob (decide (r = r'))))] TTok hmo Go.Proofs.Tryz.func51 (by kernel_rfl) rfl (by kernel_rfl) ?_
  repeat' (first | refine And.intro ?_ ?_ | exact tf | exact ft | refine tt ?_ | refine ff ?_ | exact ⟨trivial⟩ | exact sLe rfl | exact Chk.mk (by kernel_rfl) | exact ⟨Chk.mk (by kernel_rfl)⟩ | exact sLeEq rfl rfl | exact sAnd (by repeat' constructor) (c_impl_ExecSame _ _ hx hy) | refine fun h => ?_)
  all_goals (refine ⟨?_⟩; simp_all)
  all_goals rfl

theorem c_spec_ExecSame (x y : Run) (hx : x.ok lim) (hy : y.ok lim) : Pure PP false 66 [.agg x.cells, .agg y.cells] (ob (decide (x = y))) := by
  obtain ⟨rs, ps, c, d⟩ := x
  obtain ⟨rs', ps', c', d'⟩ := y
  have hxr : rs.length ≤ 1048576 := hx.1
  have hxp : ps.length ≤ 1048576 := hx.2
  refine Pure.vc [] TTok hmo Go.Proofs.Tryz.func66 (by kernel_rfl) rfl (by kernel_rfl) ?_
  repeat' (first | refine And.intro ?_ ?_ | exact tf | exact ft | refine tt ?_ | refine ff ?_ | exact ⟨trivial⟩ | exact sLe rfl | exact Chk.mk (by kernel_rfl) | exact ⟨Chk.mk (by kernel_rfl)⟩ | exact sLeEq rfl rfl | refine fun h => ?_)
  all_goals try (refine Side.mk ?_; simp_all; done)
  · refine ⟨?_⟩; simp_all; repeat intro e
    simp_all
  · have hlr : rs.length = rs'.length := by simp_all; omega
    have hlp : ps.length = ps'.length := by simp_all; omega
    have hcc : c = c' := by simp_all
    have hdd : d = d' := by simp_all
    refine W.loopC (D := Nat) (fun i => [(47, .row (rs.getD i default).cells), (52, .row (rs'.getD i default).cells)]) TTok hmo
      (fun i => ⟨73, 2, [(2, .one (.ptr 0 0 0)), (3, .one (.ptr 1 0 0)), (4, ob false), (5, oi i)], [(0, .box [.ag (rs.map Two.cells), .ag (ps.map Two.cells), i6 c, i6 d]), (1, .box [.ag (rs'.map Two.cells), .ag (ps'.map Two.cells), i6 c', i6 d'])]⟩) (fun i => rs.length - i) (fun i => i ≤ rs.length ∧ rs.take i = rs'.take i) 0 [] ⟨by omega, by simp⟩ ?_ ?_
    · repeat' (first | exact trivial | exact ⟨rfl⟩ | exact Chk.mk (by kernel_rfl) | refine And.intro ?_ ?_ | rfl)
    · intro i ⟨hi, hp⟩
      repeat' (first | refine And.intro ?_ ?_ | exact tf | exact ft | refine tt ?_ | refine ff ?_ | exact ⟨trivial⟩ | exact sLe rfl | exact Chk.mk (by kernel_rfl) | exact ⟨Chk.mk (by kernel_rfl)⟩ | exact sLeEq rfl rfl | refine fun h => ?_)
      all_goals simp only [decide_eq_true_eq, decide_eq_false_iff_not, List.length_map, Bool.not_eq_true', Bool.not_eq_false', Bool.not_eq_eq_eq_not, Bool.not_true, Bool.not_false, bne_iff_ne, ne_eq, bne_eq_false_iff_eq] at *
      · exact sRow (by omega) (row_at rs _ (by omega)) rfl
      · exact sRow (by omega) (row_at rs' _ (by omega)) rfl
      · refine ⟨?_⟩
        simp_all
        repeat intro e
        simp_all
      · refine ⟨i + 1, [], by omega, ⟨by omega, eq_upto hlr (by omega) hp (by simp_all [Two.eq_iff])⟩, ?_⟩
        repeat' (first | exact trivial | exact ⟨rfl⟩ | exact Chk.mk (by kernel_rfl) | exact ⟨wrap_succ (n := rs.length) (by omega) (by omega)⟩ | refine And.intro ?_ ?_ | rfl)
      · have rse : rs = rs' := eq_all hlr (by omega) hp
        refine W.loopC (D := Nat) (fun i => [(65, .row (ps.getD i default).cells), (70, .row (ps'.getD i default).cells)]) TTok hmo
          (fun i => ⟨73, 2, [(2, .one (.ptr 0 0 0)), (3, .one (.ptr 1 0 0)), (4, ob false), (6, oi i)], [(0, .box [.ag (rs.map Two.cells), .ag (ps.map Two.cells), i6 c, i6 d]), (1, .box [.ag (rs'.map Two.cells), .ag (ps'.map Two.cells), i6 c', i6 d'])]⟩) (fun i => ps.length - i) (fun i => i ≤ ps.length ∧ ps.take i = ps'.take i) 0 [] ⟨by omega, by simp⟩ ?_ ?_
        · repeat' (first | exact trivial | exact ⟨rfl⟩ | exact Chk.mk (by kernel_rfl) | refine And.intro ?_ ?_ | rfl)
        · intro i ⟨hi, hp⟩
          repeat' (first | refine And.intro ?_ ?_ | exact tf | exact ft | refine tt ?_ | refine ff ?_ | exact ⟨trivial⟩ | exact sLe rfl | exact Chk.mk (by kernel_rfl) | exact ⟨Chk.mk (by kernel_rfl)⟩ | exact sLeEq rfl rfl | refine fun h => ?_)
          all_goals simp only [decide_eq_true_eq, decide_eq_false_iff_not, List.length_map, Bool.not_eq_true', Bool.not_eq_false', Bool.not_eq_eq_eq_not, Bool.not_true, Bool.not_false, bne_iff_ne, ne_eq, bne_eq_false_iff_eq] at *
          · exact sRow (by omega) (row_at ps _ (by omega)) rfl
          · exact sRow (by omega) (row_at ps' _ (by omega)) rfl
          · refine ⟨?_⟩
            simp_all
            repeat intro e
            simp_all
          · refine ⟨i + 1, [], by omega, ⟨by omega, eq_upto hlp (by omega) hp (by simp_all [Two.eq_iff])⟩, ?_⟩
            repeat' (first | exact trivial | exact ⟨rfl⟩ | exact Chk.mk (by kernel_rfl) | exact ⟨wrap_succ (n := ps.length) (by omega) (by omega)⟩ | refine And.intro ?_ ?_ | rfl)
          · have pse : ps = ps' := eq_all hlp (by omega) hp
            refine ⟨?_⟩
            simp_all
  all_goals (refine Side.mk ?_; simp_all; repeat intro e)
  all_goals simp_all
end Mg
