/- Sameness of nodes. No condition. -/
import Derived.Test.YthflichlfpmenaaR2C
namespace Mg
open Go Go.RowKit
set_option maxRecDepth 100000
set_option linter.unusedVariables false
set_option linter.unusedSimpArgs false
attribute [local irreducible] W Pure
theorem c_entriesSame (xs ys : List Entry) (hx : xs.length ≤ maxLen) (hy : ys.length ≤ maxLen) (hvx : ∀ v ∈ xs, v.ok lim) (hvy : ∀ v ∈ ys, v.ok lim) : Pure PP false 100 [.one (.fz (xs.map Entry.cells)), .one (.fz (ys.map Entry.cells))] (ob (decide (xs = ys))) := by
  refine Pure.vc [] TTok hmo Go.Proofs.Try.func100 (by kernel_rfl) rfl (by kernel_rfl) ?_
  repeat' (first | refine And.intro ?_ ?_ | exact tf | exact ft | refine tt ?_ | refine ff ?_ | exact ⟨trivial⟩ | exact sLe rfl | exact Chk.mk (by kernel_rfl) | exact ⟨Chk.mk (by kernel_rfl)⟩ | exact sLeEq rfl rfl | refine fun h => ?_)
  · refine ⟨?_⟩
    simp at *
    intro e; subst e; simp at h
  · have hl : xs.length = ys.length := by simp at h; omega
    unfold maxLen at hx hy
    refine W.loopC (D := Nat) (fun i => [(18, .row (Entry.cells (xs.getD i default))), (22, .row (Entry.cells (ys.getD i default))), (24, .res (ob (decide ((xs.getD i default) = (ys.getD i default)))))]) TTok hmo
      (fun i => ⟨27, 0, [(0, .one (.ag (xs.map Entry.cells))), (1, .one (.ag (ys.map Entry.cells))), (4, ob false), (12, oi xs.length), (13, oi i)], []⟩) (fun i => xs.length - i) (fun i => i ≤ xs.length ∧ xs.take i = ys.take i) 0 [] ⟨by omega, by simp⟩ ?_ ?_
    · repeat' (first | exact trivial | exact ⟨rfl⟩ | exact Chk.mk (by kernel_rfl) | refine And.intro ?_ ?_ | rfl)
      all_goals exact ⟨by simp⟩
    · intro i ⟨hi, hp⟩
      repeat' (first | refine And.intro ?_ ?_ | exact tf | exact ft | refine tt ?_ | refine ff ?_ | exact ⟨trivial⟩ | exact sLe rfl | exact Chk.mk (by kernel_rfl) | exact ⟨Chk.mk (by kernel_rfl)⟩ | exact sLeEq rfl rfl | refine fun h => ?_)
      all_goals simp only [decide_eq_true_eq, decide_eq_false_iff_not, List.length_map, Bool.not_eq_true', Bool.not_eq_false', Bool.not_eq_eq_eq_not, Bool.not_true, Bool.not_false, bne_iff_ne, ne_eq, bne_eq_false_iff_eq] at *
      · exact sRow (by omega) (row_at xs _ (by omega)) rfl
      · exact sRow (by omega) (row_at ys _ (by omega)) rfl
      · exact sAnd (by repeat' constructor) (c_impl_CertLike _ _ (hvx _ (getD_mem (by omega))) (hvy _ (getD_mem (by omega))))
      · refine ⟨?_⟩
        simp
        intro e; subst e; simp_all
      · refine ⟨i + 1, [], by omega, ⟨by omega, eq_upto hl (by omega) hp (by simp_all)⟩, ?_⟩
        repeat' (first | exact trivial | exact ⟨rfl⟩ | exact Chk.mk (by kernel_rfl) | exact ⟨wrap_succ (n := xs.length) (by omega) (by omega)⟩ | refine And.intro ?_ ?_ | rfl)
      · refine ⟨?_⟩
        simp
        exact eq_all hl (by omega) hp

theorem c_l9Entries (xs ys : List Entry) (hx : xs.length ≤ maxLen) (hy : ys.length ≤ maxLen) (hvx : ∀ v ∈ xs, v.ok lim) (hvy : ∀ v ∈ ys, v.ok lim) : Pure PP false 92 [.one (.fz (xs.map Entry.cells)), .one (.fz (ys.map Entry.cells))] (ob (decide (xs = ys))) := by
  refine Pure.vc [] TTok hmo Go.Proofs.Try.func92 (by kernel_rfl) rfl (by kernel_rfl) ?_
  repeat' (first | refine And.intro ?_ ?_ | exact tf | exact ft | refine tt ?_ | refine ff ?_ | exact ⟨trivial⟩ | exact sLe rfl | exact Chk.mk (by kernel_rfl) | exact ⟨Chk.mk (by kernel_rfl)⟩ | exact sLeEq rfl rfl | refine fun h => ?_)
  · refine ⟨?_⟩
    simp at *
    intro e; subst e; simp at h
  · have hl : xs.length = ys.length := by simp at h; omega
    unfold maxLen at hx hy
    refine W.loopC (D := Nat) (fun i => [(19, .row (Entry.cells (xs.getD i default))), (23, .row (Entry.cells (ys.getD i default))), (25, .res (ob (decide ((xs.getD i default) = (ys.getD i default)))))]) TTok hmo
      (fun i => ⟨27, 0, [(0, .one (.ag (xs.map Entry.cells))), (1, .one (.ag (ys.map Entry.cells))), (4, ob false), (5, oi i)], []⟩) (fun i => xs.length - i) (fun i => i ≤ xs.length ∧ xs.take i = ys.take i) 0 [] ⟨by omega, by simp⟩ ?_ ?_
    · repeat' (first | exact trivial | exact ⟨rfl⟩ | exact Chk.mk (by kernel_rfl) | refine And.intro ?_ ?_ | rfl)
      all_goals exact ⟨by simp⟩
    · intro i ⟨hi, hp⟩
      repeat' (first | refine And.intro ?_ ?_ | exact tf | exact ft | refine tt ?_ | refine ff ?_ | exact ⟨trivial⟩ | exact sLe rfl | exact Chk.mk (by kernel_rfl) | exact ⟨Chk.mk (by kernel_rfl)⟩ | exact sLeEq rfl rfl | refine fun h => ?_)
      all_goals simp only [decide_eq_true_eq, decide_eq_false_iff_not, List.length_map, Bool.not_eq_true', Bool.not_eq_false', Bool.not_eq_eq_eq_not, Bool.not_true, Bool.not_false, bne_iff_ne, ne_eq, bne_eq_false_iff_eq] at *
      · exact sRow (by omega) (row_at xs _ (by omega)) rfl
      · exact sRow (by omega) (row_at ys _ (by omega)) rfl
      · exact sAnd (by repeat' constructor) (c_spec_CertLike _ _ (hvx _ (getD_mem (by omega))) (hvy _ (getD_mem (by omega))))
      · refine ⟨?_⟩
        simp
        intro e; subst e; simp_all
      · refine ⟨i + 1, [], by omega, ⟨by omega, eq_upto hl (by omega) hp (by simp_all)⟩, ?_⟩
        repeat' (first | exact trivial | exact ⟨rfl⟩ | exact Chk.mk (by kernel_rfl) | exact ⟨wrap_succ (n := xs.length) (by omega) (by omega)⟩ | refine And.intro ?_ ?_ | rfl)
      · refine ⟨?_⟩
        simp
        exact eq_all hl (by omega) hp

theorem c_same_bool (xs ys : List Bool) (hx : xs.length ≤ maxLen) (hy : ys.length ≤ maxLen)  : Pure PP false 101 [.one (.fz (xs.map Bool.cells)), .one (.fz (ys.map Bool.cells))] (ob (decide (xs = ys))) := by
  refine Pure.vc [] TTok hmo Go.Proofs.Try.func101 (by kernel_rfl) rfl (by kernel_rfl) ?_
  repeat' (first | refine And.intro ?_ ?_ | exact tf | exact ft | refine tt ?_ | refine ff ?_ | exact ⟨trivial⟩ | exact sLe rfl | exact Chk.mk (by kernel_rfl) | exact ⟨Chk.mk (by kernel_rfl)⟩ | exact sLeEq rfl rfl | refine fun h => ?_)
  · refine ⟨?_⟩
    simp at *
    intro e; subst e; simp at h
  · have hl : xs.length = ys.length := by simp at h; omega
    unfold maxLen at hx hy
    refine W.loopC (D := Nat) (fun i => [(18, .row (Bool.cells (xs.getD i default))), (22, .row (Bool.cells (ys.getD i default)))]) TTok hmo
      (fun i => ⟨26, 0, [(0, .one (.ag (xs.map Bool.cells))), (1, .one (.ag (ys.map Bool.cells))), (4, ob false), (12, oi xs.length), (13, oi i)], []⟩) (fun i => xs.length - i) (fun i => i ≤ xs.length ∧ xs.take i = ys.take i) 0 [] ⟨by omega, by simp⟩ ?_ ?_
    · repeat' (first | exact trivial | exact ⟨rfl⟩ | exact Chk.mk (by kernel_rfl) | refine And.intro ?_ ?_ | rfl)
      all_goals exact ⟨by simp⟩
    · intro i ⟨hi, hp⟩
      repeat' (first | refine And.intro ?_ ?_ | exact tf | exact ft | refine tt ?_ | refine ff ?_ | exact ⟨trivial⟩ | exact sLe rfl | exact Chk.mk (by kernel_rfl) | exact ⟨Chk.mk (by kernel_rfl)⟩ | exact sLeEq rfl rfl | refine fun h => ?_)
      all_goals simp only [decide_eq_true_eq, decide_eq_false_iff_not, List.length_map, Bool.not_eq_true', Bool.not_eq_false', Bool.not_eq_eq_eq_not, Bool.not_true, Bool.not_false, bne_iff_ne, ne_eq, bne_eq_false_iff_eq] at *
      · exact sRow (by omega) (row_at xs _ (by omega)) rfl
      · exact sRow (by omega) (row_at ys _ (by omega)) rfl
      · refine ⟨?_⟩
        simp
        intro e; subst e; simp_all
      · refine ⟨i + 1, [], by omega, ⟨by omega, eq_upto hl (by omega) hp (by simp_all [])⟩, ?_⟩
        repeat' (first | exact trivial | exact ⟨rfl⟩ | exact Chk.mk (by kernel_rfl) | exact ⟨wrap_succ (n := xs.length) (by omega) (by omega)⟩ | refine And.intro ?_ ?_ | rfl)
      · refine ⟨?_⟩
        simp
        exact eq_all hl (by omega) hp

theorem c_l9Bools (xs ys : List Bool) (hx : xs.length ≤ maxLen) (hy : ys.length ≤ maxLen)  : Pure PP false 93 [.one (.fz (xs.map Bool.cells)), .one (.fz (ys.map Bool.cells))] (ob (decide (xs = ys))) := by
  refine Pure.vc [] TTok hmo Go.Proofs.Try.func93 (by kernel_rfl) rfl (by kernel_rfl) ?_
  repeat' (first | refine And.intro ?_ ?_ | exact tf | exact ft | refine tt ?_ | refine ff ?_ | exact ⟨trivial⟩ | exact sLe rfl | exact Chk.mk (by kernel_rfl) | exact ⟨Chk.mk (by kernel_rfl)⟩ | exact sLeEq rfl rfl | refine fun h => ?_)
  · refine ⟨?_⟩
    simp at *
    intro e; subst e; simp at h
  · have hl : xs.length = ys.length := by simp at h; omega
    unfold maxLen at hx hy
    refine W.loopC (D := Nat) (fun i => [(19, .row (Bool.cells (xs.getD i default))), (23, .row (Bool.cells (ys.getD i default)))]) TTok hmo
      (fun i => ⟨26, 0, [(0, .one (.ag (xs.map Bool.cells))), (1, .one (.ag (ys.map Bool.cells))), (4, ob false), (5, oi i)], []⟩) (fun i => xs.length - i) (fun i => i ≤ xs.length ∧ xs.take i = ys.take i) 0 [] ⟨by omega, by simp⟩ ?_ ?_
    · repeat' (first | exact trivial | exact ⟨rfl⟩ | exact Chk.mk (by kernel_rfl) | refine And.intro ?_ ?_ | rfl)
      all_goals exact ⟨by simp⟩
    · intro i ⟨hi, hp⟩
      repeat' (first | refine And.intro ?_ ?_ | exact tf | exact ft | refine tt ?_ | refine ff ?_ | exact ⟨trivial⟩ | exact sLe rfl | exact Chk.mk (by kernel_rfl) | exact ⟨Chk.mk (by kernel_rfl)⟩ | exact sLeEq rfl rfl | refine fun h => ?_)
      all_goals simp only [decide_eq_true_eq, decide_eq_false_iff_not, List.length_map, Bool.not_eq_true', Bool.not_eq_false', Bool.not_eq_eq_eq_not, Bool.not_true, Bool.not_false, bne_iff_ne, ne_eq, bne_eq_false_iff_eq] at *
      · exact sRow (by omega) (row_at xs _ (by omega)) rfl
      · exact sRow (by omega) (row_at ys _ (by omega)) rfl
      · refine ⟨?_⟩
        simp
        intro e; subst e; simp_all
      · refine ⟨i + 1, [], by omega, ⟨by omega, eq_upto hl (by omega) hp (by simp_all [])⟩, ?_⟩
        repeat' (first | exact trivial | exact ⟨rfl⟩ | exact Chk.mk (by kernel_rfl) | exact ⟨wrap_succ (n := xs.length) (by omega) (by omega)⟩ | refine And.intro ?_ ?_ | rfl)
      · refine ⟨?_⟩
        simp
        exact eq_all hl (by omega) hp

theorem c_same_Ins (xs ys : List Ins) (hx : xs.length ≤ maxLen) (hy : ys.length ≤ maxLen)  : Pure PP false 103 [.one (.fz (xs.map Ins.cells)), .one (.fz (ys.map Ins.cells))] (ob (decide (xs = ys))) := by
  refine Pure.vc [] TTok hmo Go.Proofs.Try.func103 (by kernel_rfl) rfl (by kernel_rfl) ?_
  repeat' (first | refine And.intro ?_ ?_ | exact tf | exact ft | refine tt ?_ | refine ff ?_ | exact ⟨trivial⟩ | exact sLe rfl | exact Chk.mk (by kernel_rfl) | exact ⟨Chk.mk (by kernel_rfl)⟩ | exact sLeEq rfl rfl | refine fun h => ?_)
  · refine ⟨?_⟩
    simp at *
    intro e; subst e; simp at h
  · have hl : xs.length = ys.length := by simp at h; omega
    unfold maxLen at hx hy
    refine W.loopC (D := Nat) (fun i => [(18, .row (Ins.cells (xs.getD i default))), (22, .row (Ins.cells (ys.getD i default)))]) TTok hmo
      (fun i => ⟨26, 0, [(0, .one (.ag (xs.map Ins.cells))), (1, .one (.ag (ys.map Ins.cells))), (4, ob false), (12, oi xs.length), (13, oi i)], []⟩) (fun i => xs.length - i) (fun i => i ≤ xs.length ∧ xs.take i = ys.take i) 0 [] ⟨by omega, by simp⟩ ?_ ?_
    · repeat' (first | exact trivial | exact ⟨rfl⟩ | exact Chk.mk (by kernel_rfl) | refine And.intro ?_ ?_ | rfl)
      all_goals exact ⟨by simp⟩
    · intro i ⟨hi, hp⟩
      repeat' (first | refine And.intro ?_ ?_ | exact tf | exact ft | refine tt ?_ | refine ff ?_ | exact ⟨trivial⟩ | exact sLe rfl | exact Chk.mk (by kernel_rfl) | exact ⟨Chk.mk (by kernel_rfl)⟩ | exact sLeEq rfl rfl | refine fun h => ?_)
      all_goals simp only [decide_eq_true_eq, decide_eq_false_iff_not, List.length_map, Bool.not_eq_true', Bool.not_eq_false', Bool.not_eq_eq_eq_not, Bool.not_true, Bool.not_false, bne_iff_ne, ne_eq, bne_eq_false_iff_eq] at *
      · exact sRow (by omega) (row_at xs _ (by omega)) rfl
      · exact sRow (by omega) (row_at ys _ (by omega)) rfl
      · refine ⟨?_⟩
        simp
        intro e; subst e; simp_all
      · refine ⟨i + 1, [], by omega, ⟨by omega, eq_upto hl (by omega) hp (by simp_all [Ins.eq_iff, Two.eq_iff, Told.eq_iff])⟩, ?_⟩
        repeat' (first | exact trivial | exact ⟨rfl⟩ | exact Chk.mk (by kernel_rfl) | exact ⟨wrap_succ (n := xs.length) (by omega) (by omega)⟩ | refine And.intro ?_ ?_ | rfl)
      · refine ⟨?_⟩
        simp
        exact eq_all hl (by omega) hp

theorem c_spec_ProgSame (xs ys : List Ins) (hx : xs.length ≤ maxLen) (hy : ys.length ≤ maxLen)  : Pure PP false 51 [.one (.fz (xs.map Ins.cells)), .one (.fz (ys.map Ins.cells))] (ob (decide (xs = ys))) := by
  refine Pure.vc [] TTok hmo Go.Proofs.Try.func51 (by kernel_rfl) rfl (by kernel_rfl) ?_
  repeat' (first | refine And.intro ?_ ?_ | exact tf | exact ft | refine tt ?_ | refine ff ?_ | exact ⟨trivial⟩ | exact sLe rfl | exact Chk.mk (by kernel_rfl) | exact ⟨Chk.mk (by kernel_rfl)⟩ | exact sLeEq rfl rfl | refine fun h => ?_)
  · refine ⟨?_⟩
    simp at *
    intro e; subst e; simp at h
  · have hl : xs.length = ys.length := by simp at h; omega
    unfold maxLen at hx hy
    refine W.loopC (D := Nat) (fun i => [(19, .row (Ins.cells (xs.getD i default))), (23, .row (Ins.cells (ys.getD i default)))]) TTok hmo
      (fun i => ⟨26, 0, [(0, .one (.ag (xs.map Ins.cells))), (1, .one (.ag (ys.map Ins.cells))), (4, ob false), (5, oi i)], []⟩) (fun i => xs.length - i) (fun i => i ≤ xs.length ∧ xs.take i = ys.take i) 0 [] ⟨by omega, by simp⟩ ?_ ?_
    · repeat' (first | exact trivial | exact ⟨rfl⟩ | exact Chk.mk (by kernel_rfl) | refine And.intro ?_ ?_ | rfl)
      all_goals exact ⟨by simp⟩
    · intro i ⟨hi, hp⟩
      repeat' (first | refine And.intro ?_ ?_ | exact tf | exact ft | refine tt ?_ | refine ff ?_ | exact ⟨trivial⟩ | exact sLe rfl | exact Chk.mk (by kernel_rfl) | exact ⟨Chk.mk (by kernel_rfl)⟩ | exact sLeEq rfl rfl | refine fun h => ?_)
      all_goals simp only [decide_eq_true_eq, decide_eq_false_iff_not, List.length_map, Bool.not_eq_true', Bool.not_eq_false', Bool.not_eq_eq_eq_not, Bool.not_true, Bool.not_false, bne_iff_ne, ne_eq, bne_eq_false_iff_eq] at *
      · exact sRow (by omega) (row_at xs _ (by omega)) rfl
      · exact sRow (by omega) (row_at ys _ (by omega)) rfl
      · refine ⟨?_⟩
        simp
        intro e; subst e; simp_all
      · refine ⟨i + 1, [], by omega, ⟨by omega, eq_upto hl (by omega) hp (by simp_all [Ins.eq_iff, Two.eq_iff, Told.eq_iff])⟩, ?_⟩
        repeat' (first | exact trivial | exact ⟨rfl⟩ | exact Chk.mk (by kernel_rfl) | exact ⟨wrap_succ (n := xs.length) (by omega) (by omega)⟩ | refine And.intro ?_ ?_ | rfl)
      · refine ⟨?_⟩
        simp
        exact eq_all hl (by omega) hp

theorem c_same_Told (xs ys : List Told) (hx : xs.length ≤ maxLen) (hy : ys.length ≤ maxLen)  : Pure PP false 56 [.one (.fz (xs.map Told.cells)), .one (.fz (ys.map Told.cells))] (ob (decide (xs = ys))) := by
  refine Pure.vc [] TTok hmo Go.Proofs.Try.func56 (by kernel_rfl) rfl (by kernel_rfl) ?_
  repeat' (first | refine And.intro ?_ ?_ | exact tf | exact ft | refine tt ?_ | refine ff ?_ | exact ⟨trivial⟩ | exact sLe rfl | exact Chk.mk (by kernel_rfl) | exact ⟨Chk.mk (by kernel_rfl)⟩ | exact sLeEq rfl rfl | refine fun h => ?_)
  · refine ⟨?_⟩
    simp at *
    intro e; subst e; simp at h
  · have hl : xs.length = ys.length := by simp at h; omega
    unfold maxLen at hx hy
    refine W.loopC (D := Nat) (fun i => [(18, .row (Told.cells (xs.getD i default))), (22, .row (Told.cells (ys.getD i default)))]) TTok hmo
      (fun i => ⟨26, 0, [(0, .one (.ag (xs.map Told.cells))), (1, .one (.ag (ys.map Told.cells))), (4, ob false), (12, oi xs.length), (13, oi i)], []⟩) (fun i => xs.length - i) (fun i => i ≤ xs.length ∧ xs.take i = ys.take i) 0 [] ⟨by omega, by simp⟩ ?_ ?_
    · repeat' (first | exact trivial | exact ⟨rfl⟩ | exact Chk.mk (by kernel_rfl) | refine And.intro ?_ ?_ | rfl)
      all_goals exact ⟨by simp⟩
    · intro i ⟨hi, hp⟩
      repeat' (first | refine And.intro ?_ ?_ | exact tf | exact ft | refine tt ?_ | refine ff ?_ | exact ⟨trivial⟩ | exact sLe rfl | exact Chk.mk (by kernel_rfl) | exact ⟨Chk.mk (by kernel_rfl)⟩ | exact sLeEq rfl rfl | refine fun h => ?_)
      all_goals simp only [decide_eq_true_eq, decide_eq_false_iff_not, List.length_map, Bool.not_eq_true', Bool.not_eq_false', Bool.not_eq_eq_eq_not, Bool.not_true, Bool.not_false, bne_iff_ne, ne_eq, bne_eq_false_iff_eq] at *
      · exact sRow (by omega) (row_at xs _ (by omega)) rfl
      · exact sRow (by omega) (row_at ys _ (by omega)) rfl
      · refine ⟨?_⟩
        simp
        intro e; subst e; simp_all
      · refine ⟨i + 1, [], by omega, ⟨by omega, eq_upto hl (by omega) hp (by simp_all [Ins.eq_iff, Two.eq_iff, Told.eq_iff])⟩, ?_⟩
        repeat' (first | exact trivial | exact ⟨rfl⟩ | exact Chk.mk (by kernel_rfl) | exact ⟨wrap_succ (n := xs.length) (by omega) (by omega)⟩ | refine And.intro ?_ ?_ | rfl)
      · refine ⟨?_⟩
        simp
        exact eq_all hl (by omega) hp

theorem c_impl_ProgSame (xs ys : List Ins) (hx : xs.length ≤ maxLen) (hy : ys.length ≤ maxLen) : Pure PP false 59 [.one (.fz (xs.map Ins.cells)), .one (.fz (ys.map Ins.cells))] (ob (decide (xs = ys))) := by
  refine Pure.vc [(7, .res (ob (decide (xs = ys))))] TTok hmo Go.Proofs.Try.func59 (by kernel_rfl) rfl (by kernel_rfl) ?_
  repeat' (first | refine And.intro ?_ ?_ | exact tf | exact ft | refine tt ?_ | refine ff ?_ | exact ⟨trivial⟩ | exact sAll rfl | exact sLe rfl | exact Chk.mk (by kernel_rfl) | exact ⟨Chk.mk (by kernel_rfl)⟩ | exact sLeEq rfl rfl | exact sAnd (by repeat' constructor) (c_same_Ins _ _ hx hy) | refine fun h => ?_)
  all_goals (refine ⟨?_⟩; simp)

set_option maxHeartbeats 8000000 in
theorem c_impl_nodeSame (x y : Node) (hx : x.ok lim) (hy : y.ok lim) :
    Pure PP false 57 [.agg x.cells, .agg y.cells] (ob (decide (x = y))) := by
  obtain ⟨id, ac, kn, sq, ph, ba, fr, be, cu, vo, bu, pr, wa, qu⟩ := x
  obtain ⟨id', ac', kn', sq', ph', ba', fr', be', cu', vo', bu', pr', wa', qu'⟩ := y
  refine Pure.vc [(15, .res (ob (decide (ac = ac')))), (22, .res (ob (decide (kn = kn')))), (50, .res (ob (decide (fr = fr')))), (57, .res (ob (decide (be = be')))), (64, .res (ob (decide (cu = cu')))), (71, .res (ob (decide (vo = vo')))), (85, .res (ob (decide (pr = pr')))), (92, .res (ob (decide (wa = wa')))), (99, .res (ob (decide (qu = qu'))))] TTok hmo Go.Proofs.Try.func57 (by kernel_rfl) rfl (by kernel_rfl) ?_
  repeat' (first | refine And.intro ?_ ?_ | exact tf | exact ft | refine tt ?_ | refine ff ?_ | exact ⟨trivial⟩ | exact sLe rfl | exact Chk.mk (by kernel_rfl) | exact ⟨Chk.mk (by kernel_rfl)⟩ | exact sLeEq rfl rfl | exact sAnd (by repeat' constructor) (c_impl_AccSame _ _ hx.acc hy.acc) | exact sAnd (by repeat' constructor) (c_entriesSame _ _ (Nat.le_trans hx.known.1 (by decide)) (Nat.le_trans hy.known.1 (by decide)) hx.known.2 hy.known.2) | exact sAnd (by repeat' constructor) (c_same_bool _ _ (Nat.le_trans hx.fro (by decide)) (Nat.le_trans hy.fro (by decide))) | exact sAnd (by repeat' constructor) (c_votesSame _ _ (Nat.le_trans hx.best.1 (by decide)) (Nat.le_trans hy.best.1 (by decide)) hx.best.2 hy.best.2) | exact sAnd (by repeat' constructor) (c_impl_CertLike _ _ hx.cur hy.cur) | exact sAnd (by repeat' constructor) (c_same_bool _ _ (Nat.le_trans hx.votes (by decide)) (Nat.le_trans hy.votes (by decide))) | exact sAnd (by repeat' constructor) (c_impl_ProgSame _ _ (Nat.le_trans hx.prog (by decide)) (Nat.le_trans hy.prog (by decide))) | exact sAnd (by repeat' constructor) (c_impl_CertLike _ _ hx.want hy.want) | exact sAnd (by repeat' constructor) (c_entriesSame _ _ (Nat.le_trans hx.queue.1 (by decide)) (Nat.le_trans hy.queue.1 (by decide)) hx.queue.2 hy.queue.2) | refine fun h => ?_)
  all_goals (refine ⟨?_⟩; simp_all)
  all_goals rfl

set_option maxHeartbeats 8000000 in
theorem c_spec_l9Node (x y : Node) (hx : x.ok lim) (hy : y.ok lim) :
    Pure PP false 49 [.agg x.cells, .agg y.cells] (ob (decide (x = y))) := by
  obtain ⟨id, ac, kn, sq, ph, ba, fr, be, cu, vo, bu, pr, wa, qu⟩ := x
  obtain ⟨id', ac', kn', sq', ph', ba', fr', be', cu', vo', bu', pr', wa', qu'⟩ := y
  refine Pure.vc [(15, .res (ob (decide (ac = ac')))), (22, .res (ob (decide (kn = kn')))), (50, .res (ob (decide (fr = fr')))), (57, .res (ob (decide (be = be')))), (64, .res (ob (decide (cu = cu')))), (71, .res (ob (decide (vo = vo')))), (85, .res (ob (decide (pr = pr')))), (92, .res (ob (decide (wa = wa')))), (99, .res (ob (decide (qu = qu'))))] TTok hmo Go.Proofs.Try.func49 (by kernel_rfl) rfl (by kernel_rfl) ?_
  repeat' (first | refine And.intro ?_ ?_ | exact tf | exact ft | refine tt ?_ | refine ff ?_ | exact ⟨trivial⟩ | exact sLe rfl | exact Chk.mk (by kernel_rfl) | exact ⟨Chk.mk (by kernel_rfl)⟩ | exact sLeEq rfl rfl | exact sAnd (by repeat' constructor) (c_spec_AccSame _ _ hx.acc hy.acc) | exact sAnd (by repeat' constructor) (c_l9Entries _ _ (Nat.le_trans hx.known.1 (by decide)) (Nat.le_trans hy.known.1 (by decide)) hx.known.2 hy.known.2) | exact sAnd (by repeat' constructor) (c_l9Bools _ _ (Nat.le_trans hx.fro (by decide)) (Nat.le_trans hy.fro (by decide))) | exact sAnd (by repeat' constructor) (c_l6Same _ _ (Nat.le_trans hx.best.1 (by decide)) (Nat.le_trans hy.best.1 (by decide)) hx.best.2 hy.best.2) | exact sAnd (by repeat' constructor) (c_spec_CertLike _ _ hx.cur hy.cur) | exact sAnd (by repeat' constructor) (c_l9Bools _ _ (Nat.le_trans hx.votes (by decide)) (Nat.le_trans hy.votes (by decide))) | exact sAnd (by repeat' constructor) (c_spec_ProgSame _ _ (Nat.le_trans hx.prog (by decide)) (Nat.le_trans hy.prog (by decide))) | exact sAnd (by repeat' constructor) (c_spec_CertLike _ _ hx.want hy.want) | exact sAnd (by repeat' constructor) (c_l9Entries _ _ (Nat.le_trans hx.queue.1 (by decide)) (Nat.le_trans hy.queue.1 (by decide)) hx.queue.2 hy.queue.2) | refine fun h => ?_)
  all_goals (refine ⟨?_⟩; simp_all)
  all_goals rfl

end Mg
