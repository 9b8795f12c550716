/- Parts of the abstract state logic and of the walks, one behind the other: NS8, NB. No condition. -/
import Derived.Test.YtedgmfmhilihoaaGreatP24
import Derived.Test.YtedgmfmhilihoaaGreatP26
import Derived.Test.YtedgmfmhilihoaaGreatP18
/- What there is behind entries: compared, numbered, held. No condition. -/
namespace Mg
open Go Go.RowKit
set_option maxRecDepth 100000
set_option linter.unusedVariables false
set_option linter.unusedSimpArgs false
attribute [local irreducible] W Pure Con TPure TMark
def St.ok (n : Nat) (s : St) : Prop := s.boxes.length ≤ n ∧ s.dones.length ≤ n
def mkDone (_ : Done) (k : Int) : Done := ⟨⟨k, k + 1⟩, k + 2, k + 3⟩
def mkDones (xs : List Done) (k : Int) : List Done := mkL mkDone (ctK 4) xs k
def mkSt (s : St) (k : Int) : St := ⟨s.at_, mkTwos s.boxes k, mkDones s.dones (k + 2 * (s.boxes.length : Int))⟩

theorem c_eqBox (x y : Two)  :
    Pure PP false 118 [.agg x.cells, .agg y.cells] (ob (decide (x = y))) := by
  obtain ⟨a, b⟩ := x
  obtain ⟨a', b'⟩ := y
  refine Pure.vc [] TTok hmo Go.Proofs.Tryz.func118 (by kernel_rfl) rfl (by kernel_rfl) ?_
  repeat' (first | refine And.intro ?_ ?_ | exact tf | exact ft | refine tt ?_ | refine ff ?_ | exact ⟨trivial⟩ | exact sLe rfl | exact Chk.mk (by kernel_rfl) | exact ⟨Chk.mk (by kernel_rfl)⟩ | exact sLeEq rfl rfl | refine fun h => ?_)
  all_goals (refine ⟨?_⟩; simp_all)
  all_goals rfl

theorem c_eqBoxS (xs ys : List Two) (hx : xs.length ≤ maxLen) (hy : ys.length ≤ maxLen)  :
    Pure PP false 59 [.one (.fz (xs.map Two.cells)), .one (.fz (ys.map Two.cells))] (ob (decide (xs = ys))) := by
  refine Pure.vc [] TTok hmo Go.Proofs.Tryz.func59 (by kernel_rfl) rfl (by kernel_rfl) ?_
  repeat' (first | refine And.intro ?_ ?_ | exact tf | exact ft | refine tt ?_ | refine ff ?_ | exact ⟨trivial⟩ | exact sLe rfl | exact Chk.mk (by kernel_rfl) | exact ⟨Chk.mk (by kernel_rfl)⟩ | exact sLeEq rfl rfl | refine fun h => ?_)
  · refine ⟨?_⟩
    simp at *
    intro e; subst e; simp at h
  · have hl : xs.length = ys.length := by simp at h; omega
    unfold maxLen at hx hy
    refine W.loopC (D := Nat) (fun i => [(19, .row (xs.getD i default).cells), (23, .row (ys.getD i default).cells), (25, .res (ob (decide (xs.getD i default = ys.getD i default))))]) TTok hmo
      (fun i => ⟨27, 0, [(0, .one (.ag (xs.map Two.cells))), (1, .one (.ag (ys.map Two.cells))), (4, ob false), (5, oi i)], []⟩) (fun i => xs.length - i) (fun i => i ≤ xs.length ∧ xs.take i = ys.take i) 0 [] ⟨by omega, by simp⟩ ?_ ?_
    · repeat' (first | exact trivial | exact ⟨rfl⟩ | exact Chk.mk (by kernel_rfl) | refine And.intro ?_ ?_ | rfl)
    · intro i ⟨hi, hp⟩
      repeat' (first | refine And.intro ?_ ?_ | exact tf | exact ft | refine tt ?_ | refine ff ?_ | exact ⟨trivial⟩ | exact sLe rfl | exact Chk.mk (by kernel_rfl) | exact ⟨Chk.mk (by kernel_rfl)⟩ | exact sLeEq rfl rfl | exact sAnd (by repeat' constructor) (c_eqBox _ _) | refine fun h => ?_)
      all_goals simp only [decide_eq_true_eq, decide_eq_false_iff_not, List.length_map, Bool.not_eq_true', Bool.not_eq_false', Bool.not_eq_eq_eq_not, Bool.not_true, Bool.not_false] at *
      · exact sRow (by omega) (row_at xs _ (by omega)) rfl
      · exact sRow (by omega) (row_at ys _ (by omega)) rfl
      · refine ⟨?_⟩
        simp
        intro e; subst e; contradiction
      · refine ⟨i + 1, [], by omega, ⟨by omega, eq_upto hl (by omega) hp (by assumption)⟩, ?_⟩
        repeat' (first | exact trivial | exact ⟨rfl⟩ | exact Chk.mk (by kernel_rfl) | refine And.intro ?_ ?_ | rfl)
        exact ⟨by rw [wrapi] <;> omega⟩
      · refine ⟨?_⟩
        simp
        exact eq_all hl (by omega) hp

theorem c_eqDone (x y : Done)  :
    Pure PP false 119 [.agg x.cells, .agg y.cells] (ob (decide (x = y))) := by
  obtain ⟨q, c, v⟩ := x
  obtain ⟨q', c', v'⟩ := y
  refine Pure.vc [(9, .res (ob (decide (q = q'))))] TTok hmo Go.Proofs.Tryz.func119 (by kernel_rfl) rfl (by kernel_rfl) ?_
  repeat' (first | refine And.intro ?_ ?_ | exact tf | exact ft | refine tt ?_ | refine ff ?_ | exact ⟨trivial⟩ | exact sLe rfl | exact Chk.mk (by kernel_rfl) | exact ⟨Chk.mk (by kernel_rfl)⟩ | exact sLeEq rfl rfl | exact sAnd (by repeat' constructor) (c_eqReq _ _) | refine fun h => ?_)
  all_goals (refine ⟨?_⟩; simp_all)
  all_goals rfl

theorem c_eqDoneS (xs ys : List Done) (hx : xs.length ≤ maxLen) (hy : ys.length ≤ maxLen)  :
    Pure PP false 60 [.one (.fz (xs.map Done.cells)), .one (.fz (ys.map Done.cells))] (ob (decide (xs = ys))) := by
  refine Pure.vc [] TTok hmo Go.Proofs.Tryz.func60 (by kernel_rfl) rfl (by kernel_rfl) ?_
  repeat' (first | refine And.intro ?_ ?_ | exact tf | exact ft | refine tt ?_ | refine ff ?_ | exact ⟨trivial⟩ | exact sLe rfl | exact Chk.mk (by kernel_rfl) | exact ⟨Chk.mk (by kernel_rfl)⟩ | exact sLeEq rfl rfl | refine fun h => ?_)
  · refine ⟨?_⟩
    simp at *
    intro e; subst e; simp at h
  · have hl : xs.length = ys.length := by simp at h; omega
    unfold maxLen at hx hy
    refine W.loopC (D := Nat) (fun i => [(19, .row (xs.getD i default).cells), (23, .row (ys.getD i default).cells), (25, .res (ob (decide (xs.getD i default = ys.getD i default))))]) TTok hmo
      (fun i => ⟨27, 0, [(0, .one (.ag (xs.map Done.cells))), (1, .one (.ag (ys.map Done.cells))), (4, ob false), (5, oi i)], []⟩) (fun i => xs.length - i) (fun i => i ≤ xs.length ∧ xs.take i = ys.take i) 0 [] ⟨by omega, by simp⟩ ?_ ?_
    · repeat' (first | exact trivial | exact ⟨rfl⟩ | exact Chk.mk (by kernel_rfl) | refine And.intro ?_ ?_ | rfl)
    · intro i ⟨hi, hp⟩
      repeat' (first | refine And.intro ?_ ?_ | exact tf | exact ft | refine tt ?_ | refine ff ?_ | exact ⟨trivial⟩ | exact sLe rfl | exact Chk.mk (by kernel_rfl) | exact ⟨Chk.mk (by kernel_rfl)⟩ | exact sLeEq rfl rfl | exact sAnd (by repeat' constructor) (c_eqDone _ _) | refine fun h => ?_)
      all_goals simp only [decide_eq_true_eq, decide_eq_false_iff_not, List.length_map, Bool.not_eq_true', Bool.not_eq_false', Bool.not_eq_eq_eq_not, Bool.not_true, Bool.not_false] at *
      · exact sRow (by omega) (row_at xs _ (by omega)) rfl
      · exact sRow (by omega) (row_at ys _ (by omega)) rfl
      · refine ⟨?_⟩
        simp
        intro e; subst e; contradiction
      · refine ⟨i + 1, [], by omega, ⟨by omega, eq_upto hl (by omega) hp (by assumption)⟩, ?_⟩
        repeat' (first | exact trivial | exact ⟨rfl⟩ | exact Chk.mk (by kernel_rfl) | refine And.intro ?_ ?_ | rfl)
        exact ⟨by rw [wrapi] <;> omega⟩
      · refine ⟨?_⟩
        simp
        exact eq_all hl (by omega) hp

theorem c_eqState (x y : St) (hx : x.ok lim) (hy : y.ok lim) :
    Pure PP false 15 [.agg x.cells, .agg y.cells] (ob (decide (x = y))) := by
  obtain ⟨t, b, d⟩ := x
  obtain ⟨t', b', d'⟩ := y
  refine Pure.vc [(14, .res (ob (decide (b = b')))), (20, .res (ob (decide (d = d'))))] TTok hmo Go.Proofs.Tryz.func15 (by kernel_rfl) rfl (by kernel_rfl) ?_
  repeat' (first | refine And.intro ?_ ?_ | exact tf | exact ft | refine tt ?_ | refine ff ?_ | exact ⟨trivial⟩ | exact sLe rfl | exact Chk.mk (by kernel_rfl) | exact ⟨Chk.mk (by kernel_rfl)⟩ | exact sLeEq rfl rfl | exact sAnd (by repeat' constructor) (c_eqBoxS _ _ (Nat.le_trans hx.1 (by decide)) (Nat.le_trans hy.1 (by decide))) | exact sAnd (by repeat' constructor) (c_eqDoneS _ _ (Nat.le_trans hx.2 (by decide)) (Nat.le_trans hy.2 (by decide))) | refine fun h => ?_)
  all_goals (refine ⟨?_⟩; simp_all)
  all_goals rfl

theorem k_markBoxS (xs : List Two) (k : Int) (hk0 : 0 ≤ k) (hk1 : k ≤ 4000000000000000000) (hx : xs.length ≤ lim)  : TMark PP 61 (.one (.fz (xs.map Two.cells))) k (.one (.fz ((mkL mkTwo (ctK 2) xs k).map Two.cells))) (k + ctL (ctK 2) xs) := by
  have hx0 : xs.length ≤ 1048576 := hx
  have hbd : ∀ x ∈ xs, 0 ≤ (ctK 2) x ∧ (ctK 2) x ≤ 2 := fun _ _ => ⟨by simp [ctK], by simp [ctK]⟩
  refine TMark.vcL (fun B => []) TTok hmo Go.Proofs.Tryz.func61 (by kernel_rfl) rfl (by kernel_rfl) (allF Two.frz) (allF Two.frz) (fun B hB => ?_)
  repeat' (first | refine And.intro ?_ ?_ | exact tf | exact ft | refine tt ?_ | refine ff ?_ | exact ⟨trivial⟩ | exact sAll rfl | exact sF1 rfl | exact sBld (by repeat' (first | exact trivial | rfl | exact Nat.le_of_ble_eq_true rfl | refine And.intro ?_ ?_)) rfl | exact sBS (by repeat' (first | exact trivial | rfl | exact Nat.le_of_ble_eq_true rfl | refine And.intro ?_ ?_)) rfl rfl rfl rfl | exact sBSF (by repeat' (first | exact trivial | rfl | exact Nat.le_of_ble_eq_true rfl | refine And.intro ?_ ?_)) rfl rfl rfl rfl | exact sLe rfl | exact Chk.mk (by kernel_rfl) | exact ⟨Chk.mk (by kernel_rfl)⟩ | exact sLeEq rfl rfl | refine fun h => ?_)
  refine W.loopC (D := Nat) (fun i => [(800004, .row [])]) TTok hmo (fun i => ⟨27, 1, [(0, .one (.ref 0 0 xs.length)), (1, oi (k + ctL (ctK 2) (xs.take i))), (5, oi i)], [(0, .arr (labR true B 0 ((mkUp mkTwo (ctK 2) xs k i).map Two.cells)))]⟩) (fun i => xs.length - i) (fun i => i ≤ xs.length) 0 [] (Nat.zero_le _) ?_ ?_
  · repeat' (first | exact trivial | exact Side.mk rfl | exact Chk.mk (by kernel_rfl) | exact ⟨Chk.mk (by kernel_rfl)⟩ | exact sFlatL (allF Two.frz) | exact sUp0 | exact sK0 | exact sLenM | refine And.intro ?_ ?_ | rfl)
  · intro i hi
    repeat' (first | refine And.intro ?_ ?_ | exact tf | exact ft | refine tt ?_ | refine ff ?_ | exact ⟨trivial⟩ | exact sAll rfl | exact sF1 rfl | exact sBld (by repeat' (first | exact trivial | rfl | exact Nat.le_of_ble_eq_true rfl | refine And.intro ?_ ?_)) rfl | exact sBS (by repeat' (first | exact trivial | rfl | exact Nat.le_of_ble_eq_true rfl | refine And.intro ?_ ?_)) rfl rfl rfl rfl | exact sBSF (by repeat' (first | exact trivial | rfl | exact Nat.le_of_ble_eq_true rfl | refine And.intro ?_ ?_)) rfl rfl rfl rfl | exact sLe rfl | exact Chk.mk (by kernel_rfl) | exact ⟨Chk.mk (by kernel_rfl)⟩ | exact sLeEq rfl rfl | refine fun h => ?_)
    · have hl : i < xs.length := by have := of_decide_eq_true h; omega
      have hct := ctL_bdt (i := i) (M := 2) (by decide) hbd
      have hce := hbd _ (getD_mem hl)
      have hct1 := ctL_take (ct := (ctK 2)) hl
      have hMb : (xs.length : Int) * 2 ≤ 10000000000000000 := by omega
      have hget : (labR true B 0 ((mkUp mkTwo (ctK 2) xs k i).map Two.cells))[i]? = some (labRow true (B i) 0 (Two.cells (xs.getD i default))) := lab_map_get (mkUp_get hl)
      have hlr : i < (labR true B 0 ((mkUp mkTwo (ctK 2) xs k i).map Two.cells)).length := by rw [labR_len, List.length_map, mkUp_len]; exact hl
      have hl2 : i < ((mkUp mkTwo (ctK 2) xs k i).map Two.cells).length := by rw [List.length_map, mkUp_len]; exact hl
      have hn : xs.length = (labR true B 0 ((mkUp mkTwo (ctK 2) xs k i).map Two.cells)).length := by rw [labR_len, List.length_map, mkUp_len]
      have hfl : ∀ r ∈ (labR true B 0 ((mkUp mkTwo (ctK 2) xs k i).map Two.cells)), ∀ c ∈ r, c.flat = true := lab_flat (allF Two.frz)
      have hup := mkUp_set (f := mkTwo) (ct := (ctK 2)) (k := k) hl
      have hkf : k + ctL (ctK 2) (xs.take (i + 1)) = k + ctL (ctK 2) (xs.take i) + (ctK 2) (xs.getD i default) := by omega
      generalize hkk : k + ctL (ctK 2) (xs.take i) = kk at *
      generalize hxx : xs.getD i default = x at *
      have hcx : (ctK 2) x = 2 := rfl
      rw [hcx] at hkf hce
      refine W.sub ⟨27, 1, [(0, .one (.ref 0 0 xs.length)), (1, oi (kk)), (5, oi i)], [(0, .arr ((labR true B 0 ((mkUp mkTwo (ctK 2) xs k i).map Two.cells)).set i [i6 x.a, i6 x.b]))]⟩ [] ?_ ?_
      · repeat' (first | exact trivial | exact Side.mk rfl | exact Chk.mk (by kernel_rfl) | exact ⟨Chk.mk (by kernel_rfl)⟩ | exact sSet0 hget | exact sFlatN hfl rfl | exact ⟨rfl⟩ | refine And.intro ?_ ?_ | rfl)
      refine W.go [(800006, .row [])] TTok hmo ?_
      repeat' (first | refine And.intro ?_ ?_ | exact tf | exact ft | refine tt ?_ | refine ff ?_ | exact ⟨trivial⟩ | exact sAll rfl | exact sF1 rfl | exact sBld (by repeat' (first | exact trivial | rfl | exact Nat.le_of_ble_eq_true rfl | refine And.intro ?_ ?_)) rfl | exact sBS (by repeat' (first | exact trivial | rfl | exact Nat.le_of_ble_eq_true rfl | refine And.intro ?_ ?_)) rfl rfl rfl rfl | exact sBSF (by repeat' (first | exact trivial | rfl | exact Nat.le_of_ble_eq_true rfl | refine And.intro ?_ ?_)) rfl rfl rfl rfl | exact sLe rfl | exact Chk.mk (by kernel_rfl) | exact ⟨Chk.mk (by kernel_rfl)⟩ | exact sLeEq rfl rfl | refine fun h => ?_)
      all_goals try (exact sIxN hlr rfl hn rfl)
      all_goals try (exact sStN hlr (by simp) rfl rfl)
      all_goals try (exact fun hq => absurd hq (by decide))
      all_goals try (exact ⟨fun hq => absurd hq (by decide)⟩)
      refine W.sub ⟨27, 1, [(0, .one (.ref 0 0 xs.length)), (1, oi (kk + 1)), (5, oi i)], [(0, .arr ((labR true B 0 ((mkUp mkTwo (ctK 2) xs k i).map Two.cells)).set i [i6 (kk), i6 x.b]))]⟩ [] ?_ ?_
      · repeat' (first | exact trivial | exact Side.mk rfl | exact Chk.mk (by kernel_rfl) | exact ⟨Chk.mk (by kernel_rfl)⟩ | exact sSetN hlr (by simp) rfl | exact sFlatN hfl rfl | exact sWrap (by omega) (by omega) (by omega) | refine And.intro ?_ ?_ | rfl)
      refine W.go [] TTok hmo ?_
      repeat' (first | refine And.intro ?_ ?_ | exact tf | exact ft | refine tt ?_ | refine ff ?_ | exact ⟨trivial⟩ | exact sAll rfl | exact sF1 rfl | exact sBld (by repeat' (first | exact trivial | rfl | exact Nat.le_of_ble_eq_true rfl | refine And.intro ?_ ?_)) rfl | exact sBS (by repeat' (first | exact trivial | rfl | exact Nat.le_of_ble_eq_true rfl | refine And.intro ?_ ?_)) rfl rfl rfl rfl | exact sBSF (by repeat' (first | exact trivial | rfl | exact Nat.le_of_ble_eq_true rfl | refine And.intro ?_ ?_)) rfl rfl rfl rfl | exact sLe rfl | exact Chk.mk (by kernel_rfl) | exact ⟨Chk.mk (by kernel_rfl)⟩ | exact sLeEq rfl rfl | refine fun h => ?_)
      all_goals try (exact sIxN hlr rfl hn rfl)
      all_goals try (exact sStN hlr (by simp) rfl rfl)
      all_goals try (exact fun hq => absurd hq (by decide))
      all_goals try (exact ⟨fun hq => absurd hq (by decide)⟩)
      refine ⟨i + 1, [], by omega, by omega, ?_⟩
      repeat' (first | exact trivial | exact Side.mk rfl | exact Chk.mk (by kernel_rfl) | exact ⟨Chk.mk (by kernel_rfl)⟩ | exact sFlatL (allF Two.frz) | exact ⟨(congrArg (fun q => labR true B 0 (q.map Two.cells)) hup.symm).trans ((lab_map_set (x := mkTwo x kk)).symm.trans (sSetN (r' := labRow true (B i) 0 (Two.cells (mkTwo x kk))) hlr (by simp) rfl).h)⟩ | exact sWrap (by omega) (by omega) (by omega) | exact ⟨by omega⟩ | exact sWrap (by omega) (by omega) (by omega) | refine And.intro ?_ ?_ | rfl)
    all_goals (have hle : xs.length ≤ i := by have := of_decide_eq_false h; omega)
    all_goals first | exact ⟨⟨trivial, trivial⟩⟩ | exact sKE hle | exact sUpE hle | exact ⟨likeR_map (mkL_len _ _).symm fun _ _ => by repeat' constructor⟩

theorem k_markDoneS (xs : List Done) (k : Int) (hk0 : 0 ≤ k) (hk1 : k ≤ 4000000000000000000) (hx : xs.length ≤ lim)  : TMark PP 62 (.one (.fz (xs.map Done.cells))) k (.one (.fz ((mkL mkDone (ctK 4) xs k).map Done.cells))) (k + ctL (ctK 4) xs) := by
  have hx0 : xs.length ≤ 1048576 := hx
  have hbd : ∀ x ∈ xs, 0 ≤ (ctK 4) x ∧ (ctK 4) x ≤ 4 := fun _ _ => ⟨by simp [ctK], by simp [ctK]⟩
  refine TMark.vcL (fun B => []) TTok hmo Go.Proofs.Tryz.func62 (by kernel_rfl) rfl (by kernel_rfl) (allF Done.frz) (allF Done.frz) (fun B hB => ?_)
  repeat' (first | refine And.intro ?_ ?_ | exact tf | exact ft | refine tt ?_ | refine ff ?_ | exact ⟨trivial⟩ | exact sAll rfl | exact sF1 rfl | exact sBld (by repeat' (first | exact trivial | rfl | exact Nat.le_of_ble_eq_true rfl | refine And.intro ?_ ?_)) rfl | exact sBS (by repeat' (first | exact trivial | rfl | exact Nat.le_of_ble_eq_true rfl | refine And.intro ?_ ?_)) rfl rfl rfl rfl | exact sBSF (by repeat' (first | exact trivial | rfl | exact Nat.le_of_ble_eq_true rfl | refine And.intro ?_ ?_)) rfl rfl rfl rfl | exact sLe rfl | exact Chk.mk (by kernel_rfl) | exact ⟨Chk.mk (by kernel_rfl)⟩ | exact sLeEq rfl rfl | refine fun h => ?_)
  refine W.loopC (D := Nat) (fun i => [(800004, .row [])]) TTok hmo (fun i => ⟨43, 1, [(0, .one (.ref 0 0 xs.length)), (1, oi (k + ctL (ctK 4) (xs.take i))), (5, oi i)], [(0, .arr (labR true B 0 ((mkUp mkDone (ctK 4) xs k i).map Done.cells)))]⟩) (fun i => xs.length - i) (fun i => i ≤ xs.length) 0 [] (Nat.zero_le _) ?_ ?_
  · repeat' (first | exact trivial | exact Side.mk rfl | exact Chk.mk (by kernel_rfl) | exact ⟨Chk.mk (by kernel_rfl)⟩ | exact sFlatL (allF Done.frz) | exact sUp0 | exact sK0 | exact sLenM | refine And.intro ?_ ?_ | rfl)
  · intro i hi
    repeat' (first | refine And.intro ?_ ?_ | exact tf | exact ft | refine tt ?_ | refine ff ?_ | exact ⟨trivial⟩ | exact sAll rfl | exact sF1 rfl | exact sBld (by repeat' (first | exact trivial | rfl | exact Nat.le_of_ble_eq_true rfl | refine And.intro ?_ ?_)) rfl | exact sBS (by repeat' (first | exact trivial | rfl | exact Nat.le_of_ble_eq_true rfl | refine And.intro ?_ ?_)) rfl rfl rfl rfl | exact sBSF (by repeat' (first | exact trivial | rfl | exact Nat.le_of_ble_eq_true rfl | refine And.intro ?_ ?_)) rfl rfl rfl rfl | exact sLe rfl | exact Chk.mk (by kernel_rfl) | exact ⟨Chk.mk (by kernel_rfl)⟩ | exact sLeEq rfl rfl | refine fun h => ?_)
    · have hl : i < xs.length := by have := of_decide_eq_true h; omega
      have hct := ctL_bdt (i := i) (M := 4) (by decide) hbd
      have hce := hbd _ (getD_mem hl)
      have hct1 := ctL_take (ct := (ctK 4)) hl
      have hMb : (xs.length : Int) * 4 ≤ 10000000000000000 := by omega
      have hget : (labR true B 0 ((mkUp mkDone (ctK 4) xs k i).map Done.cells))[i]? = some (labRow true (B i) 0 (Done.cells (xs.getD i default))) := lab_map_get (mkUp_get hl)
      have hlr : i < (labR true B 0 ((mkUp mkDone (ctK 4) xs k i).map Done.cells)).length := by rw [labR_len, List.length_map, mkUp_len]; exact hl
      have hl2 : i < ((mkUp mkDone (ctK 4) xs k i).map Done.cells).length := by rw [List.length_map, mkUp_len]; exact hl
      have hn : xs.length = (labR true B 0 ((mkUp mkDone (ctK 4) xs k i).map Done.cells)).length := by rw [labR_len, List.length_map, mkUp_len]
      have hfl : ∀ r ∈ (labR true B 0 ((mkUp mkDone (ctK 4) xs k i).map Done.cells)), ∀ c ∈ r, c.flat = true := lab_flat (allF Done.frz)
      have hup := mkUp_set (f := mkDone) (ct := (ctK 4)) (k := k) hl
      have hkf : k + ctL (ctK 4) (xs.take (i + 1)) = k + ctL (ctK 4) (xs.take i) + (ctK 4) (xs.getD i default) := by omega
      generalize hkk : k + ctL (ctK 4) (xs.take i) = kk at *
      generalize hxx : xs.getD i default = x at *
      have hcx : (ctK 4) x = 4 := rfl
      rw [hcx] at hkf hce
      refine W.sub ⟨43, 1, [(0, .one (.ref 0 0 xs.length)), (1, oi (kk)), (5, oi i)], [(0, .arr ((labR true B 0 ((mkUp mkDone (ctK 4) xs k i).map Done.cells)).set i [i6 x.q.a, i6 x.q.b, i6 x.code, i6 x.val]))]⟩ [] ?_ ?_
      · repeat' (first | exact trivial | exact Side.mk rfl | exact Chk.mk (by kernel_rfl) | exact ⟨Chk.mk (by kernel_rfl)⟩ | exact sSet0 hget | exact sFlatN hfl rfl | exact ⟨rfl⟩ | refine And.intro ?_ ?_ | rfl)
      refine W.go [(800006, .row [])] TTok hmo ?_
      repeat' (first | refine And.intro ?_ ?_ | exact tf | exact ft | refine tt ?_ | refine ff ?_ | exact ⟨trivial⟩ | exact sAll rfl | exact sF1 rfl | exact sBld (by repeat' (first | exact trivial | rfl | exact Nat.le_of_ble_eq_true rfl | refine And.intro ?_ ?_)) rfl | exact sBS (by repeat' (first | exact trivial | rfl | exact Nat.le_of_ble_eq_true rfl | refine And.intro ?_ ?_)) rfl rfl rfl rfl | exact sBSF (by repeat' (first | exact trivial | rfl | exact Nat.le_of_ble_eq_true rfl | refine And.intro ?_ ?_)) rfl rfl rfl rfl | exact sLe rfl | exact Chk.mk (by kernel_rfl) | exact ⟨Chk.mk (by kernel_rfl)⟩ | exact sLeEq rfl rfl | refine fun h => ?_)
      all_goals try (exact sIxN hlr rfl hn rfl)
      all_goals try (exact sStN hlr (by simp) rfl rfl)
      all_goals try (exact fun hq => absurd hq (by decide))
      all_goals try (exact ⟨fun hq => absurd hq (by decide)⟩)
      refine W.sub ⟨43, 1, [(0, .one (.ref 0 0 xs.length)), (1, oi (kk + 1)), (5, oi i)], [(0, .arr ((labR true B 0 ((mkUp mkDone (ctK 4) xs k i).map Done.cells)).set i [i6 (kk), i6 x.q.b, i6 x.code, i6 x.val]))]⟩ [] ?_ ?_
      · repeat' (first | exact trivial | exact Side.mk rfl | exact Chk.mk (by kernel_rfl) | exact ⟨Chk.mk (by kernel_rfl)⟩ | exact sSetN hlr (by simp) rfl | exact sFlatN hfl rfl | exact sWrap (by omega) (by omega) (by omega) | refine And.intro ?_ ?_ | rfl)
      refine W.go [(800008, .row [])] TTok hmo ?_
      repeat' (first | refine And.intro ?_ ?_ | exact tf | exact ft | refine tt ?_ | refine ff ?_ | exact ⟨trivial⟩ | exact sAll rfl | exact sF1 rfl | exact sBld (by repeat' (first | exact trivial | rfl | exact Nat.le_of_ble_eq_true rfl | refine And.intro ?_ ?_)) rfl | exact sBS (by repeat' (first | exact trivial | rfl | exact Nat.le_of_ble_eq_true rfl | refine And.intro ?_ ?_)) rfl rfl rfl rfl | exact sBSF (by repeat' (first | exact trivial | rfl | exact Nat.le_of_ble_eq_true rfl | refine And.intro ?_ ?_)) rfl rfl rfl rfl | exact sLe rfl | exact Chk.mk (by kernel_rfl) | exact ⟨Chk.mk (by kernel_rfl)⟩ | exact sLeEq rfl rfl | refine fun h => ?_)
      all_goals try (exact sIxN hlr rfl hn rfl)
      all_goals try (exact sStN hlr (by simp) rfl rfl)
      all_goals try (exact fun hq => absurd hq (by decide))
      all_goals try (exact ⟨fun hq => absurd hq (by decide)⟩)
      refine W.sub ⟨43, 1, [(0, .one (.ref 0 0 xs.length)), (1, oi (kk + 2)), (5, oi i)], [(0, .arr ((labR true B 0 ((mkUp mkDone (ctK 4) xs k i).map Done.cells)).set i [i6 (kk), i6 (kk + 1), i6 x.code, i6 x.val]))]⟩ [] ?_ ?_
      · repeat' (first | exact trivial | exact Side.mk rfl | exact Chk.mk (by kernel_rfl) | exact ⟨Chk.mk (by kernel_rfl)⟩ | exact sSetN hlr (by simp) rfl | exact sFlatN hfl rfl | exact sWrap (by omega) (by omega) (by omega) | refine And.intro ?_ ?_ | rfl)
      refine W.go [(800010, .row [])] TTok hmo ?_
      repeat' (first | refine And.intro ?_ ?_ | exact tf | exact ft | refine tt ?_ | refine ff ?_ | exact ⟨trivial⟩ | exact sAll rfl | exact sF1 rfl | exact sBld (by repeat' (first | exact trivial | rfl | exact Nat.le_of_ble_eq_true rfl | refine And.intro ?_ ?_)) rfl | exact sBS (by repeat' (first | exact trivial | rfl | exact Nat.le_of_ble_eq_true rfl | refine And.intro ?_ ?_)) rfl rfl rfl rfl | exact sBSF (by repeat' (first | exact trivial | rfl | exact Nat.le_of_ble_eq_true rfl | refine And.intro ?_ ?_)) rfl rfl rfl rfl | exact sLe rfl | exact Chk.mk (by kernel_rfl) | exact ⟨Chk.mk (by kernel_rfl)⟩ | exact sLeEq rfl rfl | refine fun h => ?_)
      all_goals try (exact sIxN hlr rfl hn rfl)
      all_goals try (exact sStN hlr (by simp) rfl rfl)
      all_goals try (exact fun hq => absurd hq (by decide))
      all_goals try (exact ⟨fun hq => absurd hq (by decide)⟩)
      refine W.sub ⟨43, 1, [(0, .one (.ref 0 0 xs.length)), (1, oi (kk + 3)), (5, oi i)], [(0, .arr ((labR true B 0 ((mkUp mkDone (ctK 4) xs k i).map Done.cells)).set i [i6 (kk), i6 (kk + 1), i6 (kk + 2), i6 x.val]))]⟩ [] ?_ ?_
      · repeat' (first | exact trivial | exact Side.mk rfl | exact Chk.mk (by kernel_rfl) | exact ⟨Chk.mk (by kernel_rfl)⟩ | exact sSetN hlr (by simp) rfl | exact sFlatN hfl rfl | exact sWrap (by omega) (by omega) (by omega) | refine And.intro ?_ ?_ | rfl)
      refine W.go [] TTok hmo ?_
      repeat' (first | refine And.intro ?_ ?_ | exact tf | exact ft | refine tt ?_ | refine ff ?_ | exact ⟨trivial⟩ | exact sAll rfl | exact sF1 rfl | exact sBld (by repeat' (first | exact trivial | rfl | exact Nat.le_of_ble_eq_true rfl | refine And.intro ?_ ?_)) rfl | exact sBS (by repeat' (first | exact trivial | rfl | exact Nat.le_of_ble_eq_true rfl | refine And.intro ?_ ?_)) rfl rfl rfl rfl | exact sBSF (by repeat' (first | exact trivial | rfl | exact Nat.le_of_ble_eq_true rfl | refine And.intro ?_ ?_)) rfl rfl rfl rfl | exact sLe rfl | exact Chk.mk (by kernel_rfl) | exact ⟨Chk.mk (by kernel_rfl)⟩ | exact sLeEq rfl rfl | refine fun h => ?_)
      all_goals try (exact sIxN hlr rfl hn rfl)
      all_goals try (exact sStN hlr (by simp) rfl rfl)
      all_goals try (exact fun hq => absurd hq (by decide))
      all_goals try (exact ⟨fun hq => absurd hq (by decide)⟩)
      refine ⟨i + 1, [], by omega, by omega, ?_⟩
      repeat' (first | exact trivial | exact Side.mk rfl | exact Chk.mk (by kernel_rfl) | exact ⟨Chk.mk (by kernel_rfl)⟩ | exact sFlatL (allF Done.frz) | exact ⟨(congrArg (fun q => labR true B 0 (q.map Done.cells)) hup.symm).trans ((lab_map_set (x := mkDone x kk)).symm.trans (sSetN (r' := labRow true (B i) 0 (Done.cells (mkDone x kk))) hlr (by simp) rfl).h)⟩ | exact sWrap (by omega) (by omega) (by omega) | exact ⟨by omega⟩ | exact sWrap (by omega) (by omega) (by omega) | refine And.intro ?_ ?_ | rfl)
    all_goals (have hle : xs.length ≤ i := by have := of_decide_eq_false h; omega)
    all_goals first | exact ⟨⟨trivial, trivial⟩⟩ | exact sKE hle | exact sUpE hle | exact ⟨likeR_map (mkL_len _ _).symm fun _ _ => by repeat' constructor⟩

theorem h_heldBoxS (xs : List Two) (k : Int) (hk0 : 0 ≤ k) (hk1 : k ≤ 4000000000000000000) (hx : xs.length ≤ lim)  : Pure PP false 63 [.one (.fz ((mkL mkTwo (ctK 2) xs k).map Two.cells)), oi k] (oi (k + ctL (ctK 2) xs)) := by
  have hx0 : xs.length ≤ 1048576 := hx
  have hbd : ∀ x ∈ xs, 0 ≤ (ctK 2) x ∧ (ctK 2) x ≤ 2 := fun _ _ => ⟨by simp [ctK], by simp [ctK]⟩
  refine Pure.vc [] TTok hmo Go.Proofs.Tryz.func63 (by kernel_rfl) rfl (by kernel_rfl) ?_
  repeat' (first | refine And.intro ?_ ?_ | exact tf | exact ft | refine tt ?_ | refine ff ?_ | exact ⟨trivial⟩ | exact sAll rfl | exact sF1 rfl | exact sBld (by repeat' (first | exact trivial | rfl | exact Nat.le_of_ble_eq_true rfl | refine And.intro ?_ ?_)) rfl | exact sBS (by repeat' (first | exact trivial | rfl | exact Nat.le_of_ble_eq_true rfl | refine And.intro ?_ ?_)) rfl rfl rfl rfl | exact sBSF (by repeat' (first | exact trivial | rfl | exact Nat.le_of_ble_eq_true rfl | refine And.intro ?_ ?_)) rfl rfl rfl rfl | exact sLe rfl | exact Chk.mk (by kernel_rfl) | exact ⟨Chk.mk (by kernel_rfl)⟩ | exact sLeEq rfl rfl | refine fun h => ?_)
  refine W.loopC (D := Nat) (fun i => [(800004, .row [])]) TTok hmo (fun i => ⟨31, 0, [(0, .one (.ag ((mkL mkTwo (ctK 2) xs k).map Two.cells))), (1, oi (k + ctL (ctK 2) (xs.take i))), (5, oi i)], []⟩) (fun i => xs.length - i) (fun i => i ≤ xs.length) 0 [] (Nat.zero_le _) ?_ ?_
  · repeat' (first | exact trivial | exact Side.mk rfl | exact Chk.mk (by kernel_rfl) | exact ⟨Chk.mk (by kernel_rfl)⟩ | exact sK0 | refine And.intro ?_ ?_ | rfl)
  · intro i hi
    repeat' (first | refine And.intro ?_ ?_ | exact tf | exact ft | refine tt ?_ | refine ff ?_ | exact ⟨trivial⟩ | exact sAll rfl | exact sF1 rfl | exact sBld (by repeat' (first | exact trivial | rfl | exact Nat.le_of_ble_eq_true rfl | refine And.intro ?_ ?_)) rfl | exact sBS (by repeat' (first | exact trivial | rfl | exact Nat.le_of_ble_eq_true rfl | refine And.intro ?_ ?_)) rfl rfl rfl rfl | exact sBSF (by repeat' (first | exact trivial | rfl | exact Nat.le_of_ble_eq_true rfl | refine And.intro ?_ ?_)) rfl rfl rfl rfl | exact sLe rfl | exact Chk.mk (by kernel_rfl) | exact ⟨Chk.mk (by kernel_rfl)⟩ | exact sLeEq rfl rfl | refine fun h => ?_)
    · have hl : i < xs.length := by have := of_decide_eq_true h; rw [List.length_map, mkL_len] at this; omega
      have hct := ctL_bdt (i := i) (M := 2) (by decide) hbd
      have hce := hbd _ (getD_mem hl)
      have hct1 := ctL_take (ct := (ctK 2)) hl
      have hMb : (xs.length : Int) * 2 ≤ 10000000000000000 := by omega
      have hgt : (mkL mkTwo (ctK 2) xs k)[i]? = some (mkTwo (xs.getD i default) (k + ctL (ctK 2) (xs.take i))) := mkL_get hl
      have hkf : k + ctL (ctK 2) (xs.take (i + 1)) = k + ctL (ctK 2) (xs.take i) + (ctK 2) (xs.getD i default) := by omega
      clear h
      generalize hkk : k + ctL (ctK 2) (xs.take i) = kk at *
      generalize hxx : xs.getD i default = x at *
      have hgr : ((mkL mkTwo (ctK 2) xs k).map Two.cells)[i]? = some (Two.cells (mkTwo x kk)) := by rw [List.getElem?_map, hgt]; rfl
      have hcx : (ctK 2) x = 2 := rfl
      rw [hcx] at hkf hce
      refine W.go [(800007, .row []), (14, .row (Two.cells (mkTwo x kk)))] TTok hmo ?_
      repeat' (first | refine And.intro ?_ ?_ | exact tf | exact ft | refine tt ?_ | refine ff ?_ | exact ⟨trivial⟩ | exact sAll rfl | exact sF1 rfl | exact sBld (by repeat' (first | exact trivial | rfl | exact Nat.le_of_ble_eq_true rfl | refine And.intro ?_ ?_)) rfl | exact sBS (by repeat' (first | exact trivial | rfl | exact Nat.le_of_ble_eq_true rfl | refine And.intro ?_ ?_)) rfl rfl rfl rfl | exact sBSF (by repeat' (first | exact trivial | rfl | exact Nat.le_of_ble_eq_true rfl | refine And.intro ?_ ?_)) rfl rfl rfl rfl | exact sLe rfl | exact Chk.mk (by kernel_rfl) | exact ⟨Chk.mk (by kernel_rfl)⟩ | exact sLeEq rfl rfl | refine fun h => ?_)
      all_goals try (exact sRow (by omega) hgr rfl)
      all_goals try (exact fun hq => absurd hq (by decide))
      all_goals try (exact ⟨fun hq => absurd hq (by decide)⟩)
      all_goals try (exfalso; revert h; simp [mkB, mkTwo, mkEntry, mkVote]; done)
      all_goals try (exfalso; have h3 := of_decide_eq_true h; omega)
      try clear h
      refine W.sub ⟨31, 0, [(0, .one (.ag ((mkL mkTwo (ctK 2) xs k).map Two.cells))), (1, oi (kk + 1)), (5, oi i)], []⟩ [] ?_ ?_
      · repeat' (first | exact trivial | exact Side.mk rfl | exact Chk.mk (by kernel_rfl) | exact ⟨Chk.mk (by kernel_rfl)⟩ | exact sWrap (by omega) (by omega) (by omega) | exact ⟨by omega⟩ | refine And.intro ?_ ?_ | rfl)
      refine W.go [(23, .row (Two.cells (mkTwo x kk)))] TTok hmo ?_
      repeat' (first | refine And.intro ?_ ?_ | exact tf | exact ft | refine tt ?_ | refine ff ?_ | exact ⟨trivial⟩ | exact sAll rfl | exact sF1 rfl | exact sBld (by repeat' (first | exact trivial | rfl | exact Nat.le_of_ble_eq_true rfl | refine And.intro ?_ ?_)) rfl | exact sBS (by repeat' (first | exact trivial | rfl | exact Nat.le_of_ble_eq_true rfl | refine And.intro ?_ ?_)) rfl rfl rfl rfl | exact sBSF (by repeat' (first | exact trivial | rfl | exact Nat.le_of_ble_eq_true rfl | refine And.intro ?_ ?_)) rfl rfl rfl rfl | exact sLe rfl | exact Chk.mk (by kernel_rfl) | exact ⟨Chk.mk (by kernel_rfl)⟩ | exact sLeEq rfl rfl | refine fun h => ?_)
      all_goals try (exact sRow (by omega) hgr rfl)
      all_goals try (exact fun hq => absurd hq (by decide))
      all_goals try (exact ⟨fun hq => absurd hq (by decide)⟩)
      all_goals try (exfalso; revert h; simp [mkB, mkTwo, mkEntry, mkVote]; done)
      all_goals try (exfalso; have h3 := of_decide_eq_true h; omega)
      refine ⟨i + 1, [], by omega, by omega, ?_⟩
      repeat' (first | exact trivial | exact Side.mk rfl | exact Chk.mk (by kernel_rfl) | exact ⟨Chk.mk (by kernel_rfl)⟩ | exact sWrap (by omega) (by omega) (by omega) | exact ⟨by omega⟩ | refine And.intro ?_ ?_ | rfl)
    all_goals (have hle : xs.length ≤ i := by have := of_decide_eq_false h; rw [List.length_map, mkL_len] at this; omega)
    all_goals first | exact sKEo ⟨trivial, trivial⟩ hle | exact sKEo trivial hle | exact ⟨⟨trivial, trivial⟩⟩ | exact ⟨trivial⟩

theorem h_heldDoneS (xs : List Done) (k : Int) (hk0 : 0 ≤ k) (hk1 : k ≤ 4000000000000000000) (hx : xs.length ≤ lim)  : Pure PP false 64 [.one (.fz ((mkL mkDone (ctK 4) xs k).map Done.cells)), oi k] (oi (k + ctL (ctK 4) xs)) := by
  have hx0 : xs.length ≤ 1048576 := hx
  have hbd : ∀ x ∈ xs, 0 ≤ (ctK 4) x ∧ (ctK 4) x ≤ 4 := fun _ _ => ⟨by simp [ctK], by simp [ctK]⟩
  refine Pure.vc [] TTok hmo Go.Proofs.Tryz.func64 (by kernel_rfl) rfl (by kernel_rfl) ?_
  repeat' (first | refine And.intro ?_ ?_ | exact tf | exact ft | refine tt ?_ | refine ff ?_ | exact ⟨trivial⟩ | exact sAll rfl | exact sF1 rfl | exact sBld (by repeat' (first | exact trivial | rfl | exact Nat.le_of_ble_eq_true rfl | refine And.intro ?_ ?_)) rfl | exact sBS (by repeat' (first | exact trivial | rfl | exact Nat.le_of_ble_eq_true rfl | refine And.intro ?_ ?_)) rfl rfl rfl rfl | exact sBSF (by repeat' (first | exact trivial | rfl | exact Nat.le_of_ble_eq_true rfl | refine And.intro ?_ ?_)) rfl rfl rfl rfl | exact sLe rfl | exact Chk.mk (by kernel_rfl) | exact ⟨Chk.mk (by kernel_rfl)⟩ | exact sLeEq rfl rfl | refine fun h => ?_)
  refine W.loopC (D := Nat) (fun i => [(800004, .row [])]) TTok hmo (fun i => ⟨51, 0, [(0, .one (.ag ((mkL mkDone (ctK 4) xs k).map Done.cells))), (1, oi (k + ctL (ctK 4) (xs.take i))), (5, oi i)], []⟩) (fun i => xs.length - i) (fun i => i ≤ xs.length) 0 [] (Nat.zero_le _) ?_ ?_
  · repeat' (first | exact trivial | exact Side.mk rfl | exact Chk.mk (by kernel_rfl) | exact ⟨Chk.mk (by kernel_rfl)⟩ | exact sK0 | refine And.intro ?_ ?_ | rfl)
  · intro i hi
    repeat' (first | refine And.intro ?_ ?_ | exact tf | exact ft | refine tt ?_ | refine ff ?_ | exact ⟨trivial⟩ | exact sAll rfl | exact sF1 rfl | exact sBld (by repeat' (first | exact trivial | rfl | exact Nat.le_of_ble_eq_true rfl | refine And.intro ?_ ?_)) rfl | exact sBS (by repeat' (first | exact trivial | rfl | exact Nat.le_of_ble_eq_true rfl | refine And.intro ?_ ?_)) rfl rfl rfl rfl | exact sBSF (by repeat' (first | exact trivial | rfl | exact Nat.le_of_ble_eq_true rfl | refine And.intro ?_ ?_)) rfl rfl rfl rfl | exact sLe rfl | exact Chk.mk (by kernel_rfl) | exact ⟨Chk.mk (by kernel_rfl)⟩ | exact sLeEq rfl rfl | refine fun h => ?_)
    · have hl : i < xs.length := by have := of_decide_eq_true h; rw [List.length_map, mkL_len] at this; omega
      have hct := ctL_bdt (i := i) (M := 4) (by decide) hbd
      have hce := hbd _ (getD_mem hl)
      have hct1 := ctL_take (ct := (ctK 4)) hl
      have hMb : (xs.length : Int) * 4 ≤ 10000000000000000 := by omega
      have hgt : (mkL mkDone (ctK 4) xs k)[i]? = some (mkDone (xs.getD i default) (k + ctL (ctK 4) (xs.take i))) := mkL_get hl
      have hkf : k + ctL (ctK 4) (xs.take (i + 1)) = k + ctL (ctK 4) (xs.take i) + (ctK 4) (xs.getD i default) := by omega
      clear h
      generalize hkk : k + ctL (ctK 4) (xs.take i) = kk at *
      generalize hxx : xs.getD i default = x at *
      have hgr : ((mkL mkDone (ctK 4) xs k).map Done.cells)[i]? = some (Done.cells (mkDone x kk)) := by rw [List.getElem?_map, hgt]; rfl
      have hcx : (ctK 4) x = 4 := rfl
      rw [hcx] at hkf hce
      refine W.go [(800007, .row []), (14, .row (Done.cells (mkDone x kk)))] TTok hmo ?_
      repeat' (first | refine And.intro ?_ ?_ | exact tf | exact ft | refine tt ?_ | refine ff ?_ | exact ⟨trivial⟩ | exact sAll rfl | exact sF1 rfl | exact sBld (by repeat' (first | exact trivial | rfl | exact Nat.le_of_ble_eq_true rfl | refine And.intro ?_ ?_)) rfl | exact sBS (by repeat' (first | exact trivial | rfl | exact Nat.le_of_ble_eq_true rfl | refine And.intro ?_ ?_)) rfl rfl rfl rfl | exact sBSF (by repeat' (first | exact trivial | rfl | exact Nat.le_of_ble_eq_true rfl | refine And.intro ?_ ?_)) rfl rfl rfl rfl | exact sLe rfl | exact Chk.mk (by kernel_rfl) | exact ⟨Chk.mk (by kernel_rfl)⟩ | exact sLeEq rfl rfl | refine fun h => ?_)
      all_goals try (exact sRow (by omega) hgr rfl)
      all_goals try (exact fun hq => absurd hq (by decide))
      all_goals try (exact ⟨fun hq => absurd hq (by decide)⟩)
      all_goals try (exfalso; revert h; simp [mkB, mkDone, mkEntry, mkVote]; done)
      all_goals try (exfalso; have h3 := of_decide_eq_true h; omega)
      try clear h
      refine W.sub ⟨51, 0, [(0, .one (.ag ((mkL mkDone (ctK 4) xs k).map Done.cells))), (1, oi (kk + 1)), (5, oi i)], []⟩ [] ?_ ?_
      · repeat' (first | exact trivial | exact Side.mk rfl | exact Chk.mk (by kernel_rfl) | exact ⟨Chk.mk (by kernel_rfl)⟩ | exact sWrap (by omega) (by omega) (by omega) | exact ⟨by omega⟩ | refine And.intro ?_ ?_ | rfl)
      refine W.go [(800010, .row []), (24, .row (Done.cells (mkDone x kk)))] TTok hmo ?_
      repeat' (first | refine And.intro ?_ ?_ | exact tf | exact ft | refine tt ?_ | refine ff ?_ | exact ⟨trivial⟩ | exact sAll rfl | exact sF1 rfl | exact sBld (by repeat' (first | exact trivial | rfl | exact Nat.le_of_ble_eq_true rfl | refine And.intro ?_ ?_)) rfl | exact sBS (by repeat' (first | exact trivial | rfl | exact Nat.le_of_ble_eq_true rfl | refine And.intro ?_ ?_)) rfl rfl rfl rfl | exact sBSF (by repeat' (first | exact trivial | rfl | exact Nat.le_of_ble_eq_true rfl | refine And.intro ?_ ?_)) rfl rfl rfl rfl | exact sLe rfl | exact Chk.mk (by kernel_rfl) | exact ⟨Chk.mk (by kernel_rfl)⟩ | exact sLeEq rfl rfl | refine fun h => ?_)
      all_goals try (exact sRow (by omega) hgr rfl)
      all_goals try (exact fun hq => absurd hq (by decide))
      all_goals try (exact ⟨fun hq => absurd hq (by decide)⟩)
      all_goals try (exfalso; revert h; simp [mkB, mkDone, mkEntry, mkVote]; done)
      all_goals try (exfalso; have h3 := of_decide_eq_true h; omega)
      try clear h
      refine W.sub ⟨51, 0, [(0, .one (.ag ((mkL mkDone (ctK 4) xs k).map Done.cells))), (1, oi (kk + 2)), (5, oi i)], []⟩ [] ?_ ?_
      · repeat' (first | exact trivial | exact Side.mk rfl | exact Chk.mk (by kernel_rfl) | exact ⟨Chk.mk (by kernel_rfl)⟩ | exact sWrap (by omega) (by omega) (by omega) | exact ⟨by omega⟩ | refine And.intro ?_ ?_ | rfl)
      refine W.go [(800013, .row []), (34, .row (Done.cells (mkDone x kk)))] TTok hmo ?_
      repeat' (first | refine And.intro ?_ ?_ | exact tf | exact ft | refine tt ?_ | refine ff ?_ | exact ⟨trivial⟩ | exact sAll rfl | exact sF1 rfl | exact sBld (by repeat' (first | exact trivial | rfl | exact Nat.le_of_ble_eq_true rfl | refine And.intro ?_ ?_)) rfl | exact sBS (by repeat' (first | exact trivial | rfl | exact Nat.le_of_ble_eq_true rfl | refine And.intro ?_ ?_)) rfl rfl rfl rfl | exact sBSF (by repeat' (first | exact trivial | rfl | exact Nat.le_of_ble_eq_true rfl | refine And.intro ?_ ?_)) rfl rfl rfl rfl | exact sLe rfl | exact Chk.mk (by kernel_rfl) | exact ⟨Chk.mk (by kernel_rfl)⟩ | exact sLeEq rfl rfl | refine fun h => ?_)
      all_goals try (exact sRow (by omega) hgr rfl)
      all_goals try (exact fun hq => absurd hq (by decide))
      all_goals try (exact ⟨fun hq => absurd hq (by decide)⟩)
      all_goals try (exfalso; revert h; simp [mkB, mkDone, mkEntry, mkVote]; done)
      all_goals try (exfalso; have h3 := of_decide_eq_true h; omega)
      try clear h
      refine W.sub ⟨51, 0, [(0, .one (.ag ((mkL mkDone (ctK 4) xs k).map Done.cells))), (1, oi (kk + 3)), (5, oi i)], []⟩ [] ?_ ?_
      · repeat' (first | exact trivial | exact Side.mk rfl | exact Chk.mk (by kernel_rfl) | exact ⟨Chk.mk (by kernel_rfl)⟩ | exact sWrap (by omega) (by omega) (by omega) | exact ⟨by omega⟩ | refine And.intro ?_ ?_ | rfl)
      refine W.go [(43, .row (Done.cells (mkDone x kk)))] TTok hmo ?_
      repeat' (first | refine And.intro ?_ ?_ | exact tf | exact ft | refine tt ?_ | refine ff ?_ | exact ⟨trivial⟩ | exact sAll rfl | exact sF1 rfl | exact sBld (by repeat' (first | exact trivial | rfl | exact Nat.le_of_ble_eq_true rfl | refine And.intro ?_ ?_)) rfl | exact sBS (by repeat' (first | exact trivial | rfl | exact Nat.le_of_ble_eq_true rfl | refine And.intro ?_ ?_)) rfl rfl rfl rfl | exact sBSF (by repeat' (first | exact trivial | rfl | exact Nat.le_of_ble_eq_true rfl | refine And.intro ?_ ?_)) rfl rfl rfl rfl | exact sLe rfl | exact Chk.mk (by kernel_rfl) | exact ⟨Chk.mk (by kernel_rfl)⟩ | exact sLeEq rfl rfl | refine fun h => ?_)
      all_goals try (exact sRow (by omega) hgr rfl)
      all_goals try (exact fun hq => absurd hq (by decide))
      all_goals try (exact ⟨fun hq => absurd hq (by decide)⟩)
      all_goals try (exfalso; revert h; simp [mkB, mkDone, mkEntry, mkVote]; done)
      all_goals try (exfalso; have h3 := of_decide_eq_true h; omega)
      refine ⟨i + 1, [], by omega, by omega, ?_⟩
      repeat' (first | exact trivial | exact Side.mk rfl | exact Chk.mk (by kernel_rfl) | exact ⟨Chk.mk (by kernel_rfl)⟩ | exact sWrap (by omega) (by omega) (by omega) | exact ⟨by omega⟩ | refine And.intro ?_ ?_ | rfl)
    all_goals (have hle : xs.length ≤ i := by have := of_decide_eq_false h; rw [List.length_map, mkL_len] at this; omega)
    all_goals first | exact sKEo ⟨trivial, trivial⟩ hle | exact sKEo trivial hle | exact ⟨⟨trivial, trivial⟩⟩ | exact ⟨trivial⟩

theorem k_markState (x : St) (k : Int) (hk0 : 0 ≤ k) (hk1 : k ≤ 2000000000000000000) (hx : x.ok lim) : TMark PP 16 (.agg x.cells) k (.agg (mkSt x k).cells) (k + 2 * (x.boxes.length : Int) + 4 * (x.dones.length : Int)) := by
  have hb : x.boxes.length ≤ 1048576 := hx.1
  have hd : x.dones.length ≤ 1048576 := hx.2
  refine TMark.vcS (fun B => [(800001, .row [])]) TTok hmo Go.Proofs.Tryz.func16 (by kernel_rfl) rfl (by kernel_rfl) rfl (fun B hB => ?_)
  repeat' (first | refine And.intro ?_ ?_ | exact tf | exact ft | refine tt ?_ | refine ff ?_ | exact ⟨trivial⟩ | exact sAll rfl | exact sF1 rfl | exact sBld (by repeat' (first | exact trivial | rfl | exact Nat.le_of_ble_eq_true rfl | refine And.intro ?_ ?_)) rfl | exact sBS (by repeat' (first | exact trivial | rfl | exact Nat.le_of_ble_eq_true rfl | refine And.intro ?_ ?_)) rfl rfl rfl rfl | exact sBSF (by repeat' (first | exact trivial | rfl | exact Nat.le_of_ble_eq_true rfl | refine And.intro ?_ ?_)) rfl rfl rfl rfl | exact sLe rfl | exact Chk.mk (by kernel_rfl) | exact ⟨Chk.mk (by kernel_rfl)⟩ | exact sLeEq rfl rfl | refine fun h => ?_)
  refine W.sub ⟨14, 1, [(0, .agg [i6 x.at_, .tr true (B 1).B (B 1).u (x.boxes.map Two.cells), .tr true (B 2).B (B 2).u (x.dones.map Done.cells)]), (1, oi k), (2, .one (.ptr 0 0 0))], [(0, .box [i6 x.at_, .tr true (B 1).B (B 1).u (x.boxes.map Two.cells), .tr true (B 2).B (B 2).u (x.dones.map Done.cells)])]⟩ [] ?_ ?_
  · repeat' (first | exact trivial | exact Side.mk rfl | exact Chk.mk (by kernel_rfl) | exact ⟨Chk.mk (by kernel_rfl)⟩ | refine And.intro ?_ ?_ | rfl)
  have q1 := k_markBoxS x.boxes (k) (by omega) (by omega) hx.1
  have q2 := tmark_eq (k2 := k + 2 * (x.boxes.length : Int)) q1 (by have := ctTwos x.boxes; omega)
  refine W.go [(800002, .row []), (8, .mark (fun _ _ => (.one (.fz ((mkTwos x.boxes (k)).map Two.cells)), k + 2 * (x.boxes.length : Int))) [2] [(0, [(1, 0)])] [0] [(0, 0, 1)])] TTok hmo ?_
  repeat' (first | refine And.intro ?_ ?_ | exact tf | exact ft | refine tt ?_ | refine ff ?_ | exact ⟨trivial⟩ | exact sAll rfl | exact sF1 rfl | exact sBld (by repeat' (first | exact trivial | rfl | exact Nat.le_of_ble_eq_true rfl | refine And.intro ?_ ?_)) rfl | exact sBS (by repeat' (first | exact trivial | rfl | exact Nat.le_of_ble_eq_true rfl | refine And.intro ?_ ?_)) rfl rfl rfl rfl | exact sBSF (by repeat' (first | exact trivial | rfl | exact Nat.le_of_ble_eq_true rfl | refine And.intro ?_ ?_)) rfl rfl rfl rfl | exact sLe rfl | exact Chk.mk (by kernel_rfl) | exact ⟨Chk.mk (by kernel_rfl)⟩ | exact sLeEq rfl rfl | refine fun h => ?_)
  all_goals try (exact ⟨apart_one⟩)
  all_goals try (exact Side.mk q2)
  all_goals try (exact trivial)
  all_goals try (exact Side.mk (.ptr _ _ _))
  all_goals try (repeat' (first | exact trivial | exact Side.mk (.sc _) | exact Side.mk (.mk _ _ _ _ (List.Mem.head _)) | exact Side.mk (.tr _ _ _ _ fun y h1 h2 => absurd (hB _ _ y h1 h2) (by decide)) | refine And.intro ?_ ?_); done)
  refine W.sub ⟨14, 1, [(0, .agg [i6 x.at_, .tr true (B 1).B (B 1).u ((mkTwos x.boxes (k)).map Two.cells), .tr true (B 2).B (B 2).u (x.dones.map Done.cells)]), (1, oi (k + 2 * (x.boxes.length : Int))), (2, .one (.ptr 0 0 0))], [(0, .box [i6 x.at_, .tr true (B 1).B (B 1).u ((mkTwos x.boxes (k)).map Two.cells), .tr true (B 2).B (B 2).u (x.dones.map Done.cells)])]⟩ [] ?_ ?_
  · repeat' (first | exact trivial | exact Side.mk rfl | exact Chk.mk (by kernel_rfl) | exact ⟨Chk.mk (by kernel_rfl)⟩ | exact ⟨by omega⟩ | refine And.intro ?_ ?_ | rfl)
  have q1 := k_markDoneS x.dones (k + 2 * (x.boxes.length : Int)) (by omega) (by omega) hx.2
  have q2 := tmark_eq (k2 := k + 2 * (x.boxes.length : Int) + 4 * (x.dones.length : Int)) q1 (by have := ctL_const (n := 4) x.dones; omega)
  refine W.go [(12, .mark (fun _ _ => (.one (.fz ((mkDones x.dones (k + 2 * (x.boxes.length : Int))).map Done.cells)), k + 2 * (x.boxes.length : Int) + 4 * (x.dones.length : Int))) [2] [(0, [(2, 0)])] [0] [(0, 0, 2)])] TTok hmo ?_
  repeat' (first | refine And.intro ?_ ?_ | exact tf | exact ft | refine tt ?_ | refine ff ?_ | exact ⟨trivial⟩ | exact sAll rfl | exact sF1 rfl | exact sBld (by repeat' (first | exact trivial | rfl | exact Nat.le_of_ble_eq_true rfl | refine And.intro ?_ ?_)) rfl | exact sBS (by repeat' (first | exact trivial | rfl | exact Nat.le_of_ble_eq_true rfl | refine And.intro ?_ ?_)) rfl rfl rfl rfl | exact sBSF (by repeat' (first | exact trivial | rfl | exact Nat.le_of_ble_eq_true rfl | refine And.intro ?_ ?_)) rfl rfl rfl rfl | exact sLe rfl | exact Chk.mk (by kernel_rfl) | exact ⟨Chk.mk (by kernel_rfl)⟩ | exact sLeEq rfl rfl | refine fun h => ?_)
  all_goals try (exact ⟨apart_one⟩)
  all_goals try (exact Side.mk q2)
  all_goals try (exact trivial)
  all_goals try (exact Side.mk (.ptr _ _ _))
  all_goals try (repeat' (first | exact trivial | exact Side.mk (.sc _) | exact Side.mk (.mk _ _ _ _ (List.Mem.head _)) | exact Side.mk (.tr _ _ _ _ fun y h1 h2 => absurd (hB _ _ y h1 h2) (by decide)) | refine And.intro ?_ ?_); done)
  all_goals first | exact ⟨⟨trivial, trivial⟩⟩ | exact ⟨rfl⟩ | exact ⟨trivial⟩ | exact ⟨by repeat' constructor⟩

theorem h_heldState (x : St) (k : Int) (hk0 : 0 ≤ k) (hk1 : k ≤ 2000000000000000000) (hx : x.ok lim) : Pure PP false 17 [.agg (mkSt x k).cells, oi k] (oi (k + 2 * (x.boxes.length : Int) + 4 * (x.dones.length : Int))) := by
  have hb : x.boxes.length ≤ 1048576 := hx.1
  have hd : x.dones.length ≤ 1048576 := hx.2
  have q0 := pure_eq (k2 := k + 2 * (x.boxes.length : Int)) (h_heldBoxS x.boxes k (by omega) (by omega) hx.1) (by have := ctTwos x.boxes; omega)
  have q1 := pure_eq (k2 := k + 2 * (x.boxes.length : Int) + 4 * (x.dones.length : Int)) (h_heldDoneS x.dones (k + 2 * (x.boxes.length : Int)) (by omega) (by omega) hx.2) (by have := ctL_const (n := 4) x.dones; omega)
  refine Pure.vc [(8, .res (oi (k + 2 * (x.boxes.length : Int)))), (14, .res (oi (k + 2 * (x.boxes.length : Int) + 4 * (x.dones.length : Int))))] TTok hmo Go.Proofs.Tryz.func17 (by kernel_rfl) rfl (by kernel_rfl) ?_
  repeat' (first | refine And.intro ?_ ?_ | exact tf | exact ft | refine tt ?_ | refine ff ?_ | exact ⟨trivial⟩ | exact sAll rfl | exact sF1 rfl | exact sBld (by repeat' (first | exact trivial | rfl | exact Nat.le_of_ble_eq_true rfl | refine And.intro ?_ ?_)) rfl | exact sBS (by repeat' (first | exact trivial | rfl | exact Nat.le_of_ble_eq_true rfl | refine And.intro ?_ ?_)) rfl rfl rfl rfl | exact sBSF (by repeat' (first | exact trivial | rfl | exact Nat.le_of_ble_eq_true rfl | refine And.intro ?_ ?_)) rfl rfl rfl rfl | exact sLe rfl | exact Chk.mk (by kernel_rfl) | exact ⟨Chk.mk (by kernel_rfl)⟩ | exact sLeEq rfl rfl | exact sAnd (by repeat' constructor) (q0) | exact sAnd (by repeat' constructor) (q1) | refine fun h => ?_)
  all_goals try (exfalso; have h3 := of_decide_eq_true h; omega)
  all_goals exact ⟨by repeat' constructor, rfl, trivial⟩

end Mg

/- What a right node is, part by part. No condition. -/
namespace Mg
open Go Go.RowKit
set_option linter.unusedVariables false
set_option linter.unusedSimpArgs false
structure Node.bd (n : Node) : Prop where
  id : inr n.id 0 2 = true
  acc : accOk n.acc = true
  known : n.known.length ≤ 40
  knownOk : ∀ e ∈ n.known, entryOk e = true
  seq : inr n.seq 0 1000 = true
  queue : n.queue.length ≤ 4
  lead : leadS n = true
  wants : wantsOk n = true
  queueOk : n.queue.all queueOk = true
theorem nodeOk_bd {n : Node} (h : nodeOk n = true) : n.bd := by
  unfold nodeOk entsOk at h
  simp only [Bool.and_eq_true, decide_eq_true_eq, List.all_eq_true] at h
  obtain ⟨⟨⟨⟨⟨⟨⟨h1, h2⟩, h3, h3'⟩, h4⟩, h5⟩, h6⟩, h7⟩, h8⟩ := h
  exact ⟨h1, h2, h3, h3', h4, by omega, h6, h7, List.all_eq_true.2 h8⟩
end Mg
