/- Flat lists, numbered. No condition. -/
import Derived.Test.YtedgmfmhilihoaaP15
import Derived.Test.YtedgmfmhilihoaaP14
namespace Mg
open Go Go.RowKit
set_option maxRecDepth 100000
set_option linter.unusedVariables false
set_option linter.unusedSimpArgs false
attribute [local irreducible] W Pure

theorem k_markReadS (xs : List Two) (k : Int) (hk0 : 0 ≤ k) (hk1 : k ≤ 4000000000000000000) (hx : xs.length ≤ lim)  : TMark PP 43 (.one (.fz (xs.map Two.cells))) k (.one (.fz ((mkL mkTwo (ctK 2) xs k).map Two.cells))) (k + ctL (ctK 2) xs) := by
  have hx0 : xs.length ≤ 1048576 := hx
  have hbd : ∀ x ∈ xs, 0 ≤ (ctK 2) x ∧ (ctK 2) x ≤ 2 := fun _ _ => ⟨by simp [ctK], by simp [ctK]⟩
  refine TMark.vcL (fun B => []) TTok hmo Go.Proofs.Try.func43 (by kernel_rfl) rfl (by kernel_rfl) (allF Two.frz) (allF Two.frz) (fun B hB => ?_)
  repeat' (first | refine And.intro ?_ ?_ | exact tf | exact ft | refine tt ?_ | refine ff ?_ | exact ⟨trivial⟩ | exact sAll rfl | exact sF1 rfl | exact sBld (by repeat' (first | exact trivial | rfl | exact Nat.le_of_ble_eq_true rfl | refine And.intro ?_ ?_)) rfl | exact sBS (by repeat' (first | exact trivial | rfl | exact Nat.le_of_ble_eq_true rfl | refine And.intro ?_ ?_)) rfl rfl rfl rfl | exact sBSF (by repeat' (first | exact trivial | rfl | exact Nat.le_of_ble_eq_true rfl | refine And.intro ?_ ?_)) rfl rfl rfl rfl | exact sLe rfl | exact Chk.mk (by kernel_rfl) | exact ⟨Chk.mk (by kernel_rfl)⟩ | exact sLeEq rfl rfl | refine fun h => ?_)
  refine W.loopC (D := Nat) (fun i => [(800004, .row [])]) TTok hmo (fun i => ⟨27, 1, [(0, .one (.ref 0 0 xs.length)), (1, oi (k + ctL (ctK 2) (xs.take i))), (5, oi i)], [(0, .arr (labR true B 0 ((mkUp mkTwo (ctK 2) xs k i).map Two.cells)))]⟩) (fun i => xs.length - i) (fun i => i ≤ xs.length) 0 [] (Nat.zero_le _) ?_ ?_
  · repeat' (first | exact trivial | exact Side.mk rfl | exact Chk.mk (by kernel_rfl) | exact ⟨Chk.mk (by kernel_rfl)⟩ | exact sFlatL (allF Two.frz) | exact sUp0 | exact sK0 | exact sLenM | refine And.intro ?_ ?_ | rfl)
  · intro i hi
    repeat' (first | refine And.intro ?_ ?_ | exact tf | exact ft | refine tt ?_ | refine ff ?_ | exact ⟨trivial⟩ | exact sAll rfl | exact sF1 rfl | exact sBld (by repeat' (first | exact trivial | rfl | exact Nat.le_of_ble_eq_true rfl | refine And.intro ?_ ?_)) rfl | exact sBS (by repeat' (first | exact trivial | rfl | exact Nat.le_of_ble_eq_true rfl | refine And.intro ?_ ?_)) rfl rfl rfl rfl | exact sBSF (by repeat' (first | exact trivial | rfl | exact Nat.le_of_ble_eq_true rfl | refine And.intro ?_ ?_)) rfl rfl rfl rfl | exact sLe rfl | exact Chk.mk (by kernel_rfl) | exact ⟨Chk.mk (by kernel_rfl)⟩ | exact sLeEq rfl rfl | refine fun h => ?_)
    · have hl : i < xs.length := by have := of_decide_eq_true h; omega
      have hct := ctL_bdt (i := i) (M := 2) (by decide) hbd
      have hce := hbd _ (getD_mem hl)
      have hct1 := ctL_take (ct := (ctK 2)) hl
      have hMb : (xs.length : Int) * 2 ≤ 10000000000000000 := by omega
      have hget : (labR true B 0 ((mkUp mkTwo (ctK 2) xs k i).map Two.cells))[i]? = some (labRow true (B i) 0 (Two.cells (xs.getD i default))) := lab_map_get (mkUp_get hl)
      have hlr : i < (labR true B 0 ((mkUp mkTwo (ctK 2) xs k i).map Two.cells)).length := by rw [labR_len, List.length_map, mkUp_len]; exact hl
      have hl2 : i < ((mkUp mkTwo (ctK 2) xs k i).map Two.cells).length := by rw [List.length_map, mkUp_len]; exact hl
      have hn : xs.length = (labR true B 0 ((mkUp mkTwo (ctK 2) xs k i).map Two.cells)).length := by rw [labR_len, List.length_map, mkUp_len]
      have hfl : ∀ r ∈ (labR true B 0 ((mkUp mkTwo (ctK 2) xs k i).map Two.cells)), ∀ c ∈ r, c.flat = true := lab_flat (allF Two.frz)
      have hup := mkUp_set (f := mkTwo) (ct := (ctK 2)) (k := k) hl
      have hkf : k + ctL (ctK 2) (xs.take (i + 1)) = k + ctL (ctK 2) (xs.take i) + (ctK 2) (xs.getD i default) := by omega
      generalize hkk : k + ctL (ctK 2) (xs.take i) = kk at *
      generalize hxx : xs.getD i default = x at *
      have hcx : (ctK 2) x = 2 := rfl
      rw [hcx] at hkf hce
      refine W.sub ⟨27, 1, [(0, .one (.ref 0 0 xs.length)), (1, oi (kk)), (5, oi i)], [(0, .arr ((labR true B 0 ((mkUp mkTwo (ctK 2) xs k i).map Two.cells)).set i [i6 x.a, i6 x.b]))]⟩ [] ?_ ?_
      · repeat' (first | exact trivial | exact Side.mk rfl | exact Chk.mk (by kernel_rfl) | exact ⟨Chk.mk (by kernel_rfl)⟩ | exact sSet0 hget | exact sFlatN hfl rfl | exact ⟨rfl⟩ | refine And.intro ?_ ?_ | rfl)
      refine W.go [(800006, .row [])] TTok hmo ?_
      repeat' (first | refine And.intro ?_ ?_ | exact tf | exact ft | refine tt ?_ | refine ff ?_ | exact ⟨trivial⟩ | exact sAll rfl | exact sF1 rfl | exact sBld (by repeat' (first | exact trivial | rfl | exact Nat.le_of_ble_eq_true rfl | refine And.intro ?_ ?_)) rfl | exact sBS (by repeat' (first | exact trivial | rfl | exact Nat.le_of_ble_eq_true rfl | refine And.intro ?_ ?_)) rfl rfl rfl rfl | exact sBSF (by repeat' (first | exact trivial | rfl | exact Nat.le_of_ble_eq_true rfl | refine And.intro ?_ ?_)) rfl rfl rfl rfl | exact sLe rfl | exact Chk.mk (by kernel_rfl) | exact ⟨Chk.mk (by kernel_rfl)⟩ | exact sLeEq rfl rfl | refine fun h => ?_)
      all_goals try (exact sIxN hlr rfl hn rfl)
      all_goals try (exact sStN hlr (by simp) rfl rfl)
      all_goals try (exact fun hq => absurd hq (by decide))
      all_goals try (exact ⟨fun hq => absurd hq (by decide)⟩)
      refine W.sub ⟨27, 1, [(0, .one (.ref 0 0 xs.length)), (1, oi (kk + 1)), (5, oi i)], [(0, .arr ((labR true B 0 ((mkUp mkTwo (ctK 2) xs k i).map Two.cells)).set i [i6 (kk), i6 x.b]))]⟩ [] ?_ ?_
      · repeat' (first | exact trivial | exact Side.mk rfl | exact Chk.mk (by kernel_rfl) | exact ⟨Chk.mk (by kernel_rfl)⟩ | exact sSetN hlr (by simp) rfl | exact sFlatN hfl rfl | exact sWrap (by omega) (by omega) (by omega) | refine And.intro ?_ ?_ | rfl)
      refine W.go [] TTok hmo ?_
      repeat' (first | refine And.intro ?_ ?_ | exact tf | exact ft | refine tt ?_ | refine ff ?_ | exact ⟨trivial⟩ | exact sAll rfl | exact sF1 rfl | exact sBld (by repeat' (first | exact trivial | rfl | exact Nat.le_of_ble_eq_true rfl | refine And.intro ?_ ?_)) rfl | exact sBS (by repeat' (first | exact trivial | rfl | exact Nat.le_of_ble_eq_true rfl | refine And.intro ?_ ?_)) rfl rfl rfl rfl | exact sBSF (by repeat' (first | exact trivial | rfl | exact Nat.le_of_ble_eq_true rfl | refine And.intro ?_ ?_)) rfl rfl rfl rfl | exact sLe rfl | exact Chk.mk (by kernel_rfl) | exact ⟨Chk.mk (by kernel_rfl)⟩ | exact sLeEq rfl rfl | refine fun h => ?_)
      all_goals try (exact sIxN hlr rfl hn rfl)
      all_goals try (exact sStN hlr (by simp) rfl rfl)
      all_goals try (exact fun hq => absurd hq (by decide))
      all_goals try (exact ⟨fun hq => absurd hq (by decide)⟩)
      refine ⟨i + 1, [], by omega, by omega, ?_⟩
      repeat' (first | exact trivial | exact Side.mk rfl | exact Chk.mk (by kernel_rfl) | exact ⟨Chk.mk (by kernel_rfl)⟩ | exact sFlatL (allF Two.frz) | exact ⟨(congrArg (fun q => labR true B 0 (q.map Two.cells)) hup.symm).trans ((lab_map_set (x := mkTwo x kk)).symm.trans (sSetN (r' := labRow true (B i) 0 (Two.cells (mkTwo x kk))) hlr (by simp) rfl).h)⟩ | exact sWrap (by omega) (by omega) (by omega) | exact ⟨by omega⟩ | exact ⟨by dsimp only; omega⟩ | exact sWrap (by omega) (by omega) (by omega) | refine And.intro ?_ ?_ | rfl)
    all_goals (have hle : xs.length ≤ i := by have := of_decide_eq_false h; omega)
    all_goals first | exact ⟨⟨trivial, trivial⟩⟩ | exact sKE hle | exact sUpE hle | exact ⟨likeR_map (mkL_len _ _).symm fun _ _ => by repeat' constructor⟩

theorem k_markPutS (xs : List Two) (k : Int) (hk0 : 0 ≤ k) (hk1 : k ≤ 4000000000000000000) (hx : xs.length ≤ lim)  : TMark PP 44 (.one (.fz (xs.map Two.cells))) k (.one (.fz ((mkL mkTwo (ctK 2) xs k).map Two.cells))) (k + ctL (ctK 2) xs) := by
  have hx0 : xs.length ≤ 1048576 := hx
  have hbd : ∀ x ∈ xs, 0 ≤ (ctK 2) x ∧ (ctK 2) x ≤ 2 := fun _ _ => ⟨by simp [ctK], by simp [ctK]⟩
  refine TMark.vcL (fun B => []) TTok hmo Go.Proofs.Try.func44 (by kernel_rfl) rfl (by kernel_rfl) (allF Two.frz) (allF Two.frz) (fun B hB => ?_)
  repeat' (first | refine And.intro ?_ ?_ | exact tf | exact ft | refine tt ?_ | refine ff ?_ | exact ⟨trivial⟩ | exact sAll rfl | exact sF1 rfl | exact sBld (by repeat' (first | exact trivial | rfl | exact Nat.le_of_ble_eq_true rfl | refine And.intro ?_ ?_)) rfl | exact sBS (by repeat' (first | exact trivial | rfl | exact Nat.le_of_ble_eq_true rfl | refine And.intro ?_ ?_)) rfl rfl rfl rfl | exact sBSF (by repeat' (first | exact trivial | rfl | exact Nat.le_of_ble_eq_true rfl | refine And.intro ?_ ?_)) rfl rfl rfl rfl | exact sLe rfl | exact Chk.mk (by kernel_rfl) | exact ⟨Chk.mk (by kernel_rfl)⟩ | exact sLeEq rfl rfl | refine fun h => ?_)
  refine W.loopC (D := Nat) (fun i => [(800004, .row [])]) TTok hmo (fun i => ⟨27, 1, [(0, .one (.ref 0 0 xs.length)), (1, oi (k + ctL (ctK 2) (xs.take i))), (5, oi i)], [(0, .arr (labR true B 0 ((mkUp mkTwo (ctK 2) xs k i).map Two.cells)))]⟩) (fun i => xs.length - i) (fun i => i ≤ xs.length) 0 [] (Nat.zero_le _) ?_ ?_
  · repeat' (first | exact trivial | exact Side.mk rfl | exact Chk.mk (by kernel_rfl) | exact ⟨Chk.mk (by kernel_rfl)⟩ | exact sFlatL (allF Two.frz) | exact sUp0 | exact sK0 | exact sLenM | refine And.intro ?_ ?_ | rfl)
  · intro i hi
    repeat' (first | refine And.intro ?_ ?_ | exact tf | exact ft | refine tt ?_ | refine ff ?_ | exact ⟨trivial⟩ | exact sAll rfl | exact sF1 rfl | exact sBld (by repeat' (first | exact trivial | rfl | exact Nat.le_of_ble_eq_true rfl | refine And.intro ?_ ?_)) rfl | exact sBS (by repeat' (first | exact trivial | rfl | exact Nat.le_of_ble_eq_true rfl | refine And.intro ?_ ?_)) rfl rfl rfl rfl | exact sBSF (by repeat' (first | exact trivial | rfl | exact Nat.le_of_ble_eq_true rfl | refine And.intro ?_ ?_)) rfl rfl rfl rfl | exact sLe rfl | exact Chk.mk (by kernel_rfl) | exact ⟨Chk.mk (by kernel_rfl)⟩ | exact sLeEq rfl rfl | refine fun h => ?_)
    · have hl : i < xs.length := by have := of_decide_eq_true h; omega
      have hct := ctL_bdt (i := i) (M := 2) (by decide) hbd
      have hce := hbd _ (getD_mem hl)
      have hct1 := ctL_take (ct := (ctK 2)) hl
      have hMb : (xs.length : Int) * 2 ≤ 10000000000000000 := by omega
      have hget : (labR true B 0 ((mkUp mkTwo (ctK 2) xs k i).map Two.cells))[i]? = some (labRow true (B i) 0 (Two.cells (xs.getD i default))) := lab_map_get (mkUp_get hl)
      have hlr : i < (labR true B 0 ((mkUp mkTwo (ctK 2) xs k i).map Two.cells)).length := by rw [labR_len, List.length_map, mkUp_len]; exact hl
      have hl2 : i < ((mkUp mkTwo (ctK 2) xs k i).map Two.cells).length := by rw [List.length_map, mkUp_len]; exact hl
      have hn : xs.length = (labR true B 0 ((mkUp mkTwo (ctK 2) xs k i).map Two.cells)).length := by rw [labR_len, List.length_map, mkUp_len]
      have hfl : ∀ r ∈ (labR true B 0 ((mkUp mkTwo (ctK 2) xs k i).map Two.cells)), ∀ c ∈ r, c.flat = true := lab_flat (allF Two.frz)
      have hup := mkUp_set (f := mkTwo) (ct := (ctK 2)) (k := k) hl
      have hkf : k + ctL (ctK 2) (xs.take (i + 1)) = k + ctL (ctK 2) (xs.take i) + (ctK 2) (xs.getD i default) := by omega
      generalize hkk : k + ctL (ctK 2) (xs.take i) = kk at *
      generalize hxx : xs.getD i default = x at *
      have hcx : (ctK 2) x = 2 := rfl
      rw [hcx] at hkf hce
      refine W.sub ⟨27, 1, [(0, .one (.ref 0 0 xs.length)), (1, oi (kk)), (5, oi i)], [(0, .arr ((labR true B 0 ((mkUp mkTwo (ctK 2) xs k i).map Two.cells)).set i [i6 x.a, i6 x.b]))]⟩ [] ?_ ?_
      · repeat' (first | exact trivial | exact Side.mk rfl | exact Chk.mk (by kernel_rfl) | exact ⟨Chk.mk (by kernel_rfl)⟩ | exact sSet0 hget | exact sFlatN hfl rfl | exact ⟨rfl⟩ | refine And.intro ?_ ?_ | rfl)
      refine W.go [(800006, .row [])] TTok hmo ?_
      repeat' (first | refine And.intro ?_ ?_ | exact tf | exact ft | refine tt ?_ | refine ff ?_ | exact ⟨trivial⟩ | exact sAll rfl | exact sF1 rfl | exact sBld (by repeat' (first | exact trivial | rfl | exact Nat.le_of_ble_eq_true rfl | refine And.intro ?_ ?_)) rfl | exact sBS (by repeat' (first | exact trivial | rfl | exact Nat.le_of_ble_eq_true rfl | refine And.intro ?_ ?_)) rfl rfl rfl rfl | exact sBSF (by repeat' (first | exact trivial | rfl | exact Nat.le_of_ble_eq_true rfl | refine And.intro ?_ ?_)) rfl rfl rfl rfl | exact sLe rfl | exact Chk.mk (by kernel_rfl) | exact ⟨Chk.mk (by kernel_rfl)⟩ | exact sLeEq rfl rfl | refine fun h => ?_)
      all_goals try (exact sIxN hlr rfl hn rfl)
      all_goals try (exact sStN hlr (by simp) rfl rfl)
      all_goals try (exact fun hq => absurd hq (by decide))
      all_goals try (exact ⟨fun hq => absurd hq (by decide)⟩)
      refine W.sub ⟨27, 1, [(0, .one (.ref 0 0 xs.length)), (1, oi (kk + 1)), (5, oi i)], [(0, .arr ((labR true B 0 ((mkUp mkTwo (ctK 2) xs k i).map Two.cells)).set i [i6 (kk), i6 x.b]))]⟩ [] ?_ ?_
      · repeat' (first | exact trivial | exact Side.mk rfl | exact Chk.mk (by kernel_rfl) | exact ⟨Chk.mk (by kernel_rfl)⟩ | exact sSetN hlr (by simp) rfl | exact sFlatN hfl rfl | exact sWrap (by omega) (by omega) (by omega) | refine And.intro ?_ ?_ | rfl)
      refine W.go [] TTok hmo ?_
      repeat' (first | refine And.intro ?_ ?_ | exact tf | exact ft | refine tt ?_ | refine ff ?_ | exact ⟨trivial⟩ | exact sAll rfl | exact sF1 rfl | exact sBld (by repeat' (first | exact trivial | rfl | exact Nat.le_of_ble_eq_true rfl | refine And.intro ?_ ?_)) rfl | exact sBS (by repeat' (first | exact trivial | rfl | exact Nat.le_of_ble_eq_true rfl | refine And.intro ?_ ?_)) rfl rfl rfl rfl | exact sBSF (by repeat' (first | exact trivial | rfl | exact Nat.le_of_ble_eq_true rfl | refine And.intro ?_ ?_)) rfl rfl rfl rfl | exact sLe rfl | exact Chk.mk (by kernel_rfl) | exact ⟨Chk.mk (by kernel_rfl)⟩ | exact sLeEq rfl rfl | refine fun h => ?_)
      all_goals try (exact sIxN hlr rfl hn rfl)
      all_goals try (exact sStN hlr (by simp) rfl rfl)
      all_goals try (exact fun hq => absurd hq (by decide))
      all_goals try (exact ⟨fun hq => absurd hq (by decide)⟩)
      refine ⟨i + 1, [], by omega, by omega, ?_⟩
      repeat' (first | exact trivial | exact Side.mk rfl | exact Chk.mk (by kernel_rfl) | exact ⟨Chk.mk (by kernel_rfl)⟩ | exact sFlatL (allF Two.frz) | exact ⟨(congrArg (fun q => labR true B 0 (q.map Two.cells)) hup.symm).trans ((lab_map_set (x := mkTwo x kk)).symm.trans (sSetN (r' := labRow true (B i) 0 (Two.cells (mkTwo x kk))) hlr (by simp) rfl).h)⟩ | exact sWrap (by omega) (by omega) (by omega) | exact ⟨by omega⟩ | exact ⟨by dsimp only; omega⟩ | exact sWrap (by omega) (by omega) (by omega) | refine And.intro ?_ ?_ | rfl)
    all_goals (have hle : xs.length ≤ i := by have := of_decide_eq_false h; omega)
    all_goals first | exact ⟨⟨trivial, trivial⟩⟩ | exact sKE hle | exact sUpE hle | exact ⟨likeR_map (mkL_len _ _).symm fun _ _ => by repeat' constructor⟩

theorem k_markInsS (xs : List Ins) (k : Int) (hk0 : 0 ≤ k) (hk1 : k ≤ 4000000000000000000) (hx : xs.length ≤ lim)  : TMark PP 60 (.one (.fz (xs.map Ins.cells))) k (.one (.fz ((mkL mkIns (ctK 4) xs k).map Ins.cells))) (k + ctL (ctK 4) xs) := by
  have hx0 : xs.length ≤ 1048576 := hx
  have hbd : ∀ x ∈ xs, 0 ≤ (ctK 4) x ∧ (ctK 4) x ≤ 4 := fun _ _ => ⟨by simp [ctK], by simp [ctK]⟩
  refine TMark.vcL (fun B => []) TTok hmo Go.Proofs.Try.func60 (by kernel_rfl) rfl (by kernel_rfl) (allF Ins.frz) (allF Ins.frz) (fun B hB => ?_)
  repeat' (first | refine And.intro ?_ ?_ | exact tf | exact ft | refine tt ?_ | refine ff ?_ | exact ⟨trivial⟩ | exact sAll rfl | exact sF1 rfl | exact sBld (by repeat' (first | exact trivial | rfl | exact Nat.le_of_ble_eq_true rfl | refine And.intro ?_ ?_)) rfl | exact sBS (by repeat' (first | exact trivial | rfl | exact Nat.le_of_ble_eq_true rfl | refine And.intro ?_ ?_)) rfl rfl rfl rfl | exact sBSF (by repeat' (first | exact trivial | rfl | exact Nat.le_of_ble_eq_true rfl | refine And.intro ?_ ?_)) rfl rfl rfl rfl | exact sLe rfl | exact Chk.mk (by kernel_rfl) | exact ⟨Chk.mk (by kernel_rfl)⟩ | exact sLeEq rfl rfl | refine fun h => ?_)
  refine W.loopC (D := Nat) (fun i => [(800004, .row [])]) TTok hmo (fun i => ⟨41, 1, [(0, .one (.ref 0 0 xs.length)), (1, oi (k + ctL (ctK 4) (xs.take i))), (5, oi i)], [(0, .arr (labR true B 0 ((mkUp mkIns (ctK 4) xs k i).map Ins.cells)))]⟩) (fun i => xs.length - i) (fun i => i ≤ xs.length) 0 [] (Nat.zero_le _) ?_ ?_
  · repeat' (first | exact trivial | exact Side.mk rfl | exact Chk.mk (by kernel_rfl) | exact ⟨Chk.mk (by kernel_rfl)⟩ | exact sFlatL (allF Ins.frz) | exact sUp0 | exact sK0 | exact sLenM | refine And.intro ?_ ?_ | rfl)
  · intro i hi
    repeat' (first | refine And.intro ?_ ?_ | exact tf | exact ft | refine tt ?_ | refine ff ?_ | exact ⟨trivial⟩ | exact sAll rfl | exact sF1 rfl | exact sBld (by repeat' (first | exact trivial | rfl | exact Nat.le_of_ble_eq_true rfl | refine And.intro ?_ ?_)) rfl | exact sBS (by repeat' (first | exact trivial | rfl | exact Nat.le_of_ble_eq_true rfl | refine And.intro ?_ ?_)) rfl rfl rfl rfl | exact sBSF (by repeat' (first | exact trivial | rfl | exact Nat.le_of_ble_eq_true rfl | refine And.intro ?_ ?_)) rfl rfl rfl rfl | exact sLe rfl | exact Chk.mk (by kernel_rfl) | exact ⟨Chk.mk (by kernel_rfl)⟩ | exact sLeEq rfl rfl | refine fun h => ?_)
    · have hl : i < xs.length := by have := of_decide_eq_true h; omega
      have hct := ctL_bdt (i := i) (M := 4) (by decide) hbd
      have hce := hbd _ (getD_mem hl)
      have hct1 := ctL_take (ct := (ctK 4)) hl
      have hMb : (xs.length : Int) * 4 ≤ 10000000000000000 := by omega
      have hget : (labR true B 0 ((mkUp mkIns (ctK 4) xs k i).map Ins.cells))[i]? = some (labRow true (B i) 0 (Ins.cells (xs.getD i default))) := lab_map_get (mkUp_get hl)
      have hlr : i < (labR true B 0 ((mkUp mkIns (ctK 4) xs k i).map Ins.cells)).length := by rw [labR_len, List.length_map, mkUp_len]; exact hl
      have hl2 : i < ((mkUp mkIns (ctK 4) xs k i).map Ins.cells).length := by rw [List.length_map, mkUp_len]; exact hl
      have hn : xs.length = (labR true B 0 ((mkUp mkIns (ctK 4) xs k i).map Ins.cells)).length := by rw [labR_len, List.length_map, mkUp_len]
      have hfl : ∀ r ∈ (labR true B 0 ((mkUp mkIns (ctK 4) xs k i).map Ins.cells)), ∀ c ∈ r, c.flat = true := lab_flat (allF Ins.frz)
      have hup := mkUp_set (f := mkIns) (ct := (ctK 4)) (k := k) hl
      have hkf : k + ctL (ctK 4) (xs.take (i + 1)) = k + ctL (ctK 4) (xs.take i) + (ctK 4) (xs.getD i default) := by omega
      generalize hkk : k + ctL (ctK 4) (xs.take i) = kk at *
      generalize hxx : xs.getD i default = x at *
      have hcx : (ctK 4) x = 4 := rfl
      rw [hcx] at hkf hce
      refine W.sub ⟨41, 1, [(0, .one (.ref 0 0 xs.length)), (1, oi (kk)), (5, oi i)], [(0, .arr ((labR true B 0 ((mkUp mkIns (ctK 4) xs k i).map Ins.cells)).set i [i6 x.kind, i6 x.a, i6 x.b, i6 x.n]))]⟩ [] ?_ ?_
      · repeat' (first | exact trivial | exact Side.mk rfl | exact Chk.mk (by kernel_rfl) | exact ⟨Chk.mk (by kernel_rfl)⟩ | exact sSet0 hget | exact sFlatN hfl rfl | exact ⟨rfl⟩ | refine And.intro ?_ ?_ | rfl)
      refine W.go [(800006, .row [])] TTok hmo ?_
      repeat' (first | refine And.intro ?_ ?_ | exact tf | exact ft | refine tt ?_ | refine ff ?_ | exact ⟨trivial⟩ | exact sAll rfl | exact sF1 rfl | exact sBld (by repeat' (first | exact trivial | rfl | exact Nat.le_of_ble_eq_true rfl | refine And.intro ?_ ?_)) rfl | exact sBS (by repeat' (first | exact trivial | rfl | exact Nat.le_of_ble_eq_true rfl | refine And.intro ?_ ?_)) rfl rfl rfl rfl | exact sBSF (by repeat' (first | exact trivial | rfl | exact Nat.le_of_ble_eq_true rfl | refine And.intro ?_ ?_)) rfl rfl rfl rfl | exact sLe rfl | exact Chk.mk (by kernel_rfl) | exact ⟨Chk.mk (by kernel_rfl)⟩ | exact sLeEq rfl rfl | refine fun h => ?_)
      all_goals try (exact sIxN hlr rfl hn rfl)
      all_goals try (exact sStN hlr (by simp) rfl rfl)
      all_goals try (exact fun hq => absurd hq (by decide))
      all_goals try (exact ⟨fun hq => absurd hq (by decide)⟩)
      refine W.sub ⟨41, 1, [(0, .one (.ref 0 0 xs.length)), (1, oi (kk + 1)), (5, oi i)], [(0, .arr ((labR true B 0 ((mkUp mkIns (ctK 4) xs k i).map Ins.cells)).set i [i6 (kk), i6 x.a, i6 x.b, i6 x.n]))]⟩ [] ?_ ?_
      · repeat' (first | exact trivial | exact Side.mk rfl | exact Chk.mk (by kernel_rfl) | exact ⟨Chk.mk (by kernel_rfl)⟩ | exact sSetN hlr (by simp) rfl | exact sFlatN hfl rfl | exact sWrap (by omega) (by omega) (by omega) | refine And.intro ?_ ?_ | rfl)
      refine W.go [(800008, .row [])] TTok hmo ?_
      repeat' (first | refine And.intro ?_ ?_ | exact tf | exact ft | refine tt ?_ | refine ff ?_ | exact ⟨trivial⟩ | exact sAll rfl | exact sF1 rfl | exact sBld (by repeat' (first | exact trivial | rfl | exact Nat.le_of_ble_eq_true rfl | refine And.intro ?_ ?_)) rfl | exact sBS (by repeat' (first | exact trivial | rfl | exact Nat.le_of_ble_eq_true rfl | refine And.intro ?_ ?_)) rfl rfl rfl rfl | exact sBSF (by repeat' (first | exact trivial | rfl | exact Nat.le_of_ble_eq_true rfl | refine And.intro ?_ ?_)) rfl rfl rfl rfl | exact sLe rfl | exact Chk.mk (by kernel_rfl) | exact ⟨Chk.mk (by kernel_rfl)⟩ | exact sLeEq rfl rfl | refine fun h => ?_)
      all_goals try (exact sIxN hlr rfl hn rfl)
      all_goals try (exact sStN hlr (by simp) rfl rfl)
      all_goals try (exact fun hq => absurd hq (by decide))
      all_goals try (exact ⟨fun hq => absurd hq (by decide)⟩)
      refine W.sub ⟨41, 1, [(0, .one (.ref 0 0 xs.length)), (1, oi (kk + 2)), (5, oi i)], [(0, .arr ((labR true B 0 ((mkUp mkIns (ctK 4) xs k i).map Ins.cells)).set i [i6 (kk), i6 (kk + 1), i6 x.b, i6 x.n]))]⟩ [] ?_ ?_
      · repeat' (first | exact trivial | exact Side.mk rfl | exact Chk.mk (by kernel_rfl) | exact ⟨Chk.mk (by kernel_rfl)⟩ | exact sSetN hlr (by simp) rfl | exact sFlatN hfl rfl | exact sWrap (by omega) (by omega) (by omega) | refine And.intro ?_ ?_ | rfl)
      refine W.go [(800010, .row [])] TTok hmo ?_
      repeat' (first | refine And.intro ?_ ?_ | exact tf | exact ft | refine tt ?_ | refine ff ?_ | exact ⟨trivial⟩ | exact sAll rfl | exact sF1 rfl | exact sBld (by repeat' (first | exact trivial | rfl | exact Nat.le_of_ble_eq_true rfl | refine And.intro ?_ ?_)) rfl | exact sBS (by repeat' (first | exact trivial | rfl | exact Nat.le_of_ble_eq_true rfl | refine And.intro ?_ ?_)) rfl rfl rfl rfl | exact sBSF (by repeat' (first | exact trivial | rfl | exact Nat.le_of_ble_eq_true rfl | refine And.intro ?_ ?_)) rfl rfl rfl rfl | exact sLe rfl | exact Chk.mk (by kernel_rfl) | exact ⟨Chk.mk (by kernel_rfl)⟩ | exact sLeEq rfl rfl | refine fun h => ?_)
      all_goals try (exact sIxN hlr rfl hn rfl)
      all_goals try (exact sStN hlr (by simp) rfl rfl)
      all_goals try (exact fun hq => absurd hq (by decide))
      all_goals try (exact ⟨fun hq => absurd hq (by decide)⟩)
      refine W.sub ⟨41, 1, [(0, .one (.ref 0 0 xs.length)), (1, oi (kk + 3)), (5, oi i)], [(0, .arr ((labR true B 0 ((mkUp mkIns (ctK 4) xs k i).map Ins.cells)).set i [i6 (kk), i6 (kk + 1), i6 (kk + 2), i6 x.n]))]⟩ [] ?_ ?_
      · repeat' (first | exact trivial | exact Side.mk rfl | exact Chk.mk (by kernel_rfl) | exact ⟨Chk.mk (by kernel_rfl)⟩ | exact sSetN hlr (by simp) rfl | exact sFlatN hfl rfl | exact sWrap (by omega) (by omega) (by omega) | refine And.intro ?_ ?_ | rfl)
      refine W.go [] TTok hmo ?_
      repeat' (first | refine And.intro ?_ ?_ | exact tf | exact ft | refine tt ?_ | refine ff ?_ | exact ⟨trivial⟩ | exact sAll rfl | exact sF1 rfl | exact sBld (by repeat' (first | exact trivial | rfl | exact Nat.le_of_ble_eq_true rfl | refine And.intro ?_ ?_)) rfl | exact sBS (by repeat' (first | exact trivial | rfl | exact Nat.le_of_ble_eq_true rfl | refine And.intro ?_ ?_)) rfl rfl rfl rfl | exact sBSF (by repeat' (first | exact trivial | rfl | exact Nat.le_of_ble_eq_true rfl | refine And.intro ?_ ?_)) rfl rfl rfl rfl | exact sLe rfl | exact Chk.mk (by kernel_rfl) | exact ⟨Chk.mk (by kernel_rfl)⟩ | exact sLeEq rfl rfl | refine fun h => ?_)
      all_goals try (exact sIxN hlr rfl hn rfl)
      all_goals try (exact sStN hlr (by simp) rfl rfl)
      all_goals try (exact fun hq => absurd hq (by decide))
      all_goals try (exact ⟨fun hq => absurd hq (by decide)⟩)
      refine ⟨i + 1, [], by omega, by omega, ?_⟩
      repeat' (first | exact trivial | exact Side.mk rfl | exact Chk.mk (by kernel_rfl) | exact ⟨Chk.mk (by kernel_rfl)⟩ | exact sFlatL (allF Ins.frz) | exact ⟨(congrArg (fun q => labR true B 0 (q.map Ins.cells)) hup.symm).trans ((lab_map_set (x := mkIns x kk)).symm.trans (sSetN (r' := labRow true (B i) 0 (Ins.cells (mkIns x kk))) hlr (by simp) rfl).h)⟩ | exact sWrap (by omega) (by omega) (by omega) | exact ⟨by omega⟩ | exact ⟨by dsimp only; omega⟩ | exact sWrap (by omega) (by omega) (by omega) | refine And.intro ?_ ?_ | rfl)
    all_goals (have hle : xs.length ≤ i := by have := of_decide_eq_false h; omega)
    all_goals first | exact ⟨⟨trivial, trivial⟩⟩ | exact sKE hle | exact sUpE hle | exact ⟨likeR_map (mkL_len _ _).symm fun _ _ => by repeat' constructor⟩

theorem k_markToldS (xs : List Told) (k : Int) (hk0 : 0 ≤ k) (hk1 : k ≤ 4000000000000000000) (hx : xs.length ≤ lim)  : TMark PP 27 (.one (.fz (xs.map Told.cells))) k (.one (.fz ((mkL mkTold (ctK 5) xs k).map Told.cells))) (k + ctL (ctK 5) xs) := by
  have hx0 : xs.length ≤ 1048576 := hx
  have hbd : ∀ x ∈ xs, 0 ≤ (ctK 5) x ∧ (ctK 5) x ≤ 5 := fun _ _ => ⟨by simp [ctK], by simp [ctK]⟩
  refine TMark.vcL (fun B => []) TTok hmo Go.Proofs.Try.func27 (by kernel_rfl) rfl (by kernel_rfl) (allF Told.frz) (allF Told.frz) (fun B hB => ?_)
  repeat' (first | refine And.intro ?_ ?_ | exact tf | exact ft | refine tt ?_ | refine ff ?_ | exact ⟨trivial⟩ | exact sAll rfl | exact sF1 rfl | exact sBld (by repeat' (first | exact trivial | rfl | exact Nat.le_of_ble_eq_true rfl | refine And.intro ?_ ?_)) rfl | exact sBS (by repeat' (first | exact trivial | rfl | exact Nat.le_of_ble_eq_true rfl | refine And.intro ?_ ?_)) rfl rfl rfl rfl | exact sBSF (by repeat' (first | exact trivial | rfl | exact Nat.le_of_ble_eq_true rfl | refine And.intro ?_ ?_)) rfl rfl rfl rfl | exact sLe rfl | exact Chk.mk (by kernel_rfl) | exact ⟨Chk.mk (by kernel_rfl)⟩ | exact sLeEq rfl rfl | refine fun h => ?_)
  refine W.loopC (D := Nat) (fun i => [(800004, .row [])]) TTok hmo (fun i => ⟨50, 1, [(0, .one (.ref 0 0 xs.length)), (1, oi (k + ctL (ctK 5) (xs.take i))), (5, oi i)], [(0, .arr (labR true B 0 ((mkUp mkTold (ctK 5) xs k i).map Told.cells)))]⟩) (fun i => xs.length - i) (fun i => i ≤ xs.length) 0 [] (Nat.zero_le _) ?_ ?_
  · repeat' (first | exact trivial | exact Side.mk rfl | exact Chk.mk (by kernel_rfl) | exact ⟨Chk.mk (by kernel_rfl)⟩ | exact sFlatL (allF Told.frz) | exact sUp0 | exact sK0 | exact sLenM | refine And.intro ?_ ?_ | rfl)
  · intro i hi
    repeat' (first | refine And.intro ?_ ?_ | exact tf | exact ft | refine tt ?_ | refine ff ?_ | exact ⟨trivial⟩ | exact sAll rfl | exact sF1 rfl | exact sBld (by repeat' (first | exact trivial | rfl | exact Nat.le_of_ble_eq_true rfl | refine And.intro ?_ ?_)) rfl | exact sBS (by repeat' (first | exact trivial | rfl | exact Nat.le_of_ble_eq_true rfl | refine And.intro ?_ ?_)) rfl rfl rfl rfl | exact sBSF (by repeat' (first | exact trivial | rfl | exact Nat.le_of_ble_eq_true rfl | refine And.intro ?_ ?_)) rfl rfl rfl rfl | exact sLe rfl | exact Chk.mk (by kernel_rfl) | exact ⟨Chk.mk (by kernel_rfl)⟩ | exact sLeEq rfl rfl | refine fun h => ?_)
    · have hl : i < xs.length := by have := of_decide_eq_true h; omega
      have hct := ctL_bdt (i := i) (M := 5) (by decide) hbd
      have hce := hbd _ (getD_mem hl)
      have hct1 := ctL_take (ct := (ctK 5)) hl
      have hMb : (xs.length : Int) * 5 ≤ 10000000000000000 := by omega
      have hget : (labR true B 0 ((mkUp mkTold (ctK 5) xs k i).map Told.cells))[i]? = some (labRow true (B i) 0 (Told.cells (xs.getD i default))) := lab_map_get (mkUp_get hl)
      have hlr : i < (labR true B 0 ((mkUp mkTold (ctK 5) xs k i).map Told.cells)).length := by rw [labR_len, List.length_map, mkUp_len]; exact hl
      have hl2 : i < ((mkUp mkTold (ctK 5) xs k i).map Told.cells).length := by rw [List.length_map, mkUp_len]; exact hl
      have hn : xs.length = (labR true B 0 ((mkUp mkTold (ctK 5) xs k i).map Told.cells)).length := by rw [labR_len, List.length_map, mkUp_len]
      have hfl : ∀ r ∈ (labR true B 0 ((mkUp mkTold (ctK 5) xs k i).map Told.cells)), ∀ c ∈ r, c.flat = true := lab_flat (allF Told.frz)
      have hup := mkUp_set (f := mkTold) (ct := (ctK 5)) (k := k) hl
      have hkf : k + ctL (ctK 5) (xs.take (i + 1)) = k + ctL (ctK 5) (xs.take i) + (ctK 5) (xs.getD i default) := by omega
      generalize hkk : k + ctL (ctK 5) (xs.take i) = kk at *
      generalize hxx : xs.getD i default = x at *
      have hcx : (ctK 5) x = 5 := rfl
      rw [hcx] at hkf hce
      refine W.sub ⟨50, 1, [(0, .one (.ref 0 0 xs.length)), (1, oi (kk)), (5, oi i)], [(0, .arr ((labR true B 0 ((mkUp mkTold (ctK 5) xs k i).map Told.cells)).set i [i6 x.node, i6 x.q.a, i6 x.q.b, i6 x.code, i6 x.val]))]⟩ [] ?_ ?_
      · repeat' (first | exact trivial | exact Side.mk rfl | exact Chk.mk (by kernel_rfl) | exact ⟨Chk.mk (by kernel_rfl)⟩ | exact sSet0 hget | exact sFlatN hfl rfl | exact ⟨rfl⟩ | refine And.intro ?_ ?_ | rfl)
      refine W.go [(800006, .row [])] TTok hmo ?_
      repeat' (first | refine And.intro ?_ ?_ | exact tf | exact ft | refine tt ?_ | refine ff ?_ | exact ⟨trivial⟩ | exact sAll rfl | exact sF1 rfl | exact sBld (by repeat' (first | exact trivial | rfl | exact Nat.le_of_ble_eq_true rfl | refine And.intro ?_ ?_)) rfl | exact sBS (by repeat' (first | exact trivial | rfl | exact Nat.le_of_ble_eq_true rfl | refine And.intro ?_ ?_)) rfl rfl rfl rfl | exact sBSF (by repeat' (first | exact trivial | rfl | exact Nat.le_of_ble_eq_true rfl | refine And.intro ?_ ?_)) rfl rfl rfl rfl | exact sLe rfl | exact Chk.mk (by kernel_rfl) | exact ⟨Chk.mk (by kernel_rfl)⟩ | exact sLeEq rfl rfl | refine fun h => ?_)
      all_goals try (exact sIxN hlr rfl hn rfl)
      all_goals try (exact sStN hlr (by simp) rfl rfl)
      all_goals try (exact fun hq => absurd hq (by decide))
      all_goals try (exact ⟨fun hq => absurd hq (by decide)⟩)
      refine W.sub ⟨50, 1, [(0, .one (.ref 0 0 xs.length)), (1, oi (kk + 1)), (5, oi i)], [(0, .arr ((labR true B 0 ((mkUp mkTold (ctK 5) xs k i).map Told.cells)).set i [i6 (kk), i6 x.q.a, i6 x.q.b, i6 x.code, i6 x.val]))]⟩ [] ?_ ?_
      · repeat' (first | exact trivial | exact Side.mk rfl | exact Chk.mk (by kernel_rfl) | exact ⟨Chk.mk (by kernel_rfl)⟩ | exact sSetN hlr (by simp) rfl | exact sFlatN hfl rfl | exact sWrap (by omega) (by omega) (by omega) | refine And.intro ?_ ?_ | rfl)
      refine W.go [(800008, .row [])] TTok hmo ?_
      repeat' (first | refine And.intro ?_ ?_ | exact tf | exact ft | refine tt ?_ | refine ff ?_ | exact ⟨trivial⟩ | exact sAll rfl | exact sF1 rfl | exact sBld (by repeat' (first | exact trivial | rfl | exact Nat.le_of_ble_eq_true rfl | refine And.intro ?_ ?_)) rfl | exact sBS (by repeat' (first | exact trivial | rfl | exact Nat.le_of_ble_eq_true rfl | refine And.intro ?_ ?_)) rfl rfl rfl rfl | exact sBSF (by repeat' (first | exact trivial | rfl | exact Nat.le_of_ble_eq_true rfl | refine And.intro ?_ ?_)) rfl rfl rfl rfl | exact sLe rfl | exact Chk.mk (by kernel_rfl) | exact ⟨Chk.mk (by kernel_rfl)⟩ | exact sLeEq rfl rfl | refine fun h => ?_)
      all_goals try (exact sIxN hlr rfl hn rfl)
      all_goals try (exact sStN hlr (by simp) rfl rfl)
      all_goals try (exact fun hq => absurd hq (by decide))
      all_goals try (exact ⟨fun hq => absurd hq (by decide)⟩)
      refine W.sub ⟨50, 1, [(0, .one (.ref 0 0 xs.length)), (1, oi (kk + 2)), (5, oi i)], [(0, .arr ((labR true B 0 ((mkUp mkTold (ctK 5) xs k i).map Told.cells)).set i [i6 (kk), i6 (kk + 1), i6 x.q.b, i6 x.code, i6 x.val]))]⟩ [] ?_ ?_
      · repeat' (first | exact trivial | exact Side.mk rfl | exact Chk.mk (by kernel_rfl) | exact ⟨Chk.mk (by kernel_rfl)⟩ | exact sSetN hlr (by simp) rfl | exact sFlatN hfl rfl | exact sWrap (by omega) (by omega) (by omega) | refine And.intro ?_ ?_ | rfl)
      refine W.go [(800010, .row [])] TTok hmo ?_
      repeat' (first | refine And.intro ?_ ?_ | exact tf | exact ft | refine tt ?_ | refine ff ?_ | exact ⟨trivial⟩ | exact sAll rfl | exact sF1 rfl | exact sBld (by repeat' (first | exact trivial | rfl | exact Nat.le_of_ble_eq_true rfl | refine And.intro ?_ ?_)) rfl | exact sBS (by repeat' (first | exact trivial | rfl | exact Nat.le_of_ble_eq_true rfl | refine And.intro ?_ ?_)) rfl rfl rfl rfl | exact sBSF (by repeat' (first | exact trivial | rfl | exact Nat.le_of_ble_eq_true rfl | refine And.intro ?_ ?_)) rfl rfl rfl rfl | exact sLe rfl | exact Chk.mk (by kernel_rfl) | exact ⟨Chk.mk (by kernel_rfl)⟩ | exact sLeEq rfl rfl | refine fun h => ?_)
      all_goals try (exact sIxN hlr rfl hn rfl)
      all_goals try (exact sStN hlr (by simp) rfl rfl)
      all_goals try (exact fun hq => absurd hq (by decide))
      all_goals try (exact ⟨fun hq => absurd hq (by decide)⟩)
      refine W.sub ⟨50, 1, [(0, .one (.ref 0 0 xs.length)), (1, oi (kk + 3)), (5, oi i)], [(0, .arr ((labR true B 0 ((mkUp mkTold (ctK 5) xs k i).map Told.cells)).set i [i6 (kk), i6 (kk + 1), i6 (kk + 2), i6 x.code, i6 x.val]))]⟩ [] ?_ ?_
      · repeat' (first | exact trivial | exact Side.mk rfl | exact Chk.mk (by kernel_rfl) | exact ⟨Chk.mk (by kernel_rfl)⟩ | exact sSetN hlr (by simp) rfl | exact sFlatN hfl rfl | exact sWrap (by omega) (by omega) (by omega) | refine And.intro ?_ ?_ | rfl)
      refine W.go [(800012, .row [])] TTok hmo ?_
      repeat' (first | refine And.intro ?_ ?_ | exact tf | exact ft | refine tt ?_ | refine ff ?_ | exact ⟨trivial⟩ | exact sAll rfl | exact sF1 rfl | exact sBld (by repeat' (first | exact trivial | rfl | exact Nat.le_of_ble_eq_true rfl | refine And.intro ?_ ?_)) rfl | exact sBS (by repeat' (first | exact trivial | rfl | exact Nat.le_of_ble_eq_true rfl | refine And.intro ?_ ?_)) rfl rfl rfl rfl | exact sBSF (by repeat' (first | exact trivial | rfl | exact Nat.le_of_ble_eq_true rfl | refine And.intro ?_ ?_)) rfl rfl rfl rfl | exact sLe rfl | exact Chk.mk (by kernel_rfl) | exact ⟨Chk.mk (by kernel_rfl)⟩ | exact sLeEq rfl rfl | refine fun h => ?_)
      all_goals try (exact sIxN hlr rfl hn rfl)
      all_goals try (exact sStN hlr (by simp) rfl rfl)
      all_goals try (exact fun hq => absurd hq (by decide))
      all_goals try (exact ⟨fun hq => absurd hq (by decide)⟩)
      refine W.sub ⟨50, 1, [(0, .one (.ref 0 0 xs.length)), (1, oi (kk + 4)), (5, oi i)], [(0, .arr ((labR true B 0 ((mkUp mkTold (ctK 5) xs k i).map Told.cells)).set i [i6 (kk), i6 (kk + 1), i6 (kk + 2), i6 (kk + 3), i6 x.val]))]⟩ [] ?_ ?_
      · repeat' (first | exact trivial | exact Side.mk rfl | exact Chk.mk (by kernel_rfl) | exact ⟨Chk.mk (by kernel_rfl)⟩ | exact sSetN hlr (by simp) rfl | exact sFlatN hfl rfl | exact sWrap (by omega) (by omega) (by omega) | refine And.intro ?_ ?_ | rfl)
      refine W.go [] TTok hmo ?_
      repeat' (first | refine And.intro ?_ ?_ | exact tf | exact ft | refine tt ?_ | refine ff ?_ | exact ⟨trivial⟩ | exact sAll rfl | exact sF1 rfl | exact sBld (by repeat' (first | exact trivial | rfl | exact Nat.le_of_ble_eq_true rfl | refine And.intro ?_ ?_)) rfl | exact sBS (by repeat' (first | exact trivial | rfl | exact Nat.le_of_ble_eq_true rfl | refine And.intro ?_ ?_)) rfl rfl rfl rfl | exact sBSF (by repeat' (first | exact trivial | rfl | exact Nat.le_of_ble_eq_true rfl | refine And.intro ?_ ?_)) rfl rfl rfl rfl | exact sLe rfl | exact Chk.mk (by kernel_rfl) | exact ⟨Chk.mk (by kernel_rfl)⟩ | exact sLeEq rfl rfl | refine fun h => ?_)
      all_goals try (exact sIxN hlr rfl hn rfl)
      all_goals try (exact sStN hlr (by simp) rfl rfl)
      all_goals try (exact fun hq => absurd hq (by decide))
      all_goals try (exact ⟨fun hq => absurd hq (by decide)⟩)
      refine ⟨i + 1, [], by omega, by omega, ?_⟩
      repeat' (first | exact trivial | exact Side.mk rfl | exact Chk.mk (by kernel_rfl) | exact ⟨Chk.mk (by kernel_rfl)⟩ | exact sFlatL (allF Told.frz) | exact ⟨(congrArg (fun q => labR true B 0 (q.map Told.cells)) hup.symm).trans ((lab_map_set (x := mkTold x kk)).symm.trans (sSetN (r' := labRow true (B i) 0 (Told.cells (mkTold x kk))) hlr (by simp) rfl).h)⟩ | exact sWrap (by omega) (by omega) (by omega) | exact ⟨by omega⟩ | exact ⟨by dsimp only; omega⟩ | exact sWrap (by omega) (by omega) (by omega) | refine And.intro ?_ ?_ | rfl)
    all_goals (have hle : xs.length ≤ i := by have := of_decide_eq_false h; omega)
    all_goals first | exact ⟨⟨trivial, trivial⟩⟩ | exact sKE hle | exact sUpE hle | exact ⟨likeR_map (mkL_len _ _).symm fun _ _ => by repeat' constructor⟩

theorem k_markBoolS (xs : List Bool) (k : Int) (hk0 : 0 ≤ k) (hk1 : k ≤ 4000000000000000000) (hx : xs.length ≤ lim)  : TMark PP 59 (.one (.fz (xs.map Bool.cells))) k (.one (.fz ((mkL mkBool (ctK 1) xs k).map Bool.cells))) (k + ctL (ctK 1) xs) := by
  have hx0 : xs.length ≤ 1048576 := hx
  have hbd : ∀ x ∈ xs, 0 ≤ (ctK 1) x ∧ (ctK 1) x ≤ 1 := fun _ _ => ⟨by simp [ctK], by simp [ctK]⟩
  refine TMark.vcL (fun B => []) TTok hmo Go.Proofs.Try.func59 (by kernel_rfl) rfl (by kernel_rfl) (allF Bool.frz) (allF Bool.frz) (fun B hB => ?_)
  repeat' (first | refine And.intro ?_ ?_ | exact tf | exact ft | refine tt ?_ | refine ff ?_ | exact ⟨trivial⟩ | exact sAll rfl | exact sF1 rfl | exact sBld (by repeat' (first | exact trivial | rfl | exact Nat.le_of_ble_eq_true rfl | refine And.intro ?_ ?_)) rfl | exact sBS (by repeat' (first | exact trivial | rfl | exact Nat.le_of_ble_eq_true rfl | refine And.intro ?_ ?_)) rfl rfl rfl rfl | exact sBSF (by repeat' (first | exact trivial | rfl | exact Nat.le_of_ble_eq_true rfl | refine And.intro ?_ ?_)) rfl rfl rfl rfl | exact sLe rfl | exact Chk.mk (by kernel_rfl) | exact ⟨Chk.mk (by kernel_rfl)⟩ | exact sLeEq rfl rfl | refine fun h => ?_)
  refine W.loopC (D := Nat) (fun i => [(800004, .row [])]) TTok hmo (fun i => ⟨21, 1, [(0, .one (.ref 0 0 xs.length)), (1, oi (k + ctL (ctK 1) (xs.take i))), (5, oi i)], [(0, .arr (labR true B 0 ((mkUp mkBool (ctK 1) xs k i).map Bool.cells)))]⟩) (fun i => xs.length - i) (fun i => i ≤ xs.length) 0 [] (Nat.zero_le _) ?_ ?_
  · repeat' (first | exact trivial | exact Side.mk rfl | exact Chk.mk (by kernel_rfl) | exact ⟨Chk.mk (by kernel_rfl)⟩ | exact sFlatL (allF Bool.frz) | exact sUp0 | exact sK0 | exact sLenM | refine And.intro ?_ ?_ | rfl)
  · intro i hi
    repeat' (first | refine And.intro ?_ ?_ | exact tf | exact ft | refine tt ?_ | refine ff ?_ | exact ⟨trivial⟩ | exact sAll rfl | exact sF1 rfl | exact sBld (by repeat' (first | exact trivial | rfl | exact Nat.le_of_ble_eq_true rfl | refine And.intro ?_ ?_)) rfl | exact sBS (by repeat' (first | exact trivial | rfl | exact Nat.le_of_ble_eq_true rfl | refine And.intro ?_ ?_)) rfl rfl rfl rfl | exact sBSF (by repeat' (first | exact trivial | rfl | exact Nat.le_of_ble_eq_true rfl | refine And.intro ?_ ?_)) rfl rfl rfl rfl | exact sLe rfl | exact Chk.mk (by kernel_rfl) | exact ⟨Chk.mk (by kernel_rfl)⟩ | exact sLeEq rfl rfl | refine fun h => ?_)
    · have hl : i < xs.length := by have := of_decide_eq_true h; omega
      have hct := ctL_bdt (i := i) (M := 1) (by decide) hbd
      have hce := hbd _ (getD_mem hl)
      have hct1 := ctL_take (ct := (ctK 1)) hl
      have hMb : (xs.length : Int) * 1 ≤ 10000000000000000 := by omega
      have hget : (labR true B 0 ((mkUp mkBool (ctK 1) xs k i).map Bool.cells))[i]? = some (labRow true (B i) 0 (Bool.cells (xs.getD i default))) := lab_map_get (mkUp_get hl)
      have hlr : i < (labR true B 0 ((mkUp mkBool (ctK 1) xs k i).map Bool.cells)).length := by rw [labR_len, List.length_map, mkUp_len]; exact hl
      have hl2 : i < ((mkUp mkBool (ctK 1) xs k i).map Bool.cells).length := by rw [List.length_map, mkUp_len]; exact hl
      have hn : xs.length = (labR true B 0 ((mkUp mkBool (ctK 1) xs k i).map Bool.cells)).length := by rw [labR_len, List.length_map, mkUp_len]
      have hfl : ∀ r ∈ (labR true B 0 ((mkUp mkBool (ctK 1) xs k i).map Bool.cells)), ∀ c ∈ r, c.flat = true := lab_flat (allF Bool.frz)
      have hup := mkUp_set (f := mkBool) (ct := (ctK 1)) (k := k) hl
      have hkf : k + ctL (ctK 1) (xs.take (i + 1)) = k + ctL (ctK 1) (xs.take i) + (ctK 1) (xs.getD i default) := by omega
      generalize hkk : k + ctL (ctK 1) (xs.take i) = kk at *
      generalize hxx : xs.getD i default = x at *
      have hcx : (ctK 1) x = 1 := rfl
      rw [hcx] at hkf hce
      refine W.sub ⟨21, 1, [(0, .one (.ref 0 0 xs.length)), (1, oi (kk)), (5, oi i)], [(0, .arr ((labR true B 0 ((mkUp mkBool (ctK 1) xs k i).map Bool.cells)).set i [bo x]))]⟩ [] ?_ ?_
      · repeat' (first | exact trivial | exact Side.mk rfl | exact Chk.mk (by kernel_rfl) | exact ⟨Chk.mk (by kernel_rfl)⟩ | exact sSet0 hget | exact sFlatN hfl rfl | exact ⟨rfl⟩ | refine And.intro ?_ ?_ | rfl)
      refine W.go [] TTok hmo ?_
      repeat' (first | refine And.intro ?_ ?_ | exact tf | exact ft | refine tt ?_ | refine ff ?_ | exact ⟨trivial⟩ | exact sAll rfl | exact sF1 rfl | exact sBld (by repeat' (first | exact trivial | rfl | exact Nat.le_of_ble_eq_true rfl | refine And.intro ?_ ?_)) rfl | exact sBS (by repeat' (first | exact trivial | rfl | exact Nat.le_of_ble_eq_true rfl | refine And.intro ?_ ?_)) rfl rfl rfl rfl | exact sBSF (by repeat' (first | exact trivial | rfl | exact Nat.le_of_ble_eq_true rfl | refine And.intro ?_ ?_)) rfl rfl rfl rfl | exact sLe rfl | exact Chk.mk (by kernel_rfl) | exact ⟨Chk.mk (by kernel_rfl)⟩ | exact sLeEq rfl rfl | refine fun h => ?_)
      all_goals try (exact sIxN hlr rfl hn rfl)
      all_goals try (exact sStN hlr (by simp) rfl rfl)
      all_goals try (exact fun hq => absurd hq (by decide))
      all_goals try (exact ⟨fun hq => absurd hq (by decide)⟩)
      refine ⟨i + 1, [], by omega, by omega, ?_⟩
      repeat' (first | exact trivial | exact Side.mk rfl | exact Chk.mk (by kernel_rfl) | exact ⟨Chk.mk (by kernel_rfl)⟩ | exact sFlatL (allF Bool.frz) | exact ⟨(congrArg (fun q => labR true B 0 (q.map Bool.cells)) hup.symm).trans ((lab_map_set (x := mkBool x kk)).symm.trans (sSetN (r' := labRow true (B i) 0 (Bool.cells (mkBool x kk))) hlr (by simp) rfl).h)⟩ | exact sWrap (by omega) (by omega) (by omega) | exact ⟨by omega⟩ | exact ⟨by dsimp only; omega⟩ | exact sWrap (by omega) (by omega) (by omega) | refine And.intro ?_ ?_ | rfl)
    all_goals (have hle : xs.length ≤ i := by have := of_decide_eq_false h; omega)
    all_goals first | exact ⟨⟨trivial, trivial⟩⟩ | exact sKE hle | exact sUpE hle | exact ⟨likeR_map (mkL_len _ _).symm fun _ _ => by repeat' constructor⟩

end Mg
