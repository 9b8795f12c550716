/- What was numbered is held. No condition. -/
import Derived.Test.YtedgmfmhilihoaaP17
namespace Mg
open Go Go.RowKit
set_option maxRecDepth 100000
set_option linter.unusedVariables false
set_option linter.unusedSimpArgs false
attribute [local irreducible] W Pure

theorem h_heldReadS (xs : List Two) (k : Int) (hk0 : 0 ≤ k) (hk1 : k ≤ 4000000000000000000) (hx : xs.length ≤ lim)  : Pure PP false 45 [.one (.fz ((mkL mkTwo (ctK 2) xs k).map Two.cells)), oi k] (oi (k + ctL (ctK 2) xs)) := by
  have hx0 : xs.length ≤ 1048576 := hx
  have hbd : ∀ x ∈ xs, 0 ≤ (ctK 2) x ∧ (ctK 2) x ≤ 2 := fun _ _ => ⟨by simp [ctK], by simp [ctK]⟩
  refine Pure.vc [] TTok hmo Go.Proofs.Try.func45 (by kernel_rfl) rfl (by kernel_rfl) ?_
  repeat' (first | refine And.intro ?_ ?_ | exact tf | exact ft | refine tt ?_ | refine ff ?_ | exact ⟨trivial⟩ | exact sAll rfl | exact sF1 rfl | exact sBld (by repeat' (first | exact trivial | rfl | exact Nat.le_of_ble_eq_true rfl | refine And.intro ?_ ?_)) rfl | exact sBS (by repeat' (first | exact trivial | rfl | exact Nat.le_of_ble_eq_true rfl | refine And.intro ?_ ?_)) rfl rfl rfl rfl | exact sBSF (by repeat' (first | exact trivial | rfl | exact Nat.le_of_ble_eq_true rfl | refine And.intro ?_ ?_)) rfl rfl rfl rfl | exact sLe rfl | exact Chk.mk (by kernel_rfl) | exact ⟨Chk.mk (by kernel_rfl)⟩ | exact sLeEq rfl rfl | refine fun h => ?_)
  refine W.loopC (D := Nat) (fun i => [(800004, .row [])]) TTok hmo (fun i => ⟨31, 0, [(0, .one (.ag ((mkL mkTwo (ctK 2) xs k).map Two.cells))), (1, oi (k + ctL (ctK 2) (xs.take i))), (5, oi i)], []⟩) (fun i => xs.length - i) (fun i => i ≤ xs.length) 0 [] (Nat.zero_le _) ?_ ?_
  · repeat' (first | exact trivial | exact Side.mk rfl | exact Chk.mk (by kernel_rfl) | exact ⟨Chk.mk (by kernel_rfl)⟩ | exact sK0 | refine And.intro ?_ ?_ | rfl)
  · intro i hi
    repeat' (first | refine And.intro ?_ ?_ | exact tf | exact ft | refine tt ?_ | refine ff ?_ | exact ⟨trivial⟩ | exact sAll rfl | exact sF1 rfl | exact sBld (by repeat' (first | exact trivial | rfl | exact Nat.le_of_ble_eq_true rfl | refine And.intro ?_ ?_)) rfl | exact sBS (by repeat' (first | exact trivial | rfl | exact Nat.le_of_ble_eq_true rfl | refine And.intro ?_ ?_)) rfl rfl rfl rfl | exact sBSF (by repeat' (first | exact trivial | rfl | exact Nat.le_of_ble_eq_true rfl | refine And.intro ?_ ?_)) rfl rfl rfl rfl | exact sLe rfl | exact Chk.mk (by kernel_rfl) | exact ⟨Chk.mk (by kernel_rfl)⟩ | exact sLeEq rfl rfl | refine fun h => ?_)
    · have hl : i < xs.length := by have := of_decide_eq_true h; rw [List.length_map, mkL_len] at this; omega
      have hct := ctL_bdt (i := i) (M := 2) (by decide) hbd
      have hce := hbd _ (getD_mem hl)
      have hct1 := ctL_take (ct := (ctK 2)) hl
      have hMb : (xs.length : Int) * 2 ≤ 10000000000000000 := by omega
      have hgt : (mkL mkTwo (ctK 2) xs k)[i]? = some (mkTwo (xs.getD i default) (k + ctL (ctK 2) (xs.take i))) := mkL_get hl
      have hkf : k + ctL (ctK 2) (xs.take (i + 1)) = k + ctL (ctK 2) (xs.take i) + (ctK 2) (xs.getD i default) := by omega
      clear h
      generalize hkk : k + ctL (ctK 2) (xs.take i) = kk at *
      generalize hxx : xs.getD i default = x at *
      have hgr : ((mkL mkTwo (ctK 2) xs k).map Two.cells)[i]? = some (Two.cells (mkTwo x kk)) := by rw [List.getElem?_map, hgt]; rfl
      have hcx : (ctK 2) x = 2 := rfl
      rw [hcx] at hkf hce
      refine W.go [(800007, .row []), (14, .row (Two.cells (mkTwo x kk)))] TTok hmo ?_
      repeat' (first | refine And.intro ?_ ?_ | exact tf | exact ft | refine tt ?_ | refine ff ?_ | exact ⟨trivial⟩ | exact sAll rfl | exact sF1 rfl | exact sBld (by repeat' (first | exact trivial | rfl | exact Nat.le_of_ble_eq_true rfl | refine And.intro ?_ ?_)) rfl | exact sBS (by repeat' (first | exact trivial | rfl | exact Nat.le_of_ble_eq_true rfl | refine And.intro ?_ ?_)) rfl rfl rfl rfl | exact sBSF (by repeat' (first | exact trivial | rfl | exact Nat.le_of_ble_eq_true rfl | refine And.intro ?_ ?_)) rfl rfl rfl rfl | exact sLe rfl | exact Chk.mk (by kernel_rfl) | exact ⟨Chk.mk (by kernel_rfl)⟩ | exact sLeEq rfl rfl | refine fun h => ?_)
      all_goals try (exact sRow (by omega) hgr rfl)
      all_goals try (exact fun hq => absurd hq (by decide))
      all_goals try (exact ⟨fun hq => absurd hq (by decide)⟩)
      all_goals try (exfalso; revert h; simp [mkB, mkTwo, mkEntry, mkVote]; done)
      all_goals try (exfalso; have h3 := of_decide_eq_true h; omega)
      try clear h
      refine W.sub ⟨31, 0, [(0, .one (.ag ((mkL mkTwo (ctK 2) xs k).map Two.cells))), (1, oi (kk + 1)), (5, oi i)], []⟩ [] ?_ ?_
      · repeat' (first | exact trivial | exact Side.mk rfl | exact Chk.mk (by kernel_rfl) | exact ⟨Chk.mk (by kernel_rfl)⟩ | exact sWrap (by omega) (by omega) (by omega) | exact ⟨by omega⟩ | refine And.intro ?_ ?_ | rfl)
      refine W.go [(23, .row (Two.cells (mkTwo x kk)))] TTok hmo ?_
      repeat' (first | refine And.intro ?_ ?_ | exact tf | exact ft | refine tt ?_ | refine ff ?_ | exact ⟨trivial⟩ | exact sAll rfl | exact sF1 rfl | exact sBld (by repeat' (first | exact trivial | rfl | exact Nat.le_of_ble_eq_true rfl | refine And.intro ?_ ?_)) rfl | exact sBS (by repeat' (first | exact trivial | rfl | exact Nat.le_of_ble_eq_true rfl | refine And.intro ?_ ?_)) rfl rfl rfl rfl | exact sBSF (by repeat' (first | exact trivial | rfl | exact Nat.le_of_ble_eq_true rfl | refine And.intro ?_ ?_)) rfl rfl rfl rfl | exact sLe rfl | exact Chk.mk (by kernel_rfl) | exact ⟨Chk.mk (by kernel_rfl)⟩ | exact sLeEq rfl rfl | refine fun h => ?_)
      all_goals try (exact sRow (by omega) hgr rfl)
      all_goals try (exact fun hq => absurd hq (by decide))
      all_goals try (exact ⟨fun hq => absurd hq (by decide)⟩)
      all_goals try (exfalso; revert h; simp [mkB, mkTwo, mkEntry, mkVote]; done)
      all_goals try (exfalso; have h3 := of_decide_eq_true h; omega)
      refine ⟨i + 1, [], by omega, by omega, ?_⟩
      repeat' (first | exact trivial | exact Side.mk rfl | exact Chk.mk (by kernel_rfl) | exact ⟨Chk.mk (by kernel_rfl)⟩ | exact sWrap (by omega) (by omega) (by omega) | exact ⟨by omega⟩ | refine And.intro ?_ ?_ | rfl)
    all_goals (have hle : xs.length ≤ i := by have := of_decide_eq_false h; rw [List.length_map, mkL_len] at this; omega)
    all_goals first | exact sKEo ⟨trivial, trivial⟩ hle | exact sKEo trivial hle | exact ⟨⟨trivial, trivial⟩⟩ | exact ⟨trivial⟩

theorem h_heldPutS (xs : List Two) (k : Int) (hk0 : 0 ≤ k) (hk1 : k ≤ 4000000000000000000) (hx : xs.length ≤ lim)  : Pure PP false 46 [.one (.fz ((mkL mkTwo (ctK 2) xs k).map Two.cells)), oi k] (oi (k + ctL (ctK 2) xs)) := by
  have hx0 : xs.length ≤ 1048576 := hx
  have hbd : ∀ x ∈ xs, 0 ≤ (ctK 2) x ∧ (ctK 2) x ≤ 2 := fun _ _ => ⟨by simp [ctK], by simp [ctK]⟩
  refine Pure.vc [] TTok hmo Go.Proofs.Try.func46 (by kernel_rfl) rfl (by kernel_rfl) ?_
  repeat' (first | refine And.intro ?_ ?_ | exact tf | exact ft | refine tt ?_ | refine ff ?_ | exact ⟨trivial⟩ | exact sAll rfl | exact sF1 rfl | exact sBld (by repeat' (first | exact trivial | rfl | exact Nat.le_of_ble_eq_true rfl | refine And.intro ?_ ?_)) rfl | exact sBS (by repeat' (first | exact trivial | rfl | exact Nat.le_of_ble_eq_true rfl | refine And.intro ?_ ?_)) rfl rfl rfl rfl | exact sBSF (by repeat' (first | exact trivial | rfl | exact Nat.le_of_ble_eq_true rfl | refine And.intro ?_ ?_)) rfl rfl rfl rfl | exact sLe rfl | exact Chk.mk (by kernel_rfl) | exact ⟨Chk.mk (by kernel_rfl)⟩ | exact sLeEq rfl rfl | refine fun h => ?_)
  refine W.loopC (D := Nat) (fun i => [(800004, .row [])]) TTok hmo (fun i => ⟨31, 0, [(0, .one (.ag ((mkL mkTwo (ctK 2) xs k).map Two.cells))), (1, oi (k + ctL (ctK 2) (xs.take i))), (5, oi i)], []⟩) (fun i => xs.length - i) (fun i => i ≤ xs.length) 0 [] (Nat.zero_le _) ?_ ?_
  · repeat' (first | exact trivial | exact Side.mk rfl | exact Chk.mk (by kernel_rfl) | exact ⟨Chk.mk (by kernel_rfl)⟩ | exact sK0 | refine And.intro ?_ ?_ | rfl)
  · intro i hi
    repeat' (first | refine And.intro ?_ ?_ | exact tf | exact ft | refine tt ?_ | refine ff ?_ | exact ⟨trivial⟩ | exact sAll rfl | exact sF1 rfl | exact sBld (by repeat' (first | exact trivial | rfl | exact Nat.le_of_ble_eq_true rfl | refine And.intro ?_ ?_)) rfl | exact sBS (by repeat' (first | exact trivial | rfl | exact Nat.le_of_ble_eq_true rfl | refine And.intro ?_ ?_)) rfl rfl rfl rfl | exact sBSF (by repeat' (first | exact trivial | rfl | exact Nat.le_of_ble_eq_true rfl | refine And.intro ?_ ?_)) rfl rfl rfl rfl | exact sLe rfl | exact Chk.mk (by kernel_rfl) | exact ⟨Chk.mk (by kernel_rfl)⟩ | exact sLeEq rfl rfl | refine fun h => ?_)
    · have hl : i < xs.length := by have := of_decide_eq_true h; rw [List.length_map, mkL_len] at this; omega
      have hct := ctL_bdt (i := i) (M := 2) (by decide) hbd
      have hce := hbd _ (getD_mem hl)
      have hct1 := ctL_take (ct := (ctK 2)) hl
      have hMb : (xs.length : Int) * 2 ≤ 10000000000000000 := by omega
      have hgt : (mkL mkTwo (ctK 2) xs k)[i]? = some (mkTwo (xs.getD i default) (k + ctL (ctK 2) (xs.take i))) := mkL_get hl
      have hkf : k + ctL (ctK 2) (xs.take (i + 1)) = k + ctL (ctK 2) (xs.take i) + (ctK 2) (xs.getD i default) := by omega
      clear h
      generalize hkk : k + ctL (ctK 2) (xs.take i) = kk at *
      generalize hxx : xs.getD i default = x at *
      have hgr : ((mkL mkTwo (ctK 2) xs k).map Two.cells)[i]? = some (Two.cells (mkTwo x kk)) := by rw [List.getElem?_map, hgt]; rfl
      have hcx : (ctK 2) x = 2 := rfl
      rw [hcx] at hkf hce
      refine W.go [(800007, .row []), (14, .row (Two.cells (mkTwo x kk)))] TTok hmo ?_
      repeat' (first | refine And.intro ?_ ?_ | exact tf | exact ft | refine tt ?_ | refine ff ?_ | exact ⟨trivial⟩ | exact sAll rfl | exact sF1 rfl | exact sBld (by repeat' (first | exact trivial | rfl | exact Nat.le_of_ble_eq_true rfl | refine And.intro ?_ ?_)) rfl | exact sBS (by repeat' (first | exact trivial | rfl | exact Nat.le_of_ble_eq_true rfl | refine And.intro ?_ ?_)) rfl rfl rfl rfl | exact sBSF (by repeat' (first | exact trivial | rfl | exact Nat.le_of_ble_eq_true rfl | refine And.intro ?_ ?_)) rfl rfl rfl rfl | exact sLe rfl | exact Chk.mk (by kernel_rfl) | exact ⟨Chk.mk (by kernel_rfl)⟩ | exact sLeEq rfl rfl | refine fun h => ?_)
      all_goals try (exact sRow (by omega) hgr rfl)
      all_goals try (exact fun hq => absurd hq (by decide))
      all_goals try (exact ⟨fun hq => absurd hq (by decide)⟩)
      all_goals try (exfalso; revert h; simp [mkB, mkTwo, mkEntry, mkVote]; done)
      all_goals try (exfalso; have h3 := of_decide_eq_true h; omega)
      try clear h
      refine W.sub ⟨31, 0, [(0, .one (.ag ((mkL mkTwo (ctK 2) xs k).map Two.cells))), (1, oi (kk + 1)), (5, oi i)], []⟩ [] ?_ ?_
      · repeat' (first | exact trivial | exact Side.mk rfl | exact Chk.mk (by kernel_rfl) | exact ⟨Chk.mk (by kernel_rfl)⟩ | exact sWrap (by omega) (by omega) (by omega) | exact ⟨by omega⟩ | refine And.intro ?_ ?_ | rfl)
      refine W.go [(23, .row (Two.cells (mkTwo x kk)))] TTok hmo ?_
      repeat' (first | refine And.intro ?_ ?_ | exact tf | exact ft | refine tt ?_ | refine ff ?_ | exact ⟨trivial⟩ | exact sAll rfl | exact sF1 rfl | exact sBld (by repeat' (first | exact trivial | rfl | exact Nat.le_of_ble_eq_true rfl | refine And.intro ?_ ?_)) rfl | exact sBS (by repeat' (first | exact trivial | rfl | exact Nat.le_of_ble_eq_true rfl | refine And.intro ?_ ?_)) rfl rfl rfl rfl | exact sBSF (by repeat' (first | exact trivial | rfl | exact Nat.le_of_ble_eq_true rfl | refine And.intro ?_ ?_)) rfl rfl rfl rfl | exact sLe rfl | exact Chk.mk (by kernel_rfl) | exact ⟨Chk.mk (by kernel_rfl)⟩ | exact sLeEq rfl rfl | refine fun h => ?_)
      all_goals try (exact sRow (by omega) hgr rfl)
      all_goals try (exact fun hq => absurd hq (by decide))
      all_goals try (exact ⟨fun hq => absurd hq (by decide)⟩)
      all_goals try (exfalso; revert h; simp [mkB, mkTwo, mkEntry, mkVote]; done)
      all_goals try (exfalso; have h3 := of_decide_eq_true h; omega)
      refine ⟨i + 1, [], by omega, by omega, ?_⟩
      repeat' (first | exact trivial | exact Side.mk rfl | exact Chk.mk (by kernel_rfl) | exact ⟨Chk.mk (by kernel_rfl)⟩ | exact sWrap (by omega) (by omega) (by omega) | exact ⟨by omega⟩ | refine And.intro ?_ ?_ | rfl)
    all_goals (have hle : xs.length ≤ i := by have := of_decide_eq_false h; rw [List.length_map, mkL_len] at this; omega)
    all_goals first | exact sKEo ⟨trivial, trivial⟩ hle | exact sKEo trivial hle | exact ⟨⟨trivial, trivial⟩⟩ | exact ⟨trivial⟩

theorem h_heldInsS (xs : List Ins) (k : Int) (hk0 : 0 ≤ k) (hk1 : k ≤ 4000000000000000000) (hx : xs.length ≤ lim)  : Pure PP false 63 [.one (.fz ((mkL mkIns (ctK 4) xs k).map Ins.cells)), oi k] (oi (k + ctL (ctK 4) xs)) := by
  have hx0 : xs.length ≤ 1048576 := hx
  have hbd : ∀ x ∈ xs, 0 ≤ (ctK 4) x ∧ (ctK 4) x ≤ 4 := fun _ _ => ⟨by simp [ctK], by simp [ctK]⟩
  refine Pure.vc [] TTok hmo Go.Proofs.Try.func63 (by kernel_rfl) rfl (by kernel_rfl) ?_
  repeat' (first | refine And.intro ?_ ?_ | exact tf | exact ft | refine tt ?_ | refine ff ?_ | exact ⟨trivial⟩ | exact sAll rfl | exact sF1 rfl | exact sBld (by repeat' (first | exact trivial | rfl | exact Nat.le_of_ble_eq_true rfl | refine And.intro ?_ ?_)) rfl | exact sBS (by repeat' (first | exact trivial | rfl | exact Nat.le_of_ble_eq_true rfl | refine And.intro ?_ ?_)) rfl rfl rfl rfl | exact sBSF (by repeat' (first | exact trivial | rfl | exact Nat.le_of_ble_eq_true rfl | refine And.intro ?_ ?_)) rfl rfl rfl rfl | exact sLe rfl | exact Chk.mk (by kernel_rfl) | exact ⟨Chk.mk (by kernel_rfl)⟩ | exact sLeEq rfl rfl | refine fun h => ?_)
  refine W.loopC (D := Nat) (fun i => [(800004, .row [])]) TTok hmo (fun i => ⟨49, 0, [(0, .one (.ag ((mkL mkIns (ctK 4) xs k).map Ins.cells))), (1, oi (k + ctL (ctK 4) (xs.take i))), (5, oi i)], []⟩) (fun i => xs.length - i) (fun i => i ≤ xs.length) 0 [] (Nat.zero_le _) ?_ ?_
  · repeat' (first | exact trivial | exact Side.mk rfl | exact Chk.mk (by kernel_rfl) | exact ⟨Chk.mk (by kernel_rfl)⟩ | exact sK0 | refine And.intro ?_ ?_ | rfl)
  · intro i hi
    repeat' (first | refine And.intro ?_ ?_ | exact tf | exact ft | refine tt ?_ | refine ff ?_ | exact ⟨trivial⟩ | exact sAll rfl | exact sF1 rfl | exact sBld (by repeat' (first | exact trivial | rfl | exact Nat.le_of_ble_eq_true rfl | refine And.intro ?_ ?_)) rfl | exact sBS (by repeat' (first | exact trivial | rfl | exact Nat.le_of_ble_eq_true rfl | refine And.intro ?_ ?_)) rfl rfl rfl rfl | exact sBSF (by repeat' (first | exact trivial | rfl | exact Nat.le_of_ble_eq_true rfl | refine And.intro ?_ ?_)) rfl rfl rfl rfl | exact sLe rfl | exact Chk.mk (by kernel_rfl) | exact ⟨Chk.mk (by kernel_rfl)⟩ | exact sLeEq rfl rfl | refine fun h => ?_)
    · have hl : i < xs.length := by have := of_decide_eq_true h; rw [List.length_map, mkL_len] at this; omega
      have hct := ctL_bdt (i := i) (M := 4) (by decide) hbd
      have hce := hbd _ (getD_mem hl)
      have hct1 := ctL_take (ct := (ctK 4)) hl
      have hMb : (xs.length : Int) * 4 ≤ 10000000000000000 := by omega
      have hgt : (mkL mkIns (ctK 4) xs k)[i]? = some (mkIns (xs.getD i default) (k + ctL (ctK 4) (xs.take i))) := mkL_get hl
      have hkf : k + ctL (ctK 4) (xs.take (i + 1)) = k + ctL (ctK 4) (xs.take i) + (ctK 4) (xs.getD i default) := by omega
      clear h
      generalize hkk : k + ctL (ctK 4) (xs.take i) = kk at *
      generalize hxx : xs.getD i default = x at *
      have hgr : ((mkL mkIns (ctK 4) xs k).map Ins.cells)[i]? = some (Ins.cells (mkIns x kk)) := by rw [List.getElem?_map, hgt]; rfl
      have hcx : (ctK 4) x = 4 := rfl
      rw [hcx] at hkf hce
      refine W.go [(800007, .row []), (14, .row (Ins.cells (mkIns x kk)))] TTok hmo ?_
      repeat' (first | refine And.intro ?_ ?_ | exact tf | exact ft | refine tt ?_ | refine ff ?_ | exact ⟨trivial⟩ | exact sAll rfl | exact sF1 rfl | exact sBld (by repeat' (first | exact trivial | rfl | exact Nat.le_of_ble_eq_true rfl | refine And.intro ?_ ?_)) rfl | exact sBS (by repeat' (first | exact trivial | rfl | exact Nat.le_of_ble_eq_true rfl | refine And.intro ?_ ?_)) rfl rfl rfl rfl | exact sBSF (by repeat' (first | exact trivial | rfl | exact Nat.le_of_ble_eq_true rfl | refine And.intro ?_ ?_)) rfl rfl rfl rfl | exact sLe rfl | exact Chk.mk (by kernel_rfl) | exact ⟨Chk.mk (by kernel_rfl)⟩ | exact sLeEq rfl rfl | refine fun h => ?_)
      all_goals try (exact sRow (by omega) hgr rfl)
      all_goals try (exact fun hq => absurd hq (by decide))
      all_goals try (exact ⟨fun hq => absurd hq (by decide)⟩)
      all_goals try (exfalso; revert h; simp [mkB, mkIns, mkEntry, mkVote]; done)
      all_goals try (exfalso; have h3 := of_decide_eq_true h; omega)
      try clear h
      refine W.sub ⟨49, 0, [(0, .one (.ag ((mkL mkIns (ctK 4) xs k).map Ins.cells))), (1, oi (kk + 1)), (5, oi i)], []⟩ [] ?_ ?_
      · repeat' (first | exact trivial | exact Side.mk rfl | exact Chk.mk (by kernel_rfl) | exact ⟨Chk.mk (by kernel_rfl)⟩ | exact sWrap (by omega) (by omega) (by omega) | exact ⟨by omega⟩ | refine And.intro ?_ ?_ | rfl)
      refine W.go [(800010, .row []), (23, .row (Ins.cells (mkIns x kk)))] TTok hmo ?_
      repeat' (first | refine And.intro ?_ ?_ | exact tf | exact ft | refine tt ?_ | refine ff ?_ | exact ⟨trivial⟩ | exact sAll rfl | exact sF1 rfl | exact sBld (by repeat' (first | exact trivial | rfl | exact Nat.le_of_ble_eq_true rfl | refine And.intro ?_ ?_)) rfl | exact sBS (by repeat' (first | exact trivial | rfl | exact Nat.le_of_ble_eq_true rfl | refine And.intro ?_ ?_)) rfl rfl rfl rfl | exact sBSF (by repeat' (first | exact trivial | rfl | exact Nat.le_of_ble_eq_true rfl | refine And.intro ?_ ?_)) rfl rfl rfl rfl | exact sLe rfl | exact Chk.mk (by kernel_rfl) | exact ⟨Chk.mk (by kernel_rfl)⟩ | exact sLeEq rfl rfl | refine fun h => ?_)
      all_goals try (exact sRow (by omega) hgr rfl)
      all_goals try (exact fun hq => absurd hq (by decide))
      all_goals try (exact ⟨fun hq => absurd hq (by decide)⟩)
      all_goals try (exfalso; revert h; simp [mkB, mkIns, mkEntry, mkVote]; done)
      all_goals try (exfalso; have h3 := of_decide_eq_true h; omega)
      try clear h
      refine W.sub ⟨49, 0, [(0, .one (.ag ((mkL mkIns (ctK 4) xs k).map Ins.cells))), (1, oi (kk + 2)), (5, oi i)], []⟩ [] ?_ ?_
      · repeat' (first | exact trivial | exact Side.mk rfl | exact Chk.mk (by kernel_rfl) | exact ⟨Chk.mk (by kernel_rfl)⟩ | exact sWrap (by omega) (by omega) (by omega) | exact ⟨by omega⟩ | refine And.intro ?_ ?_ | rfl)
      refine W.go [(800013, .row []), (32, .row (Ins.cells (mkIns x kk)))] TTok hmo ?_
      repeat' (first | refine And.intro ?_ ?_ | exact tf | exact ft | refine tt ?_ | refine ff ?_ | exact ⟨trivial⟩ | exact sAll rfl | exact sF1 rfl | exact sBld (by repeat' (first | exact trivial | rfl | exact Nat.le_of_ble_eq_true rfl | refine And.intro ?_ ?_)) rfl | exact sBS (by repeat' (first | exact trivial | rfl | exact Nat.le_of_ble_eq_true rfl | refine And.intro ?_ ?_)) rfl rfl rfl rfl | exact sBSF (by repeat' (first | exact trivial | rfl | exact Nat.le_of_ble_eq_true rfl | refine And.intro ?_ ?_)) rfl rfl rfl rfl | exact sLe rfl | exact Chk.mk (by kernel_rfl) | exact ⟨Chk.mk (by kernel_rfl)⟩ | exact sLeEq rfl rfl | refine fun h => ?_)
      all_goals try (exact sRow (by omega) hgr rfl)
      all_goals try (exact fun hq => absurd hq (by decide))
      all_goals try (exact ⟨fun hq => absurd hq (by decide)⟩)
      all_goals try (exfalso; revert h; simp [mkB, mkIns, mkEntry, mkVote]; done)
      all_goals try (exfalso; have h3 := of_decide_eq_true h; omega)
      try clear h
      refine W.sub ⟨49, 0, [(0, .one (.ag ((mkL mkIns (ctK 4) xs k).map Ins.cells))), (1, oi (kk + 3)), (5, oi i)], []⟩ [] ?_ ?_
      · repeat' (first | exact trivial | exact Side.mk rfl | exact Chk.mk (by kernel_rfl) | exact ⟨Chk.mk (by kernel_rfl)⟩ | exact sWrap (by omega) (by omega) (by omega) | exact ⟨by omega⟩ | refine And.intro ?_ ?_ | rfl)
      refine W.go [(41, .row (Ins.cells (mkIns x kk)))] TTok hmo ?_
      repeat' (first | refine And.intro ?_ ?_ | exact tf | exact ft | refine tt ?_ | refine ff ?_ | exact ⟨trivial⟩ | exact sAll rfl | exact sF1 rfl | exact sBld (by repeat' (first | exact trivial | rfl | exact Nat.le_of_ble_eq_true rfl | refine And.intro ?_ ?_)) rfl | exact sBS (by repeat' (first | exact trivial | rfl | exact Nat.le_of_ble_eq_true rfl | refine And.intro ?_ ?_)) rfl rfl rfl rfl | exact sBSF (by repeat' (first | exact trivial | rfl | exact Nat.le_of_ble_eq_true rfl | refine And.intro ?_ ?_)) rfl rfl rfl rfl | exact sLe rfl | exact Chk.mk (by kernel_rfl) | exact ⟨Chk.mk (by kernel_rfl)⟩ | exact sLeEq rfl rfl | refine fun h => ?_)
      all_goals try (exact sRow (by omega) hgr rfl)
      all_goals try (exact fun hq => absurd hq (by decide))
      all_goals try (exact ⟨fun hq => absurd hq (by decide)⟩)
      all_goals try (exfalso; revert h; simp [mkB, mkIns, mkEntry, mkVote]; done)
      all_goals try (exfalso; have h3 := of_decide_eq_true h; omega)
      refine ⟨i + 1, [], by omega, by omega, ?_⟩
      repeat' (first | exact trivial | exact Side.mk rfl | exact Chk.mk (by kernel_rfl) | exact ⟨Chk.mk (by kernel_rfl)⟩ | exact sWrap (by omega) (by omega) (by omega) | exact ⟨by omega⟩ | refine And.intro ?_ ?_ | rfl)
    all_goals (have hle : xs.length ≤ i := by have := of_decide_eq_false h; rw [List.length_map, mkL_len] at this; omega)
    all_goals first | exact sKEo ⟨trivial, trivial⟩ hle | exact sKEo trivial hle | exact ⟨⟨trivial, trivial⟩⟩ | exact ⟨trivial⟩

theorem h_heldToldS (xs : List Told) (k : Int) (hk0 : 0 ≤ k) (hk1 : k ≤ 4000000000000000000) (hx : xs.length ≤ lim)  : Pure PP false 31 [.one (.fz ((mkL mkTold (ctK 5) xs k).map Told.cells)), oi k] (oi (k + ctL (ctK 5) xs)) := by
  have hx0 : xs.length ≤ 1048576 := hx
  have hbd : ∀ x ∈ xs, 0 ≤ (ctK 5) x ∧ (ctK 5) x ≤ 5 := fun _ _ => ⟨by simp [ctK], by simp [ctK]⟩
  refine Pure.vc [] TTok hmo Go.Proofs.Try.func31 (by kernel_rfl) rfl (by kernel_rfl) ?_
  repeat' (first | refine And.intro ?_ ?_ | exact tf | exact ft | refine tt ?_ | refine ff ?_ | exact ⟨trivial⟩ | exact sAll rfl | exact sF1 rfl | exact sBld (by repeat' (first | exact trivial | rfl | exact Nat.le_of_ble_eq_true rfl | refine And.intro ?_ ?_)) rfl | exact sBS (by repeat' (first | exact trivial | rfl | exact Nat.le_of_ble_eq_true rfl | refine And.intro ?_ ?_)) rfl rfl rfl rfl | exact sBSF (by repeat' (first | exact trivial | rfl | exact Nat.le_of_ble_eq_true rfl | refine And.intro ?_ ?_)) rfl rfl rfl rfl | exact sLe rfl | exact Chk.mk (by kernel_rfl) | exact ⟨Chk.mk (by kernel_rfl)⟩ | exact sLeEq rfl rfl | refine fun h => ?_)
  refine W.loopC (D := Nat) (fun i => [(800004, .row [])]) TTok hmo (fun i => ⟨60, 0, [(0, .one (.ag ((mkL mkTold (ctK 5) xs k).map Told.cells))), (1, oi (k + ctL (ctK 5) (xs.take i))), (5, oi i)], []⟩) (fun i => xs.length - i) (fun i => i ≤ xs.length) 0 [] (Nat.zero_le _) ?_ ?_
  · repeat' (first | exact trivial | exact Side.mk rfl | exact Chk.mk (by kernel_rfl) | exact ⟨Chk.mk (by kernel_rfl)⟩ | exact sK0 | refine And.intro ?_ ?_ | rfl)
  · intro i hi
    repeat' (first | refine And.intro ?_ ?_ | exact tf | exact ft | refine tt ?_ | refine ff ?_ | exact ⟨trivial⟩ | exact sAll rfl | exact sF1 rfl | exact sBld (by repeat' (first | exact trivial | rfl | exact Nat.le_of_ble_eq_true rfl | refine And.intro ?_ ?_)) rfl | exact sBS (by repeat' (first | exact trivial | rfl | exact Nat.le_of_ble_eq_true rfl | refine And.intro ?_ ?_)) rfl rfl rfl rfl | exact sBSF (by repeat' (first | exact trivial | rfl | exact Nat.le_of_ble_eq_true rfl | refine And.intro ?_ ?_)) rfl rfl rfl rfl | exact sLe rfl | exact Chk.mk (by kernel_rfl) | exact ⟨Chk.mk (by kernel_rfl)⟩ | exact sLeEq rfl rfl | refine fun h => ?_)
    · have hl : i < xs.length := by have := of_decide_eq_true h; rw [List.length_map, mkL_len] at this; omega
      have hct := ctL_bdt (i := i) (M := 5) (by decide) hbd
      have hce := hbd _ (getD_mem hl)
      have hct1 := ctL_take (ct := (ctK 5)) hl
      have hMb : (xs.length : Int) * 5 ≤ 10000000000000000 := by omega
      have hgt : (mkL mkTold (ctK 5) xs k)[i]? = some (mkTold (xs.getD i default) (k + ctL (ctK 5) (xs.take i))) := mkL_get hl
      have hkf : k + ctL (ctK 5) (xs.take (i + 1)) = k + ctL (ctK 5) (xs.take i) + (ctK 5) (xs.getD i default) := by omega
      clear h
      generalize hkk : k + ctL (ctK 5) (xs.take i) = kk at *
      generalize hxx : xs.getD i default = x at *
      have hgr : ((mkL mkTold (ctK 5) xs k).map Told.cells)[i]? = some (Told.cells (mkTold x kk)) := by rw [List.getElem?_map, hgt]; rfl
      have hcx : (ctK 5) x = 5 := rfl
      rw [hcx] at hkf hce
      refine W.go [(800007, .row []), (14, .row (Told.cells (mkTold x kk)))] TTok hmo ?_
      repeat' (first | refine And.intro ?_ ?_ | exact tf | exact ft | refine tt ?_ | refine ff ?_ | exact ⟨trivial⟩ | exact sAll rfl | exact sF1 rfl | exact sBld (by repeat' (first | exact trivial | rfl | exact Nat.le_of_ble_eq_true rfl | refine And.intro ?_ ?_)) rfl | exact sBS (by repeat' (first | exact trivial | rfl | exact Nat.le_of_ble_eq_true rfl | refine And.intro ?_ ?_)) rfl rfl rfl rfl | exact sBSF (by repeat' (first | exact trivial | rfl | exact Nat.le_of_ble_eq_true rfl | refine And.intro ?_ ?_)) rfl rfl rfl rfl | exact sLe rfl | exact Chk.mk (by kernel_rfl) | exact ⟨Chk.mk (by kernel_rfl)⟩ | exact sLeEq rfl rfl | refine fun h => ?_)
      all_goals try (exact sRow (by omega) hgr rfl)
      all_goals try (exact fun hq => absurd hq (by decide))
      all_goals try (exact ⟨fun hq => absurd hq (by decide)⟩)
      all_goals try (exfalso; revert h; simp [mkB, mkTold, mkEntry, mkVote]; done)
      all_goals try (exfalso; have h3 := of_decide_eq_true h; omega)
      try clear h
      refine W.sub ⟨60, 0, [(0, .one (.ag ((mkL mkTold (ctK 5) xs k).map Told.cells))), (1, oi (kk + 1)), (5, oi i)], []⟩ [] ?_ ?_
      · repeat' (first | exact trivial | exact Side.mk rfl | exact Chk.mk (by kernel_rfl) | exact ⟨Chk.mk (by kernel_rfl)⟩ | exact sWrap (by omega) (by omega) (by omega) | exact ⟨by omega⟩ | refine And.intro ?_ ?_ | rfl)
      refine W.go [(800010, .row []), (23, .row (Told.cells (mkTold x kk)))] TTok hmo ?_
      repeat' (first | refine And.intro ?_ ?_ | exact tf | exact ft | refine tt ?_ | refine ff ?_ | exact ⟨trivial⟩ | exact sAll rfl | exact sF1 rfl | exact sBld (by repeat' (first | exact trivial | rfl | exact Nat.le_of_ble_eq_true rfl | refine And.intro ?_ ?_)) rfl | exact sBS (by repeat' (first | exact trivial | rfl | exact Nat.le_of_ble_eq_true rfl | refine And.intro ?_ ?_)) rfl rfl rfl rfl | exact sBSF (by repeat' (first | exact trivial | rfl | exact Nat.le_of_ble_eq_true rfl | refine And.intro ?_ ?_)) rfl rfl rfl rfl | exact sLe rfl | exact Chk.mk (by kernel_rfl) | exact ⟨Chk.mk (by kernel_rfl)⟩ | exact sLeEq rfl rfl | refine fun h => ?_)
      all_goals try (exact sRow (by omega) hgr rfl)
      all_goals try (exact fun hq => absurd hq (by decide))
      all_goals try (exact ⟨fun hq => absurd hq (by decide)⟩)
      all_goals try (exfalso; revert h; simp [mkB, mkTold, mkEntry, mkVote]; done)
      all_goals try (exfalso; have h3 := of_decide_eq_true h; omega)
      try clear h
      refine W.sub ⟨60, 0, [(0, .one (.ag ((mkL mkTold (ctK 5) xs k).map Told.cells))), (1, oi (kk + 2)), (5, oi i)], []⟩ [] ?_ ?_
      · repeat' (first | exact trivial | exact Side.mk rfl | exact Chk.mk (by kernel_rfl) | exact ⟨Chk.mk (by kernel_rfl)⟩ | exact sWrap (by omega) (by omega) (by omega) | exact ⟨by omega⟩ | refine And.intro ?_ ?_ | rfl)
      refine W.go [(800013, .row []), (33, .row (Told.cells (mkTold x kk)))] TTok hmo ?_
      repeat' (first | refine And.intro ?_ ?_ | exact tf | exact ft | refine tt ?_ | refine ff ?_ | exact ⟨trivial⟩ | exact sAll rfl | exact sF1 rfl | exact sBld (by repeat' (first | exact trivial | rfl | exact Nat.le_of_ble_eq_true rfl | refine And.intro ?_ ?_)) rfl | exact sBS (by repeat' (first | exact trivial | rfl | exact Nat.le_of_ble_eq_true rfl | refine And.intro ?_ ?_)) rfl rfl rfl rfl | exact sBSF (by repeat' (first | exact trivial | rfl | exact Nat.le_of_ble_eq_true rfl | refine And.intro ?_ ?_)) rfl rfl rfl rfl | exact sLe rfl | exact Chk.mk (by kernel_rfl) | exact ⟨Chk.mk (by kernel_rfl)⟩ | exact sLeEq rfl rfl | refine fun h => ?_)
      all_goals try (exact sRow (by omega) hgr rfl)
      all_goals try (exact fun hq => absurd hq (by decide))
      all_goals try (exact ⟨fun hq => absurd hq (by decide)⟩)
      all_goals try (exfalso; revert h; simp [mkB, mkTold, mkEntry, mkVote]; done)
      all_goals try (exfalso; have h3 := of_decide_eq_true h; omega)
      try clear h
      refine W.sub ⟨60, 0, [(0, .one (.ag ((mkL mkTold (ctK 5) xs k).map Told.cells))), (1, oi (kk + 3)), (5, oi i)], []⟩ [] ?_ ?_
      · repeat' (first | exact trivial | exact Side.mk rfl | exact Chk.mk (by kernel_rfl) | exact ⟨Chk.mk (by kernel_rfl)⟩ | exact sWrap (by omega) (by omega) (by omega) | exact ⟨by omega⟩ | refine And.intro ?_ ?_ | rfl)
      refine W.go [(800016, .row []), (43, .row (Told.cells (mkTold x kk)))] TTok hmo ?_
      repeat' (first | refine And.intro ?_ ?_ | exact tf | exact ft | refine tt ?_ | refine ff ?_ | exact ⟨trivial⟩ | exact sAll rfl | exact sF1 rfl | exact sBld (by repeat' (first | exact trivial | rfl | exact Nat.le_of_ble_eq_true rfl | refine And.intro ?_ ?_)) rfl | exact sBS (by repeat' (first | exact trivial | rfl | exact Nat.le_of_ble_eq_true rfl | refine And.intro ?_ ?_)) rfl rfl rfl rfl | exact sBSF (by repeat' (first | exact trivial | rfl | exact Nat.le_of_ble_eq_true rfl | refine And.intro ?_ ?_)) rfl rfl rfl rfl | exact sLe rfl | exact Chk.mk (by kernel_rfl) | exact ⟨Chk.mk (by kernel_rfl)⟩ | exact sLeEq rfl rfl | refine fun h => ?_)
      all_goals try (exact sRow (by omega) hgr rfl)
      all_goals try (exact fun hq => absurd hq (by decide))
      all_goals try (exact ⟨fun hq => absurd hq (by decide)⟩)
      all_goals try (exfalso; revert h; simp [mkB, mkTold, mkEntry, mkVote]; done)
      all_goals try (exfalso; have h3 := of_decide_eq_true h; omega)
      try clear h
      refine W.sub ⟨60, 0, [(0, .one (.ag ((mkL mkTold (ctK 5) xs k).map Told.cells))), (1, oi (kk + 4)), (5, oi i)], []⟩ [] ?_ ?_
      · repeat' (first | exact trivial | exact Side.mk rfl | exact Chk.mk (by kernel_rfl) | exact ⟨Chk.mk (by kernel_rfl)⟩ | exact sWrap (by omega) (by omega) (by omega) | exact ⟨by omega⟩ | refine And.intro ?_ ?_ | rfl)
      refine W.go [(52, .row (Told.cells (mkTold x kk)))] TTok hmo ?_
      repeat' (first | refine And.intro ?_ ?_ | exact tf | exact ft | refine tt ?_ | refine ff ?_ | exact ⟨trivial⟩ | exact sAll rfl | exact sF1 rfl | exact sBld (by repeat' (first | exact trivial | rfl | exact Nat.le_of_ble_eq_true rfl | refine And.intro ?_ ?_)) rfl | exact sBS (by repeat' (first | exact trivial | rfl | exact Nat.le_of_ble_eq_true rfl | refine And.intro ?_ ?_)) rfl rfl rfl rfl | exact sBSF (by repeat' (first | exact trivial | rfl | exact Nat.le_of_ble_eq_true rfl | refine And.intro ?_ ?_)) rfl rfl rfl rfl | exact sLe rfl | exact Chk.mk (by kernel_rfl) | exact ⟨Chk.mk (by kernel_rfl)⟩ | exact sLeEq rfl rfl | refine fun h => ?_)
      all_goals try (exact sRow (by omega) hgr rfl)
      all_goals try (exact fun hq => absurd hq (by decide))
      all_goals try (exact ⟨fun hq => absurd hq (by decide)⟩)
      all_goals try (exfalso; revert h; simp [mkB, mkTold, mkEntry, mkVote]; done)
      all_goals try (exfalso; have h3 := of_decide_eq_true h; omega)
      refine ⟨i + 1, [], by omega, by omega, ?_⟩
      repeat' (first | exact trivial | exact Side.mk rfl | exact Chk.mk (by kernel_rfl) | exact ⟨Chk.mk (by kernel_rfl)⟩ | exact sWrap (by omega) (by omega) (by omega) | exact ⟨by omega⟩ | refine And.intro ?_ ?_ | rfl)
    all_goals (have hle : xs.length ≤ i := by have := of_decide_eq_false h; rw [List.length_map, mkL_len] at this; omega)
    all_goals first | exact sKEo ⟨trivial, trivial⟩ hle | exact sKEo trivial hle | exact ⟨⟨trivial, trivial⟩⟩ | exact ⟨trivial⟩

theorem h_heldBoolS (xs : List Bool) (k : Int) (hk0 : 0 ≤ k) (hk1 : k ≤ 4000000000000000000) (hx : xs.length ≤ lim)  : Pure PP false 62 [.one (.fz ((mkL mkBool (ctK 1) xs k).map Bool.cells)), oi k] (oi (k + ctL (ctK 1) xs)) := by
  have hx0 : xs.length ≤ 1048576 := hx
  have hbd : ∀ x ∈ xs, 0 ≤ (ctK 1) x ∧ (ctK 1) x ≤ 1 := fun _ _ => ⟨by simp [ctK], by simp [ctK]⟩
  refine Pure.vc [] TTok hmo Go.Proofs.Try.func62 (by kernel_rfl) rfl (by kernel_rfl) ?_
  repeat' (first | refine And.intro ?_ ?_ | exact tf | exact ft | refine tt ?_ | refine ff ?_ | exact ⟨trivial⟩ | exact sAll rfl | exact sF1 rfl | exact sBld (by repeat' (first | exact trivial | rfl | exact Nat.le_of_ble_eq_true rfl | refine And.intro ?_ ?_)) rfl | exact sBS (by repeat' (first | exact trivial | rfl | exact Nat.le_of_ble_eq_true rfl | refine And.intro ?_ ?_)) rfl rfl rfl rfl | exact sBSF (by repeat' (first | exact trivial | rfl | exact Nat.le_of_ble_eq_true rfl | refine And.intro ?_ ?_)) rfl rfl rfl rfl | exact sLe rfl | exact Chk.mk (by kernel_rfl) | exact ⟨Chk.mk (by kernel_rfl)⟩ | exact sLeEq rfl rfl | refine fun h => ?_)
  refine W.loopC (D := Nat) (fun i => [(800004, .row [])]) TTok hmo (fun i => ⟨23, 0, [(0, .one (.ag ((mkL mkBool (ctK 1) xs k).map Bool.cells))), (1, oi (k + ctL (ctK 1) (xs.take i))), (5, oi i)], []⟩) (fun i => xs.length - i) (fun i => i ≤ xs.length) 0 [] (Nat.zero_le _) ?_ ?_
  · repeat' (first | exact trivial | exact Side.mk rfl | exact Chk.mk (by kernel_rfl) | exact ⟨Chk.mk (by kernel_rfl)⟩ | exact sK0 | refine And.intro ?_ ?_ | rfl)
  · intro i hi
    repeat' (first | refine And.intro ?_ ?_ | exact tf | exact ft | refine tt ?_ | refine ff ?_ | exact ⟨trivial⟩ | exact sAll rfl | exact sF1 rfl | exact sBld (by repeat' (first | exact trivial | rfl | exact Nat.le_of_ble_eq_true rfl | refine And.intro ?_ ?_)) rfl | exact sBS (by repeat' (first | exact trivial | rfl | exact Nat.le_of_ble_eq_true rfl | refine And.intro ?_ ?_)) rfl rfl rfl rfl | exact sBSF (by repeat' (first | exact trivial | rfl | exact Nat.le_of_ble_eq_true rfl | refine And.intro ?_ ?_)) rfl rfl rfl rfl | exact sLe rfl | exact Chk.mk (by kernel_rfl) | exact ⟨Chk.mk (by kernel_rfl)⟩ | exact sLeEq rfl rfl | refine fun h => ?_)
    · have hl : i < xs.length := by have := of_decide_eq_true h; rw [List.length_map, mkL_len] at this; omega
      have hct := ctL_bdt (i := i) (M := 1) (by decide) hbd
      have hce := hbd _ (getD_mem hl)
      have hct1 := ctL_take (ct := (ctK 1)) hl
      have hMb : (xs.length : Int) * 1 ≤ 10000000000000000 := by omega
      have hgt : (mkL mkBool (ctK 1) xs k)[i]? = some (mkBool (xs.getD i default) (k + ctL (ctK 1) (xs.take i))) := mkL_get hl
      have hkf : k + ctL (ctK 1) (xs.take (i + 1)) = k + ctL (ctK 1) (xs.take i) + (ctK 1) (xs.getD i default) := by omega
      clear h
      generalize hkk : k + ctL (ctK 1) (xs.take i) = kk at *
      generalize hxx : xs.getD i default = x at *
      have hgr : ((mkL mkBool (ctK 1) xs k).map Bool.cells)[i]? = some (Bool.cells (mkBool x kk)) := by rw [List.getElem?_map, hgt]; rfl
      have hcx : (ctK 1) x = 1 := rfl
      rw [hcx] at hkf hce
      refine W.go [(14, .row (Bool.cells (mkBool x kk)))] TTok hmo ?_
      repeat' (first | refine And.intro ?_ ?_ | exact tf | exact ft | refine tt ?_ | refine ff ?_ | exact ⟨trivial⟩ | exact sAll rfl | exact sF1 rfl | exact sBld (by repeat' (first | exact trivial | rfl | exact Nat.le_of_ble_eq_true rfl | refine And.intro ?_ ?_)) rfl | exact sBS (by repeat' (first | exact trivial | rfl | exact Nat.le_of_ble_eq_true rfl | refine And.intro ?_ ?_)) rfl rfl rfl rfl | exact sBSF (by repeat' (first | exact trivial | rfl | exact Nat.le_of_ble_eq_true rfl | refine And.intro ?_ ?_)) rfl rfl rfl rfl | exact sLe rfl | exact Chk.mk (by kernel_rfl) | exact ⟨Chk.mk (by kernel_rfl)⟩ | exact sLeEq rfl rfl | refine fun h => ?_)
      all_goals try (exact sRow (by omega) hgr rfl)
      all_goals try (exact fun hq => absurd hq (by decide))
      all_goals try (exact ⟨fun hq => absurd hq (by decide)⟩)
      all_goals try (exfalso; revert h; simp [mkB, mkBool, mkEntry, mkVote]; done)
      all_goals try (exfalso; have h3 := of_decide_eq_true h; omega)
      refine ⟨i + 1, [], by omega, by omega, ?_⟩
      repeat' (first | exact trivial | exact Side.mk rfl | exact Chk.mk (by kernel_rfl) | exact ⟨Chk.mk (by kernel_rfl)⟩ | exact sWrap (by omega) (by omega) (by omega) | exact ⟨by omega⟩ | refine And.intro ?_ ?_ | rfl)
    all_goals (have hle : xs.length ≤ i := by have := of_decide_eq_false h; rw [List.length_map, mkL_len] at this; omega)
    all_goals first | exact sKEo ⟨trivial, trivial⟩ hle | exact sKEo trivial hle | exact ⟨⟨trivial, trivial⟩⟩ | exact ⟨trivial⟩

theorem h_heldEntryS (xs : List Entry) (k : Int) (hk0 : 0 ≤ k) (hk1 : k ≤ 3000000000000000000) (hx : xs.length ≤ lim) (hv : ∀ v ∈ xs, v.ok lim) : Pure PP false 16 [.one (.fz ((mkL mkEntry ctEntry xs k).map Entry.cells)), oi k] (oi (k + ctL ctEntry xs)) := by
  have hx0 : xs.length ≤ 1048576 := hx
  have hbd : ∀ x ∈ xs, 0 ≤ ctEntry x ∧ ctEntry x ≤ 5000000 := fun x hx => ctEntry_bd (hv x hx)
  refine Pure.vc [] TTok hmo Go.Proofs.Try.func16 (by kernel_rfl) rfl (by kernel_rfl) ?_
  repeat' (first | refine And.intro ?_ ?_ | exact tf | exact ft | refine tt ?_ | refine ff ?_ | exact ⟨trivial⟩ | exact sAll rfl | exact sF1 rfl | exact sBld (by repeat' (first | exact trivial | rfl | exact Nat.le_of_ble_eq_true rfl | refine And.intro ?_ ?_)) rfl | exact sBS (by repeat' (first | exact trivial | rfl | exact Nat.le_of_ble_eq_true rfl | refine And.intro ?_ ?_)) rfl rfl rfl rfl | exact sBSF (by repeat' (first | exact trivial | rfl | exact Nat.le_of_ble_eq_true rfl | refine And.intro ?_ ?_)) rfl rfl rfl rfl | exact sLe rfl | exact Chk.mk (by kernel_rfl) | exact ⟨Chk.mk (by kernel_rfl)⟩ | exact sLeEq rfl rfl | refine fun h => ?_)
  refine W.loopC (D := Nat) (fun i => [(800004, .row [])]) TTok hmo (fun i => ⟨84, 0, [(0, .one (.ag ((mkL mkEntry ctEntry xs k).map Entry.cells))), (1, oi (k + ctL ctEntry (xs.take i))), (5, oi i)], []⟩) (fun i => xs.length - i) (fun i => i ≤ xs.length) 0 [] (Nat.zero_le _) ?_ ?_
  · repeat' (first | exact trivial | exact Side.mk rfl | exact Chk.mk (by kernel_rfl) | exact ⟨Chk.mk (by kernel_rfl)⟩ | exact sK0 | refine And.intro ?_ ?_ | rfl)
  · intro i hi
    repeat' (first | refine And.intro ?_ ?_ | exact tf | exact ft | refine tt ?_ | refine ff ?_ | exact ⟨trivial⟩ | exact sAll rfl | exact sF1 rfl | exact sBld (by repeat' (first | exact trivial | rfl | exact Nat.le_of_ble_eq_true rfl | refine And.intro ?_ ?_)) rfl | exact sBS (by repeat' (first | exact trivial | rfl | exact Nat.le_of_ble_eq_true rfl | refine And.intro ?_ ?_)) rfl rfl rfl rfl | exact sBSF (by repeat' (first | exact trivial | rfl | exact Nat.le_of_ble_eq_true rfl | refine And.intro ?_ ?_)) rfl rfl rfl rfl | exact sLe rfl | exact Chk.mk (by kernel_rfl) | exact ⟨Chk.mk (by kernel_rfl)⟩ | exact sLeEq rfl rfl | refine fun h => ?_)
    · have hl : i < xs.length := by have := of_decide_eq_true h; rw [List.length_map, mkL_len] at this; omega
      have hct := ctL_bdt (i := i) (M := 5000000) (by decide) hbd
      have hce := hbd _ (getD_mem hl)
      have hct1 := ctL_take (ct := ctEntry) hl
      have hMb : (xs.length : Int) * 5000000 ≤ 10000000000000000 := by omega
      have hgt : (mkL mkEntry ctEntry xs k)[i]? = some (mkEntry (xs.getD i default) (k + ctL ctEntry (xs.take i))) := mkL_get hl
      have hkf : k + ctL ctEntry (xs.take (i + 1)) = k + ctL ctEntry (xs.take i) + ctEntry (xs.getD i default) := by omega
      clear h
      generalize hkk : k + ctL ctEntry (xs.take i) = kk at *
      generalize hxx : xs.getD i default = x at *
      have hgr : ((mkL mkEntry ctEntry xs k).map Entry.cells)[i]? = some (Entry.cells (mkEntry x kk)) := by rw [List.getElem?_map, hgt]; rfl
      have hcx : ctEntry x = 5 + 2 * (x.run.reads.length : Int) + 2 * (x.run.puts.length : Int) := rfl
      rw [hcx] at hkf hce
      have hxo := hv x (by rw [← hxx]; exact getD_mem hl)
      refine W.go [(800007, .row []), (14, .row (Entry.cells (mkEntry x kk)))] TTok hmo ?_
      repeat' (first | refine And.intro ?_ ?_ | exact tf | exact ft | refine tt ?_ | refine ff ?_ | exact ⟨trivial⟩ | exact sAll rfl | exact sF1 rfl | exact sBld (by repeat' (first | exact trivial | rfl | exact Nat.le_of_ble_eq_true rfl | refine And.intro ?_ ?_)) rfl | exact sBS (by repeat' (first | exact trivial | rfl | exact Nat.le_of_ble_eq_true rfl | refine And.intro ?_ ?_)) rfl rfl rfl rfl | exact sBSF (by repeat' (first | exact trivial | rfl | exact Nat.le_of_ble_eq_true rfl | refine And.intro ?_ ?_)) rfl rfl rfl rfl | exact sLe rfl | exact Chk.mk (by kernel_rfl) | exact ⟨Chk.mk (by kernel_rfl)⟩ | exact sLeEq rfl rfl | refine fun h => ?_)
      all_goals try (exact sRow (by omega) hgr rfl)
      all_goals try (exact fun hq => absurd hq (by decide))
      all_goals try (exact ⟨fun hq => absurd hq (by decide)⟩)
      all_goals try (exfalso; revert h; simp [mkB, mkEntry, mkEntry, mkVote]; done)
      all_goals try (exfalso; have h3 := of_decide_eq_true h; omega)
      try clear h
      refine W.sub ⟨84, 0, [(0, .one (.ag ((mkL mkEntry ctEntry xs k).map Entry.cells))), (1, oi (kk + 1)), (5, oi i)], []⟩ [] ?_ ?_
      · repeat' (first | exact trivial | exact Side.mk rfl | exact Chk.mk (by kernel_rfl) | exact ⟨Chk.mk (by kernel_rfl)⟩ | exact sWrap (by omega) (by omega) (by omega) | exact ⟨by omega⟩ | refine And.intro ?_ ?_ | rfl)
      refine W.go [(800010, .row []), (25, .row (Entry.cells (mkEntry x kk)))] TTok hmo ?_
      repeat' (first | refine And.intro ?_ ?_ | exact tf | exact ft | refine tt ?_ | refine ff ?_ | exact ⟨trivial⟩ | exact sAll rfl | exact sF1 rfl | exact sBld (by repeat' (first | exact trivial | rfl | exact Nat.le_of_ble_eq_true rfl | refine And.intro ?_ ?_)) rfl | exact sBS (by repeat' (first | exact trivial | rfl | exact Nat.le_of_ble_eq_true rfl | refine And.intro ?_ ?_)) rfl rfl rfl rfl | exact sBSF (by repeat' (first | exact trivial | rfl | exact Nat.le_of_ble_eq_true rfl | refine And.intro ?_ ?_)) rfl rfl rfl rfl | exact sLe rfl | exact Chk.mk (by kernel_rfl) | exact ⟨Chk.mk (by kernel_rfl)⟩ | exact sLeEq rfl rfl | refine fun h => ?_)
      all_goals try (exact sRow (by omega) hgr rfl)
      all_goals try (exact fun hq => absurd hq (by decide))
      all_goals try (exact ⟨fun hq => absurd hq (by decide)⟩)
      all_goals try (exfalso; revert h; simp [mkB, mkEntry, mkEntry, mkVote]; done)
      all_goals try (exfalso; have h3 := of_decide_eq_true h; omega)
      try clear h
      refine W.sub ⟨84, 0, [(0, .one (.ag ((mkL mkEntry ctEntry xs k).map Entry.cells))), (1, oi (kk + 2)), (5, oi i)], []⟩ [] ?_ ?_
      · repeat' (first | exact trivial | exact Side.mk rfl | exact Chk.mk (by kernel_rfl) | exact ⟨Chk.mk (by kernel_rfl)⟩ | exact sWrap (by omega) (by omega) (by omega) | exact ⟨by omega⟩ | refine And.intro ?_ ?_ | rfl)
      refine W.go [(800013, .row []), (35, .row (Entry.cells (mkEntry x kk)))] TTok hmo ?_
      repeat' (first | refine And.intro ?_ ?_ | exact tf | exact ft | refine tt ?_ | refine ff ?_ | exact ⟨trivial⟩ | exact sAll rfl | exact sF1 rfl | exact sBld (by repeat' (first | exact trivial | rfl | exact Nat.le_of_ble_eq_true rfl | refine And.intro ?_ ?_)) rfl | exact sBS (by repeat' (first | exact trivial | rfl | exact Nat.le_of_ble_eq_true rfl | refine And.intro ?_ ?_)) rfl rfl rfl rfl | exact sBSF (by repeat' (first | exact trivial | rfl | exact Nat.le_of_ble_eq_true rfl | refine And.intro ?_ ?_)) rfl rfl rfl rfl | exact sLe rfl | exact Chk.mk (by kernel_rfl) | exact ⟨Chk.mk (by kernel_rfl)⟩ | exact sLeEq rfl rfl | refine fun h => ?_)
      all_goals try (exact sRow (by omega) hgr rfl)
      all_goals try (exact fun hq => absurd hq (by decide))
      all_goals try (exact ⟨fun hq => absurd hq (by decide)⟩)
      all_goals try (exfalso; revert h; simp [mkB, mkEntry, mkEntry, mkVote]; done)
      all_goals try (exfalso; have h3 := of_decide_eq_true h; omega)
      try clear h
      refine W.sub ⟨84, 0, [(0, .one (.ag ((mkL mkEntry ctEntry xs k).map Entry.cells))), (1, oi (kk + 3)), (5, oi i)], []⟩ [] ?_ ?_
      · repeat' (first | exact trivial | exact Side.mk rfl | exact Chk.mk (by kernel_rfl) | exact ⟨Chk.mk (by kernel_rfl)⟩ | exact sWrap (by omega) (by omega) (by omega) | exact ⟨by omega⟩ | refine And.intro ?_ ?_ | rfl)
      have q1 := h_heldReadS x.run.reads (kk + 3) (by omega) (by omega) hxo.1
      have q2 := pure_eq (k2 := kk + 3 + 2 * (x.run.reads.length : Int)) q1 (by have := ctTwos x.run.reads; omega)
      refine W.go [(800016, .row []), (45, .row (Entry.cells (mkEntry x kk))), (50, .res (oi (kk + 3 + 2 * (x.run.reads.length : Int))))] TTok hmo ?_
      repeat' (first | refine And.intro ?_ ?_ | exact tf | exact ft | refine tt ?_ | refine ff ?_ | exact ⟨trivial⟩ | exact sAll rfl | exact sF1 rfl | exact sBld (by repeat' (first | exact trivial | rfl | exact Nat.le_of_ble_eq_true rfl | refine And.intro ?_ ?_)) rfl | exact sBS (by repeat' (first | exact trivial | rfl | exact Nat.le_of_ble_eq_true rfl | refine And.intro ?_ ?_)) rfl rfl rfl rfl | exact sBSF (by repeat' (first | exact trivial | rfl | exact Nat.le_of_ble_eq_true rfl | refine And.intro ?_ ?_)) rfl rfl rfl rfl | exact sLe rfl | exact Chk.mk (by kernel_rfl) | exact ⟨Chk.mk (by kernel_rfl)⟩ | exact sLeEq rfl rfl | refine fun h => ?_)
      all_goals try (exact sAnd (by repeat' constructor) q2)
      all_goals try (exact sRow (by omega) hgr rfl)
      all_goals try (exact fun hq => absurd hq (by decide))
      all_goals try (exact ⟨fun hq => absurd hq (by decide)⟩)
      all_goals try (exfalso; revert h; simp [mkB, mkEntry, mkEntry, mkVote]; done)
      all_goals try (exfalso; have h3 := of_decide_eq_true h; omega)
      try clear h
      refine W.sub ⟨84, 0, [(0, .one (.ag ((mkL mkEntry ctEntry xs k).map Entry.cells))), (1, oi (kk + 3 + 2 * (x.run.reads.length : Int))), (5, oi i)], []⟩ [] ?_ ?_
      · repeat' (first | exact trivial | exact Side.mk rfl | exact Chk.mk (by kernel_rfl) | exact ⟨Chk.mk (by kernel_rfl)⟩ | exact sWrap (by omega) (by omega) (by omega) | exact ⟨by omega⟩ | refine And.intro ?_ ?_ | rfl)
      have q1 := h_heldPutS x.run.puts (kk + 3 + 2 * (x.run.reads.length : Int)) (by omega) (by omega) hxo.2
      have q2 := pure_eq (k2 := kk + 3 + 2 * (x.run.reads.length : Int) + 2 * (x.run.puts.length : Int)) q1 (by have := ctTwos x.run.puts; omega)
      refine W.go [(800019, .row []), (55, .row (Entry.cells (mkEntry x kk))), (60, .res (oi (kk + 3 + 2 * (x.run.reads.length : Int) + 2 * (x.run.puts.length : Int))))] TTok hmo ?_
      repeat' (first | refine And.intro ?_ ?_ | exact tf | exact ft | refine tt ?_ | refine ff ?_ | exact ⟨trivial⟩ | exact sAll rfl | exact sF1 rfl | exact sBld (by repeat' (first | exact trivial | rfl | exact Nat.le_of_ble_eq_true rfl | refine And.intro ?_ ?_)) rfl | exact sBS (by repeat' (first | exact trivial | rfl | exact Nat.le_of_ble_eq_true rfl | refine And.intro ?_ ?_)) rfl rfl rfl rfl | exact sBSF (by repeat' (first | exact trivial | rfl | exact Nat.le_of_ble_eq_true rfl | refine And.intro ?_ ?_)) rfl rfl rfl rfl | exact sLe rfl | exact Chk.mk (by kernel_rfl) | exact ⟨Chk.mk (by kernel_rfl)⟩ | exact sLeEq rfl rfl | refine fun h => ?_)
      all_goals try (exact sAnd (by repeat' constructor) q2)
      all_goals try (exact sRow (by omega) hgr rfl)
      all_goals try (exact fun hq => absurd hq (by decide))
      all_goals try (exact ⟨fun hq => absurd hq (by decide)⟩)
      all_goals try (exfalso; revert h; simp [mkB, mkEntry, mkEntry, mkVote]; done)
      all_goals try (exfalso; have h3 := of_decide_eq_true h; omega)
      try clear h
      refine W.sub ⟨84, 0, [(0, .one (.ag ((mkL mkEntry ctEntry xs k).map Entry.cells))), (1, oi (kk + 3 + 2 * (x.run.reads.length : Int) + 2 * (x.run.puts.length : Int))), (5, oi i)], []⟩ [] ?_ ?_
      · repeat' (first | exact trivial | exact Side.mk rfl | exact Chk.mk (by kernel_rfl) | exact ⟨Chk.mk (by kernel_rfl)⟩ | exact sWrap (by omega) (by omega) (by omega) | exact ⟨by omega⟩ | refine And.intro ?_ ?_ | rfl)
      refine W.go [(800022, .row []), (65, .row (Entry.cells (mkEntry x kk)))] TTok hmo ?_
      repeat' (first | refine And.intro ?_ ?_ | exact tf | exact ft | refine tt ?_ | refine ff ?_ | exact ⟨trivial⟩ | exact sAll rfl | exact sF1 rfl | exact sBld (by repeat' (first | exact trivial | rfl | exact Nat.le_of_ble_eq_true rfl | refine And.intro ?_ ?_)) rfl | exact sBS (by repeat' (first | exact trivial | rfl | exact Nat.le_of_ble_eq_true rfl | refine And.intro ?_ ?_)) rfl rfl rfl rfl | exact sBSF (by repeat' (first | exact trivial | rfl | exact Nat.le_of_ble_eq_true rfl | refine And.intro ?_ ?_)) rfl rfl rfl rfl | exact sLe rfl | exact Chk.mk (by kernel_rfl) | exact ⟨Chk.mk (by kernel_rfl)⟩ | exact sLeEq rfl rfl | refine fun h => ?_)
      all_goals try (exact sRow (by omega) hgr rfl)
      all_goals try (exact fun hq => absurd hq (by decide))
      all_goals try (exact ⟨fun hq => absurd hq (by decide)⟩)
      all_goals try (exfalso; revert h; simp [mkB, mkEntry, mkEntry, mkVote]; done)
      all_goals try (exfalso; have h3 := of_decide_eq_true h; omega)
      try clear h
      refine W.sub ⟨84, 0, [(0, .one (.ag ((mkL mkEntry ctEntry xs k).map Entry.cells))), (1, oi (kk + 4 + 2 * (x.run.reads.length : Int) + 2 * (x.run.puts.length : Int))), (5, oi i)], []⟩ [] ?_ ?_
      · repeat' (first | exact trivial | exact Side.mk rfl | exact Chk.mk (by kernel_rfl) | exact ⟨Chk.mk (by kernel_rfl)⟩ | exact sWrap (by omega) (by omega) (by omega) | exact ⟨by omega⟩ | refine And.intro ?_ ?_ | rfl)
      refine W.go [(75, .row (Entry.cells (mkEntry x kk)))] TTok hmo ?_
      repeat' (first | refine And.intro ?_ ?_ | exact tf | exact ft | refine tt ?_ | refine ff ?_ | exact ⟨trivial⟩ | exact sAll rfl | exact sF1 rfl | exact sBld (by repeat' (first | exact trivial | rfl | exact Nat.le_of_ble_eq_true rfl | refine And.intro ?_ ?_)) rfl | exact sBS (by repeat' (first | exact trivial | rfl | exact Nat.le_of_ble_eq_true rfl | refine And.intro ?_ ?_)) rfl rfl rfl rfl | exact sBSF (by repeat' (first | exact trivial | rfl | exact Nat.le_of_ble_eq_true rfl | refine And.intro ?_ ?_)) rfl rfl rfl rfl | exact sLe rfl | exact Chk.mk (by kernel_rfl) | exact ⟨Chk.mk (by kernel_rfl)⟩ | exact sLeEq rfl rfl | refine fun h => ?_)
      all_goals try (exact sRow (by omega) hgr rfl)
      all_goals try (exact fun hq => absurd hq (by decide))
      all_goals try (exact ⟨fun hq => absurd hq (by decide)⟩)
      all_goals try (exfalso; revert h; simp [mkB, mkEntry, mkEntry, mkVote]; done)
      all_goals try (exfalso; have h3 := of_decide_eq_true h; omega)
      refine ⟨i + 1, [], by omega, by omega, ?_⟩
      repeat' (first | exact trivial | exact Side.mk rfl | exact Chk.mk (by kernel_rfl) | exact ⟨Chk.mk (by kernel_rfl)⟩ | exact sWrap (by omega) (by omega) (by omega) | exact ⟨by omega⟩ | refine And.intro ?_ ?_ | rfl)
    all_goals (have hle : xs.length ≤ i := by have := of_decide_eq_false h; rw [List.length_map, mkL_len] at this; omega)
    all_goals first | exact sKEo ⟨trivial, trivial⟩ hle | exact sKEo trivial hle | exact ⟨⟨trivial, trivial⟩⟩ | exact ⟨trivial⟩

theorem h_heldVoteS (xs : List Vote) (k : Int) (hk0 : 0 ≤ k) (hk1 : k ≤ 3000000000000000000) (hx : xs.length ≤ lim) (hv : ∀ v ∈ xs, v.ok lim) : Pure PP false 61 [.one (.fz ((mkL mkVote ctVote xs k).map Vote.cells)), oi k] (oi (k + ctL ctVote xs)) := by
  have hx0 : xs.length ≤ 1048576 := hx
  have hbd : ∀ x ∈ xs, 0 ≤ ctVote x ∧ ctVote x ≤ 5000001 := fun x hx => ctVote_bd (hv x hx)
  refine Pure.vc [] TTok hmo Go.Proofs.Try.func61 (by kernel_rfl) rfl (by kernel_rfl) ?_
  repeat' (first | refine And.intro ?_ ?_ | exact tf | exact ft | refine tt ?_ | refine ff ?_ | exact ⟨trivial⟩ | exact sAll rfl | exact sF1 rfl | exact sBld (by repeat' (first | exact trivial | rfl | exact Nat.le_of_ble_eq_true rfl | refine And.intro ?_ ?_)) rfl | exact sBS (by repeat' (first | exact trivial | rfl | exact Nat.le_of_ble_eq_true rfl | refine And.intro ?_ ?_)) rfl rfl rfl rfl | exact sBSF (by repeat' (first | exact trivial | rfl | exact Nat.le_of_ble_eq_true rfl | refine And.intro ?_ ?_)) rfl rfl rfl rfl | exact sLe rfl | exact Chk.mk (by kernel_rfl) | exact ⟨Chk.mk (by kernel_rfl)⟩ | exact sLeEq rfl rfl | refine fun h => ?_)
  refine W.loopC (D := Nat) (fun i => [(800004, .row [])]) TTok hmo (fun i => ⟨100, 0, [(0, .one (.ag ((mkL mkVote ctVote xs k).map Vote.cells))), (1, oi (k + ctL ctVote (xs.take i))), (5, oi i)], []⟩) (fun i => xs.length - i) (fun i => i ≤ xs.length) 0 [] (Nat.zero_le _) ?_ ?_
  · repeat' (first | exact trivial | exact Side.mk rfl | exact Chk.mk (by kernel_rfl) | exact ⟨Chk.mk (by kernel_rfl)⟩ | exact sK0 | refine And.intro ?_ ?_ | rfl)
  · intro i hi
    repeat' (first | refine And.intro ?_ ?_ | exact tf | exact ft | refine tt ?_ | refine ff ?_ | exact ⟨trivial⟩ | exact sAll rfl | exact sF1 rfl | exact sBld (by repeat' (first | exact trivial | rfl | exact Nat.le_of_ble_eq_true rfl | refine And.intro ?_ ?_)) rfl | exact sBS (by repeat' (first | exact trivial | rfl | exact Nat.le_of_ble_eq_true rfl | refine And.intro ?_ ?_)) rfl rfl rfl rfl | exact sBSF (by repeat' (first | exact trivial | rfl | exact Nat.le_of_ble_eq_true rfl | refine And.intro ?_ ?_)) rfl rfl rfl rfl | exact sLe rfl | exact Chk.mk (by kernel_rfl) | exact ⟨Chk.mk (by kernel_rfl)⟩ | exact sLeEq rfl rfl | refine fun h => ?_)
    · have hl : i < xs.length := by have := of_decide_eq_true h; rw [List.length_map, mkL_len] at this; omega
      have hct := ctL_bdt (i := i) (M := 5000001) (by decide) hbd
      have hce := hbd _ (getD_mem hl)
      have hct1 := ctL_take (ct := ctVote) hl
      have hMb : (xs.length : Int) * 5000001 ≤ 10000000000000000 := by omega
      have hgt : (mkL mkVote ctVote xs k)[i]? = some (mkVote (xs.getD i default) (k + ctL ctVote (xs.take i))) := mkL_get hl
      have hkf : k + ctL ctVote (xs.take (i + 1)) = k + ctL ctVote (xs.take i) + ctVote (xs.getD i default) := by omega
      clear h
      generalize hkk : k + ctL ctVote (xs.take i) = kk at *
      generalize hxx : xs.getD i default = x at *
      have hgr : ((mkL mkVote ctVote xs k).map Vote.cells)[i]? = some (Vote.cells (mkVote x kk)) := by rw [List.getElem?_map, hgt]; rfl
      have hcx : ctVote x = 6 + 2 * (x.e.run.reads.length : Int) + 2 * (x.e.run.puts.length : Int) := rfl
      rw [hcx] at hkf hce
      have hxo := hv x (by rw [← hxx]; exact getD_mem hl)
      refine W.go [(800007, .row []), (14, .row (Vote.cells (mkVote x kk)))] TTok hmo ?_
      repeat' (first | refine And.intro ?_ ?_ | exact tf | exact ft | refine tt ?_ | refine ff ?_ | exact ⟨trivial⟩ | exact sAll rfl | exact sF1 rfl | exact sBld (by repeat' (first | exact trivial | rfl | exact Nat.le_of_ble_eq_true rfl | refine And.intro ?_ ?_)) rfl | exact sBS (by repeat' (first | exact trivial | rfl | exact Nat.le_of_ble_eq_true rfl | refine And.intro ?_ ?_)) rfl rfl rfl rfl | exact sBSF (by repeat' (first | exact trivial | rfl | exact Nat.le_of_ble_eq_true rfl | refine And.intro ?_ ?_)) rfl rfl rfl rfl | exact sLe rfl | exact Chk.mk (by kernel_rfl) | exact ⟨Chk.mk (by kernel_rfl)⟩ | exact sLeEq rfl rfl | refine fun h => ?_)
      all_goals try (exact sRow (by omega) hgr rfl)
      all_goals try (exact fun hq => absurd hq (by decide))
      all_goals try (exact ⟨fun hq => absurd hq (by decide)⟩)
      all_goals try (exfalso; revert h; simp [mkB, mkVote, mkEntry, mkVote]; done)
      all_goals try (exfalso; have h3 := of_decide_eq_true h; omega)
      try clear h
      refine W.sub ⟨100, 0, [(0, .one (.ag ((mkL mkVote ctVote xs k).map Vote.cells))), (1, oi (kk + 1)), (5, oi i)], []⟩ [] ?_ ?_
      · repeat' (first | exact trivial | exact Side.mk rfl | exact Chk.mk (by kernel_rfl) | exact ⟨Chk.mk (by kernel_rfl)⟩ | exact sWrap (by omega) (by omega) (by omega) | exact ⟨by omega⟩ | refine And.intro ?_ ?_ | rfl)
      refine W.go [(800010, .row []), (23, .row (Vote.cells (mkVote x kk)))] TTok hmo ?_
      repeat' (first | refine And.intro ?_ ?_ | exact tf | exact ft | refine tt ?_ | refine ff ?_ | exact ⟨trivial⟩ | exact sAll rfl | exact sF1 rfl | exact sBld (by repeat' (first | exact trivial | rfl | exact Nat.le_of_ble_eq_true rfl | refine And.intro ?_ ?_)) rfl | exact sBS (by repeat' (first | exact trivial | rfl | exact Nat.le_of_ble_eq_true rfl | refine And.intro ?_ ?_)) rfl rfl rfl rfl | exact sBSF (by repeat' (first | exact trivial | rfl | exact Nat.le_of_ble_eq_true rfl | refine And.intro ?_ ?_)) rfl rfl rfl rfl | exact sLe rfl | exact Chk.mk (by kernel_rfl) | exact ⟨Chk.mk (by kernel_rfl)⟩ | exact sLeEq rfl rfl | refine fun h => ?_)
      all_goals try (exact sRow (by omega) hgr rfl)
      all_goals try (exact fun hq => absurd hq (by decide))
      all_goals try (exact ⟨fun hq => absurd hq (by decide)⟩)
      all_goals try (exfalso; revert h; simp [mkB, mkVote, mkEntry, mkVote]; done)
      all_goals try (exfalso; have h3 := of_decide_eq_true h; omega)
      try clear h
      refine W.sub ⟨100, 0, [(0, .one (.ag ((mkL mkVote ctVote xs k).map Vote.cells))), (1, oi (kk + 2)), (5, oi i)], []⟩ [] ?_ ?_
      · repeat' (first | exact trivial | exact Side.mk rfl | exact Chk.mk (by kernel_rfl) | exact ⟨Chk.mk (by kernel_rfl)⟩ | exact sWrap (by omega) (by omega) (by omega) | exact ⟨by omega⟩ | refine And.intro ?_ ?_ | rfl)
      refine W.go [(800013, .row []), (35, .row (Vote.cells (mkVote x kk)))] TTok hmo ?_
      repeat' (first | refine And.intro ?_ ?_ | exact tf | exact ft | refine tt ?_ | refine ff ?_ | exact ⟨trivial⟩ | exact sAll rfl | exact sF1 rfl | exact sBld (by repeat' (first | exact trivial | rfl | exact Nat.le_of_ble_eq_true rfl | refine And.intro ?_ ?_)) rfl | exact sBS (by repeat' (first | exact trivial | rfl | exact Nat.le_of_ble_eq_true rfl | refine And.intro ?_ ?_)) rfl rfl rfl rfl | exact sBSF (by repeat' (first | exact trivial | rfl | exact Nat.le_of_ble_eq_true rfl | refine And.intro ?_ ?_)) rfl rfl rfl rfl | exact sLe rfl | exact Chk.mk (by kernel_rfl) | exact ⟨Chk.mk (by kernel_rfl)⟩ | exact sLeEq rfl rfl | refine fun h => ?_)
      all_goals try (exact sRow (by omega) hgr rfl)
      all_goals try (exact fun hq => absurd hq (by decide))
      all_goals try (exact ⟨fun hq => absurd hq (by decide)⟩)
      all_goals try (exfalso; revert h; simp [mkB, mkVote, mkEntry, mkVote]; done)
      all_goals try (exfalso; have h3 := of_decide_eq_true h; omega)
      try clear h
      refine W.sub ⟨100, 0, [(0, .one (.ag ((mkL mkVote ctVote xs k).map Vote.cells))), (1, oi (kk + 3)), (5, oi i)], []⟩ [] ?_ ?_
      · repeat' (first | exact trivial | exact Side.mk rfl | exact Chk.mk (by kernel_rfl) | exact ⟨Chk.mk (by kernel_rfl)⟩ | exact sWrap (by omega) (by omega) (by omega) | exact ⟨by omega⟩ | refine And.intro ?_ ?_ | rfl)
      refine W.go [(800016, .row []), (46, .row (Vote.cells (mkVote x kk)))] TTok hmo ?_
      repeat' (first | refine And.intro ?_ ?_ | exact tf | exact ft | refine tt ?_ | refine ff ?_ | exact ⟨trivial⟩ | exact sAll rfl | exact sF1 rfl | exact sBld (by repeat' (first | exact trivial | rfl | exact Nat.le_of_ble_eq_true rfl | refine And.intro ?_ ?_)) rfl | exact sBS (by repeat' (first | exact trivial | rfl | exact Nat.le_of_ble_eq_true rfl | refine And.intro ?_ ?_)) rfl rfl rfl rfl | exact sBSF (by repeat' (first | exact trivial | rfl | exact Nat.le_of_ble_eq_true rfl | refine And.intro ?_ ?_)) rfl rfl rfl rfl | exact sLe rfl | exact Chk.mk (by kernel_rfl) | exact ⟨Chk.mk (by kernel_rfl)⟩ | exact sLeEq rfl rfl | refine fun h => ?_)
      all_goals try (exact sRow (by omega) hgr rfl)
      all_goals try (exact fun hq => absurd hq (by decide))
      all_goals try (exact ⟨fun hq => absurd hq (by decide)⟩)
      all_goals try (exfalso; revert h; simp [mkB, mkVote, mkEntry, mkVote]; done)
      all_goals try (exfalso; have h3 := of_decide_eq_true h; omega)
      try clear h
      refine W.sub ⟨100, 0, [(0, .one (.ag ((mkL mkVote ctVote xs k).map Vote.cells))), (1, oi (kk + 4)), (5, oi i)], []⟩ [] ?_ ?_
      · repeat' (first | exact trivial | exact Side.mk rfl | exact Chk.mk (by kernel_rfl) | exact ⟨Chk.mk (by kernel_rfl)⟩ | exact sWrap (by omega) (by omega) (by omega) | exact ⟨by omega⟩ | refine And.intro ?_ ?_ | rfl)
      have q1 := h_heldReadS x.e.run.reads (kk + 4) (by omega) (by omega) hxo.1
      have q2 := pure_eq (k2 := kk + 4 + 2 * (x.e.run.reads.length : Int)) q1 (by have := ctTwos x.e.run.reads; omega)
      refine W.go [(800019, .row []), (57, .row (Vote.cells (mkVote x kk))), (63, .res (oi (kk + 4 + 2 * (x.e.run.reads.length : Int))))] TTok hmo ?_
      repeat' (first | refine And.intro ?_ ?_ | exact tf | exact ft | refine tt ?_ | refine ff ?_ | exact ⟨trivial⟩ | exact sAll rfl | exact sF1 rfl | exact sBld (by repeat' (first | exact trivial | rfl | exact Nat.le_of_ble_eq_true rfl | refine And.intro ?_ ?_)) rfl | exact sBS (by repeat' (first | exact trivial | rfl | exact Nat.le_of_ble_eq_true rfl | refine And.intro ?_ ?_)) rfl rfl rfl rfl | exact sBSF (by repeat' (first | exact trivial | rfl | exact Nat.le_of_ble_eq_true rfl | refine And.intro ?_ ?_)) rfl rfl rfl rfl | exact sLe rfl | exact Chk.mk (by kernel_rfl) | exact ⟨Chk.mk (by kernel_rfl)⟩ | exact sLeEq rfl rfl | refine fun h => ?_)
      all_goals try (exact sAnd (by repeat' constructor) q2)
      all_goals try (exact sRow (by omega) hgr rfl)
      all_goals try (exact fun hq => absurd hq (by decide))
      all_goals try (exact ⟨fun hq => absurd hq (by decide)⟩)
      all_goals try (exfalso; revert h; simp [mkB, mkVote, mkEntry, mkVote]; done)
      all_goals try (exfalso; have h3 := of_decide_eq_true h; omega)
      try clear h
      refine W.sub ⟨100, 0, [(0, .one (.ag ((mkL mkVote ctVote xs k).map Vote.cells))), (1, oi (kk + 4 + 2 * (x.e.run.reads.length : Int))), (5, oi i)], []⟩ [] ?_ ?_
      · repeat' (first | exact trivial | exact Side.mk rfl | exact Chk.mk (by kernel_rfl) | exact ⟨Chk.mk (by kernel_rfl)⟩ | exact sWrap (by omega) (by omega) (by omega) | exact ⟨by omega⟩ | refine And.intro ?_ ?_ | rfl)
      have q1 := h_heldPutS x.e.run.puts (kk + 4 + 2 * (x.e.run.reads.length : Int)) (by omega) (by omega) hxo.2
      have q2 := pure_eq (k2 := kk + 4 + 2 * (x.e.run.reads.length : Int) + 2 * (x.e.run.puts.length : Int)) q1 (by have := ctTwos x.e.run.puts; omega)
      refine W.go [(800022, .row []), (68, .row (Vote.cells (mkVote x kk))), (74, .res (oi (kk + 4 + 2 * (x.e.run.reads.length : Int) + 2 * (x.e.run.puts.length : Int))))] TTok hmo ?_
      repeat' (first | refine And.intro ?_ ?_ | exact tf | exact ft | refine tt ?_ | refine ff ?_ | exact ⟨trivial⟩ | exact sAll rfl | exact sF1 rfl | exact sBld (by repeat' (first | exact trivial | rfl | exact Nat.le_of_ble_eq_true rfl | refine And.intro ?_ ?_)) rfl | exact sBS (by repeat' (first | exact trivial | rfl | exact Nat.le_of_ble_eq_true rfl | refine And.intro ?_ ?_)) rfl rfl rfl rfl | exact sBSF (by repeat' (first | exact trivial | rfl | exact Nat.le_of_ble_eq_true rfl | refine And.intro ?_ ?_)) rfl rfl rfl rfl | exact sLe rfl | exact Chk.mk (by kernel_rfl) | exact ⟨Chk.mk (by kernel_rfl)⟩ | exact sLeEq rfl rfl | refine fun h => ?_)
      all_goals try (exact sAnd (by repeat' constructor) q2)
      all_goals try (exact sRow (by omega) hgr rfl)
      all_goals try (exact fun hq => absurd hq (by decide))
      all_goals try (exact ⟨fun hq => absurd hq (by decide)⟩)
      all_goals try (exfalso; revert h; simp [mkB, mkVote, mkEntry, mkVote]; done)
      all_goals try (exfalso; have h3 := of_decide_eq_true h; omega)
      try clear h
      refine W.sub ⟨100, 0, [(0, .one (.ag ((mkL mkVote ctVote xs k).map Vote.cells))), (1, oi (kk + 4 + 2 * (x.e.run.reads.length : Int) + 2 * (x.e.run.puts.length : Int))), (5, oi i)], []⟩ [] ?_ ?_
      · repeat' (first | exact trivial | exact Side.mk rfl | exact Chk.mk (by kernel_rfl) | exact ⟨Chk.mk (by kernel_rfl)⟩ | exact sWrap (by omega) (by omega) (by omega) | exact ⟨by omega⟩ | refine And.intro ?_ ?_ | rfl)
      refine W.go [(800025, .row []), (79, .row (Vote.cells (mkVote x kk)))] TTok hmo ?_
      repeat' (first | refine And.intro ?_ ?_ | exact tf | exact ft | refine tt ?_ | refine ff ?_ | exact ⟨trivial⟩ | exact sAll rfl | exact sF1 rfl | exact sBld (by repeat' (first | exact trivial | rfl | exact Nat.le_of_ble_eq_true rfl | refine And.intro ?_ ?_)) rfl | exact sBS (by repeat' (first | exact trivial | rfl | exact Nat.le_of_ble_eq_true rfl | refine And.intro ?_ ?_)) rfl rfl rfl rfl | exact sBSF (by repeat' (first | exact trivial | rfl | exact Nat.le_of_ble_eq_true rfl | refine And.intro ?_ ?_)) rfl rfl rfl rfl | exact sLe rfl | exact Chk.mk (by kernel_rfl) | exact ⟨Chk.mk (by kernel_rfl)⟩ | exact sLeEq rfl rfl | refine fun h => ?_)
      all_goals try (exact sRow (by omega) hgr rfl)
      all_goals try (exact fun hq => absurd hq (by decide))
      all_goals try (exact ⟨fun hq => absurd hq (by decide)⟩)
      all_goals try (exfalso; revert h; simp [mkB, mkVote, mkEntry, mkVote]; done)
      all_goals try (exfalso; have h3 := of_decide_eq_true h; omega)
      try clear h
      refine W.sub ⟨100, 0, [(0, .one (.ag ((mkL mkVote ctVote xs k).map Vote.cells))), (1, oi (kk + 5 + 2 * (x.e.run.reads.length : Int) + 2 * (x.e.run.puts.length : Int))), (5, oi i)], []⟩ [] ?_ ?_
      · repeat' (first | exact trivial | exact Side.mk rfl | exact Chk.mk (by kernel_rfl) | exact ⟨Chk.mk (by kernel_rfl)⟩ | exact sWrap (by omega) (by omega) (by omega) | exact ⟨by omega⟩ | refine And.intro ?_ ?_ | rfl)
      refine W.go [(90, .row (Vote.cells (mkVote x kk)))] TTok hmo ?_
      repeat' (first | refine And.intro ?_ ?_ | exact tf | exact ft | refine tt ?_ | refine ff ?_ | exact ⟨trivial⟩ | exact sAll rfl | exact sF1 rfl | exact sBld (by repeat' (first | exact trivial | rfl | exact Nat.le_of_ble_eq_true rfl | refine And.intro ?_ ?_)) rfl | exact sBS (by repeat' (first | exact trivial | rfl | exact Nat.le_of_ble_eq_true rfl | refine And.intro ?_ ?_)) rfl rfl rfl rfl | exact sBSF (by repeat' (first | exact trivial | rfl | exact Nat.le_of_ble_eq_true rfl | refine And.intro ?_ ?_)) rfl rfl rfl rfl | exact sLe rfl | exact Chk.mk (by kernel_rfl) | exact ⟨Chk.mk (by kernel_rfl)⟩ | exact sLeEq rfl rfl | refine fun h => ?_)
      all_goals try (exact sRow (by omega) hgr rfl)
      all_goals try (exact fun hq => absurd hq (by decide))
      all_goals try (exact ⟨fun hq => absurd hq (by decide)⟩)
      all_goals try (exfalso; revert h; simp [mkB, mkVote, mkEntry, mkVote]; done)
      all_goals try (exfalso; have h3 := of_decide_eq_true h; omega)
      refine ⟨i + 1, [], by omega, by omega, ?_⟩
      repeat' (first | exact trivial | exact Side.mk rfl | exact Chk.mk (by kernel_rfl) | exact ⟨Chk.mk (by kernel_rfl)⟩ | exact sWrap (by omega) (by omega) (by omega) | exact ⟨by omega⟩ | refine And.intro ?_ ?_ | rfl)
    all_goals (have hle : xs.length ≤ i := by have := of_decide_eq_false h; rw [List.length_map, mkL_len] at this; omega)
    all_goals first | exact sKEo ⟨trivial, trivial⟩ hle | exact sKEo trivial hle | exact ⟨⟨trivial, trivial⟩⟩ | exact ⟨trivial⟩

end Mg
