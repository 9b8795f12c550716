/- Parts of the abstract state logic and of the walks, one behind the other: E6, E7. No condition. -/
import Derived.Test.YtedgmfmhilihoaaGreatP24
import Derived.Test.YtedgmfmhilihoaaGreatP18
/- Values turned into the program's kinds, as trees. No condition. -/
namespace Mg
open Go Go.RowKit
set_option maxRecDepth 100000
set_option linter.unusedVariables false
set_option linter.unusedSimpArgs false
attribute [local irreducible] W Pure

theorem t_toReadS (xs : List Two) (hx : xs.length ≤ lim) : TPure PP 136 [.one (.fz (xs.map Two.cells))] (.one (.fz (xs.map Two.cells))) := by
  have hx0 : xs.length ≤ 1048576 := hx
  refine TPure.vc [] TTok hmo Go.Proofs.Tryz.func136 (by kernel_rfl) rfl (by kernel_rfl) ?_
  repeat' (first | refine And.intro ?_ ?_ | exact tf | exact ft | refine tt ?_ | refine ff ?_ | exact ⟨trivial⟩ | exact sAll rfl | exact sF1 rfl | exact sBld (by repeat' (first | exact trivial | rfl | exact Nat.le_of_ble_eq_true rfl | refine And.intro ?_ ?_)) rfl | exact sBS (by repeat' (first | exact trivial | rfl | exact Nat.le_of_ble_eq_true rfl | refine And.intro ?_ ?_)) rfl rfl rfl rfl | exact sBSF (by repeat' (first | exact trivial | rfl | exact Nat.le_of_ble_eq_true rfl | refine And.intro ?_ ?_)) rfl rfl rfl rfl | exact sLe rfl | exact Chk.mk (by kernel_rfl) | exact ⟨Chk.mk (by kernel_rfl)⟩ | exact sLeEq rfl rfl | refine fun h => ?_)
  · refine ⟨?_⟩
    simp at *
    omega
  · refine W.loopC (D := Nat) (fun i => [(18, .row (Two.cells (xs.getD i default))), (20, .res (.agg (xs.getD i default).cells))]) TTok hmo
      (fun i => ⟨23, 1, [(0, .one (.ag (xs.map Two.cells))), (2, .one .nil), (3, .one (.ref 0 0 xs.length)), (4, oi i)], [(0, .arr (part Two.cells [i6 0, i6 0] xs i))]⟩) (fun i => xs.length - i) (fun i => i ≤ xs.length) 0 [] (by omega) ?_ ?_
    · repeat' (first | exact trivial | exact ⟨rfl⟩ | exact Chk.mk (by kernel_rfl) | exact sPart0 (by simp) | exact sFlat Two.flat rfl | refine And.intro ?_ ?_ | rfl)
      all_goals exact ⟨by simp⟩
    · intro i hi
      repeat' (first | refine And.intro ?_ ?_ | exact tf | exact ft | refine tt ?_ | refine ff ?_ | exact ⟨trivial⟩ | exact sAll rfl | exact sF1 rfl | exact sBld (by repeat' (first | exact trivial | rfl | exact Nat.le_of_ble_eq_true rfl | refine And.intro ?_ ?_)) rfl | exact sBS (by repeat' (first | exact trivial | rfl | exact Nat.le_of_ble_eq_true rfl | refine And.intro ?_ ?_)) rfl rfl rfl rfl | exact sBSF (by repeat' (first | exact trivial | rfl | exact Nat.le_of_ble_eq_true rfl | refine And.intro ?_ ?_)) rfl rfl rfl rfl | exact sLe rfl | exact Chk.mk (by kernel_rfl) | exact ⟨Chk.mk (by kernel_rfl)⟩ | exact sLeEq rfl rfl | exact sAnd (by repeat' constructor) (c_toRead _) | refine fun h => ?_)
      all_goals try (exact endFlat (part_all (by have h3 := of_decide_eq_false h; rw [List.length_map] at h3; omega)) rfl Two.frz (fun _ => rfl))
      all_goals try (exact ⟨⟨trivial, trivial⟩⟩)
      all_goals simp only [decide_eq_true_eq, decide_eq_false_iff_not, List.length_map] at *
      · exact sRow (by omega) (row_at xs _ (by omega)) rfl
      · exact sIdx (by omega) rfl rfl
      · exact sPut (by omega) rfl rfl
      · refine ⟨i + 1, [], by omega, by omega, ?_⟩
        repeat' (first | exact trivial | exact ⟨rfl⟩ | exact Chk.mk (by kernel_rfl) | exact ⟨wrap_succ (n := xs.length) (by omega) (by omega)⟩ | exact sPartS (by omega) rfl | exact sFlat Two.flat rfl | refine And.intro ?_ ?_ | rfl)

theorem t_toPutS (xs : List Two) (hx : xs.length ≤ lim) : TPure PP 137 [.one (.fz (xs.map Two.cells))] (.one (.fz (xs.map Two.cells))) := by
  have hx0 : xs.length ≤ 1048576 := hx
  refine TPure.vc [] TTok hmo Go.Proofs.Tryz.func137 (by kernel_rfl) rfl (by kernel_rfl) ?_
  repeat' (first | refine And.intro ?_ ?_ | exact tf | exact ft | refine tt ?_ | refine ff ?_ | exact ⟨trivial⟩ | exact sAll rfl | exact sF1 rfl | exact sBld (by repeat' (first | exact trivial | rfl | exact Nat.le_of_ble_eq_true rfl | refine And.intro ?_ ?_)) rfl | exact sBS (by repeat' (first | exact trivial | rfl | exact Nat.le_of_ble_eq_true rfl | refine And.intro ?_ ?_)) rfl rfl rfl rfl | exact sBSF (by repeat' (first | exact trivial | rfl | exact Nat.le_of_ble_eq_true rfl | refine And.intro ?_ ?_)) rfl rfl rfl rfl | exact sLe rfl | exact Chk.mk (by kernel_rfl) | exact ⟨Chk.mk (by kernel_rfl)⟩ | exact sLeEq rfl rfl | refine fun h => ?_)
  · refine ⟨?_⟩
    simp at *
    omega
  · refine W.loopC (D := Nat) (fun i => [(18, .row (Two.cells (xs.getD i default))), (20, .res (.agg (xs.getD i default).cells))]) TTok hmo
      (fun i => ⟨23, 1, [(0, .one (.ag (xs.map Two.cells))), (2, .one .nil), (3, .one (.ref 0 0 xs.length)), (4, oi i)], [(0, .arr (part Two.cells [i6 0, i6 0] xs i))]⟩) (fun i => xs.length - i) (fun i => i ≤ xs.length) 0 [] (by omega) ?_ ?_
    · repeat' (first | exact trivial | exact ⟨rfl⟩ | exact Chk.mk (by kernel_rfl) | exact sPart0 (by simp) | exact sFlat Two.flat rfl | refine And.intro ?_ ?_ | rfl)
      all_goals exact ⟨by simp⟩
    · intro i hi
      repeat' (first | refine And.intro ?_ ?_ | exact tf | exact ft | refine tt ?_ | refine ff ?_ | exact ⟨trivial⟩ | exact sAll rfl | exact sF1 rfl | exact sBld (by repeat' (first | exact trivial | rfl | exact Nat.le_of_ble_eq_true rfl | refine And.intro ?_ ?_)) rfl | exact sBS (by repeat' (first | exact trivial | rfl | exact Nat.le_of_ble_eq_true rfl | refine And.intro ?_ ?_)) rfl rfl rfl rfl | exact sBSF (by repeat' (first | exact trivial | rfl | exact Nat.le_of_ble_eq_true rfl | refine And.intro ?_ ?_)) rfl rfl rfl rfl | exact sLe rfl | exact Chk.mk (by kernel_rfl) | exact ⟨Chk.mk (by kernel_rfl)⟩ | exact sLeEq rfl rfl | exact sAnd (by repeat' constructor) (c_toPut _) | refine fun h => ?_)
      all_goals try (exact endFlat (part_all (by have h3 := of_decide_eq_false h; rw [List.length_map] at h3; omega)) rfl Two.frz (fun _ => rfl))
      all_goals try (exact ⟨⟨trivial, trivial⟩⟩)
      all_goals simp only [decide_eq_true_eq, decide_eq_false_iff_not, List.length_map] at *
      · exact sRow (by omega) (row_at xs _ (by omega)) rfl
      · exact sIdx (by omega) rfl rfl
      · exact sPut (by omega) rfl rfl
      · refine ⟨i + 1, [], by omega, by omega, ?_⟩
        repeat' (first | exact trivial | exact ⟨rfl⟩ | exact Chk.mk (by kernel_rfl) | exact ⟨wrap_succ (n := xs.length) (by omega) (by omega)⟩ | exact sPartS (by omega) rfl | exact sFlat Two.flat rfl | refine And.intro ?_ ?_ | rfl)

theorem t_toInsS (xs : List Ins) (hx : xs.length ≤ lim) : TPure PP 36 [.one (.fz (xs.map Ins.cells))] (.one (.fz (xs.map Ins.cells))) := by
  have hx0 : xs.length ≤ 1048576 := hx
  refine TPure.vc [] TTok hmo Go.Proofs.Tryz.func36 (by kernel_rfl) rfl (by kernel_rfl) ?_
  repeat' (first | refine And.intro ?_ ?_ | exact tf | exact ft | refine tt ?_ | refine ff ?_ | exact ⟨trivial⟩ | exact sAll rfl | exact sF1 rfl | exact sBld (by repeat' (first | exact trivial | rfl | exact Nat.le_of_ble_eq_true rfl | refine And.intro ?_ ?_)) rfl | exact sBS (by repeat' (first | exact trivial | rfl | exact Nat.le_of_ble_eq_true rfl | refine And.intro ?_ ?_)) rfl rfl rfl rfl | exact sBSF (by repeat' (first | exact trivial | rfl | exact Nat.le_of_ble_eq_true rfl | refine And.intro ?_ ?_)) rfl rfl rfl rfl | exact sLe rfl | exact Chk.mk (by kernel_rfl) | exact ⟨Chk.mk (by kernel_rfl)⟩ | exact sLeEq rfl rfl | refine fun h => ?_)
  · refine ⟨?_⟩
    simp at *
    omega
  · refine W.loopC (D := Nat) (fun i => [(18, .row (Ins.cells (xs.getD i default))), (20, .res (.agg (xs.getD i default).cells))]) TTok hmo
      (fun i => ⟨23, 1, [(0, .one (.ag (xs.map Ins.cells))), (2, .one .nil), (3, .one (.ref 0 0 xs.length)), (4, oi i)], [(0, .arr (part Ins.cells [i6 0, i6 0, i6 0, i6 0] xs i))]⟩) (fun i => xs.length - i) (fun i => i ≤ xs.length) 0 [] (by omega) ?_ ?_
    · repeat' (first | exact trivial | exact ⟨rfl⟩ | exact Chk.mk (by kernel_rfl) | exact sPart0 (by simp) | exact sFlat Ins.flat rfl | refine And.intro ?_ ?_ | rfl)
      all_goals exact ⟨by simp⟩
    · intro i hi
      repeat' (first | refine And.intro ?_ ?_ | exact tf | exact ft | refine tt ?_ | refine ff ?_ | exact ⟨trivial⟩ | exact sAll rfl | exact sF1 rfl | exact sBld (by repeat' (first | exact trivial | rfl | exact Nat.le_of_ble_eq_true rfl | refine And.intro ?_ ?_)) rfl | exact sBS (by repeat' (first | exact trivial | rfl | exact Nat.le_of_ble_eq_true rfl | refine And.intro ?_ ?_)) rfl rfl rfl rfl | exact sBSF (by repeat' (first | exact trivial | rfl | exact Nat.le_of_ble_eq_true rfl | refine And.intro ?_ ?_)) rfl rfl rfl rfl | exact sLe rfl | exact Chk.mk (by kernel_rfl) | exact ⟨Chk.mk (by kernel_rfl)⟩ | exact sLeEq rfl rfl | exact sAnd (by repeat' constructor) (c_toIns _) | refine fun h => ?_)
      all_goals try (exact endFlat (part_all (by have h3 := of_decide_eq_false h; rw [List.length_map] at h3; omega)) rfl Ins.frz (fun _ => rfl))
      all_goals try (exact ⟨⟨trivial, trivial⟩⟩)
      all_goals simp only [decide_eq_true_eq, decide_eq_false_iff_not, List.length_map] at *
      · exact sRow (by omega) (row_at xs _ (by omega)) rfl
      · exact sIdx (by omega) rfl rfl
      · exact sPut (by omega) rfl rfl
      · refine ⟨i + 1, [], by omega, by omega, ?_⟩
        repeat' (first | exact trivial | exact ⟨rfl⟩ | exact Chk.mk (by kernel_rfl) | exact ⟨wrap_succ (n := xs.length) (by omega) (by omega)⟩ | exact sPartS (by omega) rfl | exact sFlat Ins.flat rfl | refine And.intro ?_ ?_ | rfl)

theorem t_toBoolS (xs : List Bool) (hx : xs.length ≤ lim) : TPure PP 33 [.one (.fz (xs.map Bool.cells))] (.one (.fz (xs.map Bool.cells))) := by
  have hx0 : xs.length ≤ 1048576 := hx
  refine TPure.vc [] TTok hmo Go.Proofs.Tryz.func33 (by kernel_rfl) rfl (by kernel_rfl) ?_
  repeat' (first | refine And.intro ?_ ?_ | exact tf | exact ft | refine tt ?_ | refine ff ?_ | exact ⟨trivial⟩ | exact sAll rfl | exact sF1 rfl | exact sBld (by repeat' (first | exact trivial | rfl | exact Nat.le_of_ble_eq_true rfl | refine And.intro ?_ ?_)) rfl | exact sBS (by repeat' (first | exact trivial | rfl | exact Nat.le_of_ble_eq_true rfl | refine And.intro ?_ ?_)) rfl rfl rfl rfl | exact sBSF (by repeat' (first | exact trivial | rfl | exact Nat.le_of_ble_eq_true rfl | refine And.intro ?_ ?_)) rfl rfl rfl rfl | exact sLe rfl | exact Chk.mk (by kernel_rfl) | exact ⟨Chk.mk (by kernel_rfl)⟩ | exact sLeEq rfl rfl | refine fun h => ?_)
  · refine ⟨?_⟩
    simp at *
    omega
  · refine W.loopC (D := Nat) (fun i => [(18, .row (Bool.cells (xs.getD i default)))]) TTok hmo
      (fun i => ⟨22, 1, [(0, .one (.ag (xs.map Bool.cells))), (2, .one .nil), (3, .one (.ref 0 0 xs.length)), (4, oi i)], [(0, .arr (part Bool.cells [bo false] xs i))]⟩) (fun i => xs.length - i) (fun i => i ≤ xs.length) 0 [] (by omega) ?_ ?_
    · repeat' (first | exact trivial | exact ⟨rfl⟩ | exact Chk.mk (by kernel_rfl) | exact sPart0 (by simp) | exact sFlat Bool.flat rfl | refine And.intro ?_ ?_ | rfl)
      all_goals exact ⟨by simp⟩
    · intro i hi
      repeat' (first | refine And.intro ?_ ?_ | exact tf | exact ft | refine tt ?_ | refine ff ?_ | exact ⟨trivial⟩ | exact sAll rfl | exact sF1 rfl | exact sBld (by repeat' (first | exact trivial | rfl | exact Nat.le_of_ble_eq_true rfl | refine And.intro ?_ ?_)) rfl | exact sBS (by repeat' (first | exact trivial | rfl | exact Nat.le_of_ble_eq_true rfl | refine And.intro ?_ ?_)) rfl rfl rfl rfl | exact sBSF (by repeat' (first | exact trivial | rfl | exact Nat.le_of_ble_eq_true rfl | refine And.intro ?_ ?_)) rfl rfl rfl rfl | exact sLe rfl | exact Chk.mk (by kernel_rfl) | exact ⟨Chk.mk (by kernel_rfl)⟩ | exact sLeEq rfl rfl | refine fun h => ?_)
      all_goals try (exact endFlat (part_all (by have h3 := of_decide_eq_false h; rw [List.length_map] at h3; omega)) rfl Bool.frz (fun _ => rfl))
      all_goals try (exact ⟨⟨trivial, trivial⟩⟩)
      all_goals simp only [decide_eq_true_eq, decide_eq_false_iff_not, List.length_map] at *
      · exact sRow (by omega) (row_at xs _ (by omega)) rfl
      · exact sIdx (by omega) rfl rfl
      · exact sPut (by omega) rfl rfl
      · refine ⟨i + 1, [], by omega, by omega, ?_⟩
        repeat' (first | exact trivial | exact ⟨rfl⟩ | exact Chk.mk (by kernel_rfl) | exact ⟨wrap_succ (n := xs.length) (by omega) (by omega)⟩ | exact sPartS (by omega) rfl | exact sFlat Bool.flat rfl | refine And.intro ?_ ?_ | rfl)

end Mg

/- Structs turned into the program's kinds, as trees; and their lists. No condition. -/
namespace Mg
open Go Go.RowKit
set_option maxRecDepth 100000
set_option linter.unusedVariables false
set_option linter.unusedSimpArgs false
attribute [local irreducible] W Pure

theorem t_toRun (x : Run) (hx : x.ok lim) : TPure PP 94 [.agg x.cells] (.agg x.cells) := by
  refine TPure.vc [(6, .tre true (fun _ => .one (.fz (x.reads.map Two.cells)))), (10, .tre true (fun _ => .one (.fz (x.puts.map Two.cells))))] TTok hmo Go.Proofs.Tryz.func94 (by kernel_rfl) rfl (by kernel_rfl) ?_
  repeat' (first | refine And.intro ?_ ?_ | exact tf | exact ft | refine tt ?_ | refine ff ?_ | exact ⟨trivial⟩ | exact sAll rfl | exact sF1 rfl | exact sBld (by repeat' (first | exact trivial | rfl | exact Nat.le_of_ble_eq_true rfl | refine And.intro ?_ ?_)) rfl | exact sBS (by repeat' (first | exact trivial | rfl | exact Nat.le_of_ble_eq_true rfl | refine And.intro ?_ ?_)) rfl rfl rfl rfl | exact sBSF (by repeat' (first | exact trivial | rfl | exact Nat.le_of_ble_eq_true rfl | refine And.intro ?_ ?_)) rfl rfl rfl rfl | exact sLe rfl | exact Chk.mk (by kernel_rfl) | exact ⟨Chk.mk (by kernel_rfl)⟩ | exact sLeEq rfl rfl | refine fun h => ?_)
  all_goals try (exact Side.mk (t_toReadS _ hx.1))
  all_goals try (exact Side.mk (t_toPutS _ hx.2))
  all_goals try (rename_i B0 hA0 hD0 B1 hA1; refine Side.mk (apart_agg ?_); exact And.intro (And.intro (fun x h1 h2 => (h.st 2 _ rfl _ (List.mem_of_getElem? (i := 0) rfl)) x h1 ⟨0, 0, h2⟩) (trivial)) (And.intro (trivial) (trivial)))
  all_goals first | exact trivial | exact Side.mk rfl | exact Side.mk (by repeat' (first | exact trivial | exact Nat.le_of_ble_eq_true rfl | rfl | refine And.intro ?_ ?_))

theorem t_toEntry (x : Entry) (hx : x.ok lim) : TPure PP 35 [.agg x.cells] (.agg x.cells) := by
  refine TPure.vc [(9, .res (.agg x.q.cells)), (13, .tre true (fun _ => .agg x.run.cells))] TTok hmo Go.Proofs.Tryz.func35 (by kernel_rfl) rfl (by kernel_rfl) ?_
  repeat' (first | refine And.intro ?_ ?_ | exact tf | exact ft | refine tt ?_ | refine ff ?_ | exact ⟨trivial⟩ | exact sAll rfl | exact sF1 rfl | exact sBld (by repeat' (first | exact trivial | rfl | exact Nat.le_of_ble_eq_true rfl | refine And.intro ?_ ?_)) rfl | exact sBS (by repeat' (first | exact trivial | rfl | exact Nat.le_of_ble_eq_true rfl | refine And.intro ?_ ?_)) rfl rfl rfl rfl | exact sBSF (by repeat' (first | exact trivial | rfl | exact Nat.le_of_ble_eq_true rfl | refine And.intro ?_ ?_)) rfl rfl rfl rfl | exact sLe rfl | exact Chk.mk (by kernel_rfl) | exact ⟨Chk.mk (by kernel_rfl)⟩ | exact sLeEq rfl rfl | exact sAnd (by repeat' constructor) (c_toReq _) | refine fun h => ?_)
  all_goals try (exact Side.mk (t_toRun _ hx))
  all_goals try (rename_i  B0 hA0; refine Side.mk (apart_agg ?_); exact And.intro (And.intro (fun x h1 h2 => absurd (hA0 0 0 0 1 x h1 h2).2 (by decide)) (trivial)) (And.intro (trivial) (trivial)))
  all_goals first | exact trivial | exact Side.mk rfl | exact Side.mk (by repeat' (first | exact trivial | exact Nat.le_of_ble_eq_true rfl | rfl | refine And.intro ?_ ?_))

theorem t_toVote (x : Vote) (hx : x.ok lim) : TPure PP 92 [.agg x.cells] (.agg x.cells) := by
  refine TPure.vc [(9, .tre true (fun _ => .agg x.e.cells))] TTok hmo Go.Proofs.Tryz.func92 (by kernel_rfl) rfl (by kernel_rfl) ?_
  repeat' (first | refine And.intro ?_ ?_ | exact tf | exact ft | refine tt ?_ | refine ff ?_ | exact ⟨trivial⟩ | exact sAll rfl | exact sF1 rfl | exact sBld (by repeat' (first | exact trivial | rfl | exact Nat.le_of_ble_eq_true rfl | refine And.intro ?_ ?_)) rfl | exact sBS (by repeat' (first | exact trivial | rfl | exact Nat.le_of_ble_eq_true rfl | refine And.intro ?_ ?_)) rfl rfl rfl rfl | exact sBSF (by repeat' (first | exact trivial | rfl | exact Nat.le_of_ble_eq_true rfl | refine And.intro ?_ ?_)) rfl rfl rfl rfl | exact sLe rfl | exact Chk.mk (by kernel_rfl) | exact ⟨Chk.mk (by kernel_rfl)⟩ | exact sLeEq rfl rfl | refine fun h => ?_)
  all_goals try (exact Side.mk (t_toEntry _ hx))
  all_goals try (rename_i  B0 hA0; refine Side.mk (apart_agg ?_); exact And.intro (And.intro (fun x h1 h2 => absurd (hA0 0 3 0 4 x h1 h2).2 (by decide)) (trivial)) (And.intro (trivial) (trivial)))
  all_goals first | exact trivial | exact Side.mk rfl | exact Side.mk (by repeat' (first | exact trivial | exact Nat.le_of_ble_eq_true rfl | rfl | refine And.intro ?_ ?_))

theorem t_toVoteS (xs : List Vote) (hx : xs.length ≤ lim) (hv : ∀ v ∈ xs, v.ok lim) : TPure PP 34 [.one (.fz (xs.map Vote.cells))] (.one (.fz (xs.map Vote.cells))) := by
  have hx0 : xs.length ≤ 1048576 := hx
  have hlen : (List.replicate xs.length [i6 0, bo false, i6 0, i6 0, .nil, .nil, i6 0, i6 0]).length = xs.length := List.length_replicate
  refine TPure.vc [] TTok hmo Go.Proofs.Tryz.func34 (by kernel_rfl) rfl (by kernel_rfl) ?_
  repeat' (first | refine And.intro ?_ ?_ | exact tf | exact ft | refine tt ?_ | refine ff ?_ | exact ⟨trivial⟩ | exact sAll rfl | exact sF1 rfl | exact sBld (by repeat' (first | exact trivial | rfl | exact Nat.le_of_ble_eq_true rfl | refine And.intro ?_ ?_)) rfl | exact sBS (by repeat' (first | exact trivial | rfl | exact Nat.le_of_ble_eq_true rfl | refine And.intro ?_ ?_)) rfl rfl rfl rfl | exact sBSF (by repeat' (first | exact trivial | rfl | exact Nat.le_of_ble_eq_true rfl | refine And.intro ?_ ?_)) rfl rfl rfl rfl | exact sLe rfl | exact Chk.mk (by kernel_rfl) | exact ⟨Chk.mk (by kernel_rfl)⟩ | exact sLeEq rfl rfl | refine fun h => ?_)
  · refine ⟨?_⟩
    simp at *
    omega
  · refine W.loopC (D := Nat × (Nat → Nat → Tk)) (fun d => [(18, .row (xs.getD d.1 default).cells), (20, .tre true (fun _ => .agg (xs.getD d.1 default).cells))]) TTok hmo
      (fun d => ⟨23, 1, [(0, .one (.ag (xs.map Vote.cells))), (2, .one .nil), (3, .one (.ref 0 0 xs.length)), (4, oi d.1)], [(0, .arr (rowsT d.2 Vote.cells xs (List.replicate xs.length [i6 0, bo false, i6 0, i6 0, .nil, .nil, i6 0, i6 0]) d.1))]⟩) (fun d => xs.length - d.1) (fun d => d.1 ≤ xs.length ∧ FillInv d.2 Vote.cells xs d.1) (0, fun _ _ => noTk) [] ⟨Nat.zero_le _, .zero⟩ ?_ ?_
    · repeat' (first | exact trivial | exact Side.mk rfl | exact Chk.mk (by kernel_rfl) | exact ⟨Chk.mk (by kernel_rfl)⟩ | exact sZ0 (by simp) | exact sFlatT Vote.frz (rep_flat rfl) | exact sLenM | refine And.intro ?_ ?_ | rfl)
    · intro ⟨i, Bf⟩ ⟨hi, hinv⟩
      dsimp only at hi hinv
      repeat' (first | refine And.intro ?_ ?_ | exact tf | exact ft | refine tt ?_ | refine ff ?_ | exact ⟨trivial⟩ | exact sAll rfl | exact sF1 rfl | exact sBld (by repeat' (first | exact trivial | rfl | exact Nat.le_of_ble_eq_true rfl | refine And.intro ?_ ?_)) rfl | exact sBS (by repeat' (first | exact trivial | rfl | exact Nat.le_of_ble_eq_true rfl | refine And.intro ?_ ?_)) rfl rfl rfl rfl | exact sBSF (by repeat' (first | exact trivial | rfl | exact Nat.le_of_ble_eq_true rfl | refine And.intro ?_ ?_)) rfl rfl rfl rfl | exact sLe rfl | exact Chk.mk (by kernel_rfl) | exact ⟨Chk.mk (by kernel_rfl)⟩ | exact sLeEq rfl rfl | refine fun h => ?_)
      all_goals try (exact endTree hinv hlen (by have h3 := of_decide_eq_false h; dsimp only at h3; rw [List.length_map] at h3; omega) rfl Vote.frz)
      all_goals try (exact ⟨⟨trivial, trivial⟩⟩)
      all_goals try (exact Side.mk (t_toVote _ (hv _ (getD_mem (by have h3 := of_decide_eq_true h; dsimp only at h3; rw [List.length_map] at h3; omega)))))
      all_goals try (have hl : i < xs.length := by (have h3 := of_decide_eq_true ‹decide ((i : Int) < ((xs.map Vote.cells).length : Int)) = true›; rw [List.length_map] at h3; omega))
      all_goals try (exact sRow (by dsimp only; omega) (row_at xs _ hl) rfl)
      all_goals try (exact sIxT (i := i) hlen rfl hl rfl (rep_get hl) rfl)
      all_goals try (exact sStT (i := i) hlen (by simp) hl (rep_get hl) rfl rfl)
      all_goals try (exact Side.mk (by repeat' constructor))
      · rename_i B hA
        refine ⟨(i + 1, updT Bf i (Vote.cells (xs.getD i default)) (B 0)), [], by dsimp only; omega, ⟨by dsimp only; omega, hinv.step hl hA (h.st 0 _ rfl)⟩, ?_⟩
        repeat' (first | exact trivial | exact Side.mk rfl | exact Chk.mk (by kernel_rfl) | exact ⟨Chk.mk (by kernel_rfl)⟩ | exact sSetT hlen (by simp) hl (rep_get hl) rfl | exact sFlatT Vote.frz (rep_flat rfl) | exact sWrap (by dsimp only; omega) (by dsimp only; omega) (by dsimp only; omega) | refine And.intro ?_ ?_ | rfl)

theorem t_toEntryS (xs : List Entry) (hx : xs.length ≤ lim) (hv : ∀ v ∈ xs, v.ok lim) : TPure PP 32 [.one (.fz (xs.map Entry.cells))] (.one (.fz (xs.map Entry.cells))) := by
  have hx0 : xs.length ≤ 1048576 := hx
  have hlen : (List.replicate xs.length [bo false, i6 0, i6 0, .nil, .nil, i6 0, i6 0]).length = xs.length := List.length_replicate
  refine TPure.vc [] TTok hmo Go.Proofs.Tryz.func32 (by kernel_rfl) rfl (by kernel_rfl) ?_
  repeat' (first | refine And.intro ?_ ?_ | exact tf | exact ft | refine tt ?_ | refine ff ?_ | exact ⟨trivial⟩ | exact sAll rfl | exact sF1 rfl | exact sBld (by repeat' (first | exact trivial | rfl | exact Nat.le_of_ble_eq_true rfl | refine And.intro ?_ ?_)) rfl | exact sBS (by repeat' (first | exact trivial | rfl | exact Nat.le_of_ble_eq_true rfl | refine And.intro ?_ ?_)) rfl rfl rfl rfl | exact sBSF (by repeat' (first | exact trivial | rfl | exact Nat.le_of_ble_eq_true rfl | refine And.intro ?_ ?_)) rfl rfl rfl rfl | exact sLe rfl | exact Chk.mk (by kernel_rfl) | exact ⟨Chk.mk (by kernel_rfl)⟩ | exact sLeEq rfl rfl | refine fun h => ?_)
  · refine ⟨?_⟩
    simp at *
    omega
  · refine W.loopC (D := Nat × (Nat → Nat → Tk)) (fun d => [(18, .row (xs.getD d.1 default).cells), (20, .tre true (fun _ => .agg (xs.getD d.1 default).cells))]) TTok hmo
      (fun d => ⟨23, 1, [(0, .one (.ag (xs.map Entry.cells))), (2, .one .nil), (3, .one (.ref 0 0 xs.length)), (4, oi d.1)], [(0, .arr (rowsT d.2 Entry.cells xs (List.replicate xs.length [bo false, i6 0, i6 0, .nil, .nil, i6 0, i6 0]) d.1))]⟩) (fun d => xs.length - d.1) (fun d => d.1 ≤ xs.length ∧ FillInv d.2 Entry.cells xs d.1) (0, fun _ _ => noTk) [] ⟨Nat.zero_le _, .zero⟩ ?_ ?_
    · repeat' (first | exact trivial | exact Side.mk rfl | exact Chk.mk (by kernel_rfl) | exact ⟨Chk.mk (by kernel_rfl)⟩ | exact sZ0 (by simp) | exact sFlatT Entry.frz (rep_flat rfl) | exact sLenM | refine And.intro ?_ ?_ | rfl)
    · intro ⟨i, Bf⟩ ⟨hi, hinv⟩
      dsimp only at hi hinv
      repeat' (first | refine And.intro ?_ ?_ | exact tf | exact ft | refine tt ?_ | refine ff ?_ | exact ⟨trivial⟩ | exact sAll rfl | exact sF1 rfl | exact sBld (by repeat' (first | exact trivial | rfl | exact Nat.le_of_ble_eq_true rfl | refine And.intro ?_ ?_)) rfl | exact sBS (by repeat' (first | exact trivial | rfl | exact Nat.le_of_ble_eq_true rfl | refine And.intro ?_ ?_)) rfl rfl rfl rfl | exact sBSF (by repeat' (first | exact trivial | rfl | exact Nat.le_of_ble_eq_true rfl | refine And.intro ?_ ?_)) rfl rfl rfl rfl | exact sLe rfl | exact Chk.mk (by kernel_rfl) | exact ⟨Chk.mk (by kernel_rfl)⟩ | exact sLeEq rfl rfl | refine fun h => ?_)
      all_goals try (exact endTree hinv hlen (by have h3 := of_decide_eq_false h; dsimp only at h3; rw [List.length_map] at h3; omega) rfl Entry.frz)
      all_goals try (exact ⟨⟨trivial, trivial⟩⟩)
      all_goals try (exact Side.mk (t_toEntry _ (hv _ (getD_mem (by have h3 := of_decide_eq_true h; dsimp only at h3; rw [List.length_map] at h3; omega)))))
      all_goals try (have hl : i < xs.length := by (have h3 := of_decide_eq_true ‹decide ((i : Int) < ((xs.map Entry.cells).length : Int)) = true›; rw [List.length_map] at h3; omega))
      all_goals try (exact sRow (by dsimp only; omega) (row_at xs _ hl) rfl)
      all_goals try (exact sIxT (i := i) hlen rfl hl rfl (rep_get hl) rfl)
      all_goals try (exact sStT (i := i) hlen (by simp) hl (rep_get hl) rfl rfl)
      all_goals try (exact Side.mk (by repeat' constructor))
      · rename_i B hA
        refine ⟨(i + 1, updT Bf i (Entry.cells (xs.getD i default)) (B 0)), [], by dsimp only; omega, ⟨by dsimp only; omega, hinv.step hl hA (h.st 0 _ rfl)⟩, ?_⟩
        repeat' (first | exact trivial | exact Side.mk rfl | exact Chk.mk (by kernel_rfl) | exact ⟨Chk.mk (by kernel_rfl)⟩ | exact sSetT hlen (by simp) hl (rep_get hl) rfl | exact sFlatT Entry.frz (rep_flat rfl) | exact sWrap (by dsimp only; omega) (by dsimp only; omega) (by dsimp only; omega) | refine And.intro ?_ ?_ | rfl)

theorem t_toAcc (x : Acc) (hx : x.ok lim) : TPure PP 31 [.agg x.cells] (.agg x.cells) := by
  refine TPure.vc [(9, .tre true (fun _ => .one (.fz (x.votes.map Vote.cells))))] TTok hmo Go.Proofs.Tryz.func31 (by kernel_rfl) rfl (by kernel_rfl) ?_
  repeat' (first | refine And.intro ?_ ?_ | exact tf | exact ft | refine tt ?_ | refine ff ?_ | exact ⟨trivial⟩ | exact sAll rfl | exact sF1 rfl | exact sBld (by repeat' (first | exact trivial | rfl | exact Nat.le_of_ble_eq_true rfl | refine And.intro ?_ ?_)) rfl | exact sBS (by repeat' (first | exact trivial | rfl | exact Nat.le_of_ble_eq_true rfl | refine And.intro ?_ ?_)) rfl rfl rfl rfl | exact sBSF (by repeat' (first | exact trivial | rfl | exact Nat.le_of_ble_eq_true rfl | refine And.intro ?_ ?_)) rfl rfl rfl rfl | exact sLe rfl | exact Chk.mk (by kernel_rfl) | exact ⟨Chk.mk (by kernel_rfl)⟩ | exact sLeEq rfl rfl | refine fun h => ?_)
  all_goals try (exact Side.mk (t_toVoteS _ hx.1 hx.2))
  all_goals try (rename_i  B0 hA0; refine Side.mk (apart_agg ?_); exact And.intro (trivial) (trivial))
  all_goals first | exact trivial | exact Side.mk rfl | exact Side.mk (by repeat' (first | exact trivial | exact Nat.le_of_ble_eq_true rfl | rfl | refine And.intro ?_ ?_))

end Mg
