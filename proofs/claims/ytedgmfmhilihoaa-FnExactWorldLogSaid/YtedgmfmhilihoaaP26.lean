/- Parts of the abstract state logic and of the walks, one behind the other: E20, NW2, R2H, R1R, R1S. No condition. -/
import Derived.Test.YtedgmfmhilihoaaP24
import Derived.Test.YtedgmfmhilihoaaP25
import Derived.Test.YtedgmfmhilihoaaP14
/- Messages, what was asked and told, and worlds, turned into the program's kinds, as trees. No condition. -/
namespace Mg
open Go Go.RowKit
set_option maxRecDepth 100000
set_option linter.unusedVariables false
set_option linter.unusedSimpArgs false
attribute [local irreducible] W Pure

theorem t_toMsg (x : Msg) (hx : x.ok lim) : TPure PP 69 [.agg x.cells] (.agg x.cells) := by
  refine TPure.vc [(21, .tre true (fun _ => .agg x.e.cells)), (25, .tre true (fun _ => .one (.fz (x.votes.map Vote.cells))))] TTok hmo Go.Proofs.Try.func69 (by kernel_rfl) rfl (by kernel_rfl) ?_
  repeat' (first | refine And.intro ?_ ?_ | exact tf | exact ft | refine tt ?_ | refine ff ?_ | exact ⟨trivial⟩ | exact sAll rfl | exact sF1 rfl | exact sBld (by repeat' (first | exact trivial | rfl | exact Nat.le_of_ble_eq_true rfl | refine And.intro ?_ ?_)) rfl | exact sBS (by repeat' (first | exact trivial | rfl | exact Nat.le_of_ble_eq_true rfl | refine And.intro ?_ ?_)) rfl rfl rfl rfl | exact sBSF (by repeat' (first | exact trivial | rfl | exact Nat.le_of_ble_eq_true rfl | refine And.intro ?_ ?_)) rfl rfl rfl rfl | exact sLe rfl | exact Chk.mk (by kernel_rfl) | exact ⟨Chk.mk (by kernel_rfl)⟩ | exact sLeEq rfl rfl | refine fun h => ?_)
  all_goals try (exact Side.mk (t_toEntry _ hx.1))
  all_goals try (exact Side.mk (t_toVoteS _ hx.2.1 hx.2.2))
  all_goals try (rename_i B0 hA0 hD0 B1 hA1; refine Side.mk (apart_agg ?_); exact And.intro (And.intro (fun x h1 h2 => absurd (hA0 0 3 0 4 x h1 h2).2 (by decide)) (And.intro (fun x h1 h2 => (h.st 2 _ rfl _ (List.mem_of_getElem? (i := 8) rfl)) x h1 ⟨0, 0, h2⟩) (trivial))) (And.intro (And.intro (fun x h1 h2 => (h.st 2 _ rfl _ (List.mem_of_getElem? (i := 9) rfl)) x h1 ⟨0, 0, h2⟩) (trivial)) (And.intro (trivial) (trivial))))
  all_goals first | exact trivial | exact Side.mk rfl | exact Side.mk (by repeat' (first | exact trivial | exact Nat.le_of_ble_eq_true rfl | rfl | refine And.intro ?_ ?_))

theorem t_toMsgS (xs : List Msg) (hx : xs.length ≤ lim) (hv : ∀ v ∈ xs, v.ok lim) : TPure PP 38 [.one (.fz (xs.map Msg.cells))] (.one (.fz (xs.map Msg.cells))) := by
  have hx0 : xs.length ≤ 1048576 := hx
  have hlen : (List.replicate xs.length [i6 0, i6 0, i6 0, i6 0, i6 0, bo false, i6 0, i6 0, .nil, .nil, i6 0, i6 0, .nil]).length = xs.length := List.length_replicate
  refine TPure.vc [] TTok hmo Go.Proofs.Try.func38 (by kernel_rfl) rfl (by kernel_rfl) ?_
  repeat' (first | refine And.intro ?_ ?_ | exact tf | exact ft | refine tt ?_ | refine ff ?_ | exact ⟨trivial⟩ | exact sAll rfl | exact sF1 rfl | exact sBld (by repeat' (first | exact trivial | rfl | exact Nat.le_of_ble_eq_true rfl | refine And.intro ?_ ?_)) rfl | exact sBS (by repeat' (first | exact trivial | rfl | exact Nat.le_of_ble_eq_true rfl | refine And.intro ?_ ?_)) rfl rfl rfl rfl | exact sBSF (by repeat' (first | exact trivial | rfl | exact Nat.le_of_ble_eq_true rfl | refine And.intro ?_ ?_)) rfl rfl rfl rfl | exact sLe rfl | exact Chk.mk (by kernel_rfl) | exact ⟨Chk.mk (by kernel_rfl)⟩ | exact sLeEq rfl rfl | refine fun h => ?_)
  · refine ⟨?_⟩
    simp at *
    omega
  · refine W.loopC (D := Nat × (Nat → Nat → Tk)) (fun d => [(18, .row (xs.getD d.1 default).cells), (20, .tre true (fun _ => .agg (xs.getD d.1 default).cells))]) TTok hmo
      (fun d => ⟨23, 1, [(0, .one (.ag (xs.map Msg.cells))), (2, .one .nil), (3, .one (.ref 0 0 xs.length)), (4, oi d.1)], [(0, .arr (rowsT d.2 Msg.cells xs (List.replicate xs.length [i6 0, i6 0, i6 0, i6 0, i6 0, bo false, i6 0, i6 0, .nil, .nil, i6 0, i6 0, .nil]) d.1))]⟩) (fun d => xs.length - d.1) (fun d => d.1 ≤ xs.length ∧ FillInv d.2 Msg.cells xs d.1) (0, fun _ _ => noTk) [] ⟨Nat.zero_le _, .zero⟩ ?_ ?_
    · repeat' (first | exact trivial | exact Side.mk rfl | exact Chk.mk (by kernel_rfl) | exact ⟨Chk.mk (by kernel_rfl)⟩ | exact sZ0 (by simp) | exact sFlatT Msg.frz (rep_flat rfl) | exact sLenM | refine And.intro ?_ ?_ | rfl)
    · intro ⟨i, Bf⟩ ⟨hi, hinv⟩
      dsimp only at hi hinv
      repeat' (first | refine And.intro ?_ ?_ | exact tf | exact ft | refine tt ?_ | refine ff ?_ | exact ⟨trivial⟩ | exact sAll rfl | exact sF1 rfl | exact sBld (by repeat' (first | exact trivial | rfl | exact Nat.le_of_ble_eq_true rfl | refine And.intro ?_ ?_)) rfl | exact sBS (by repeat' (first | exact trivial | rfl | exact Nat.le_of_ble_eq_true rfl | refine And.intro ?_ ?_)) rfl rfl rfl rfl | exact sBSF (by repeat' (first | exact trivial | rfl | exact Nat.le_of_ble_eq_true rfl | refine And.intro ?_ ?_)) rfl rfl rfl rfl | exact sLe rfl | exact Chk.mk (by kernel_rfl) | exact ⟨Chk.mk (by kernel_rfl)⟩ | exact sLeEq rfl rfl | refine fun h => ?_)
      all_goals try (exact endTree hinv hlen (by have h3 := of_decide_eq_false h; dsimp only at h3; rw [List.length_map] at h3; omega) rfl Msg.frz)
      all_goals try (exact ⟨⟨trivial, trivial⟩⟩)
      all_goals try (exact Side.mk (t_toMsg _ (hv _ (getD_mem (by have h3 := of_decide_eq_true h; dsimp only at h3; rw [List.length_map] at h3; omega)))))
      all_goals try (have hl : i < xs.length := by (have h3 := of_decide_eq_true ‹decide ((i : Int) < ((xs.map Msg.cells).length : Int)) = true›; rw [List.length_map] at h3; omega))
      all_goals try (exact sRow (by dsimp only; omega) (row_at xs _ hl) rfl)
      all_goals try (exact sIxT (i := i) hlen rfl hl rfl (rep_get hl) rfl)
      all_goals try (exact sStT (i := i) hlen (by simp) hl (rep_get hl) rfl rfl)
      all_goals try (exact Side.mk (by repeat' constructor))
      · rename_i B hA
        refine ⟨(i + 1, updT Bf i (Msg.cells (xs.getD i default)) (B 0)), [], by dsimp only; omega, ⟨by dsimp only; omega, hinv.step hl hA (h.st 0 _ rfl)⟩, ?_⟩
        repeat' (first | exact trivial | exact Side.mk rfl | exact Chk.mk (by kernel_rfl) | exact ⟨Chk.mk (by kernel_rfl)⟩ | exact sSetT hlen (by simp) hl (rep_get hl) rfl | exact sFlatT Msg.frz (rep_flat rfl) | exact sWrap (by dsimp only; omega) (by dsimp only; omega) (by dsimp only; omega) | refine And.intro ?_ ?_ | rfl)

theorem t_toAsked (x : Asked) (hx : x.ok lim) : TPure PP 70 [.agg x.cells] (.agg x.cells) := by
  refine TPure.vc [(6, .res (.agg x.q.cells)), (10, .tre true (fun _ => .one (.fz (x.prog.map Ins.cells))))] TTok hmo Go.Proofs.Try.func70 (by kernel_rfl) rfl (by kernel_rfl) ?_
  repeat' (first | refine And.intro ?_ ?_ | exact tf | exact ft | refine tt ?_ | refine ff ?_ | exact ⟨trivial⟩ | exact sAll rfl | exact sF1 rfl | exact sBld (by repeat' (first | exact trivial | rfl | exact Nat.le_of_ble_eq_true rfl | refine And.intro ?_ ?_)) rfl | exact sBS (by repeat' (first | exact trivial | rfl | exact Nat.le_of_ble_eq_true rfl | refine And.intro ?_ ?_)) rfl rfl rfl rfl | exact sBSF (by repeat' (first | exact trivial | rfl | exact Nat.le_of_ble_eq_true rfl | refine And.intro ?_ ?_)) rfl rfl rfl rfl | exact sLe rfl | exact Chk.mk (by kernel_rfl) | exact ⟨Chk.mk (by kernel_rfl)⟩ | exact sLeEq rfl rfl | exact sAnd (by repeat' constructor) (c_toReq _) | refine fun h => ?_)
  all_goals try (exact Side.mk (t_toInsS _ hx))
  all_goals try (rename_i  B0 hA0; refine Side.mk (apart_agg ?_); exact And.intro (trivial) (trivial))
  all_goals first | exact trivial | exact Side.mk rfl | exact Side.mk (by repeat' (first | exact trivial | exact Nat.le_of_ble_eq_true rfl | rfl | refine And.intro ?_ ?_))

theorem t_toAskedS (xs : List Asked) (hx : xs.length ≤ lim) (hv : ∀ v ∈ xs, v.ok lim) : TPure PP 39 [.one (.fz (xs.map Asked.cells))] (.one (.fz (xs.map Asked.cells))) := by
  have hx0 : xs.length ≤ 1048576 := hx
  have hlen : (List.replicate xs.length [i6 0, i6 0, .nil]).length = xs.length := List.length_replicate
  refine TPure.vc [] TTok hmo Go.Proofs.Try.func39 (by kernel_rfl) rfl (by kernel_rfl) ?_
  repeat' (first | refine And.intro ?_ ?_ | exact tf | exact ft | refine tt ?_ | refine ff ?_ | exact ⟨trivial⟩ | exact sAll rfl | exact sF1 rfl | exact sBld (by repeat' (first | exact trivial | rfl | exact Nat.le_of_ble_eq_true rfl | refine And.intro ?_ ?_)) rfl | exact sBS (by repeat' (first | exact trivial | rfl | exact Nat.le_of_ble_eq_true rfl | refine And.intro ?_ ?_)) rfl rfl rfl rfl | exact sBSF (by repeat' (first | exact trivial | rfl | exact Nat.le_of_ble_eq_true rfl | refine And.intro ?_ ?_)) rfl rfl rfl rfl | exact sLe rfl | exact Chk.mk (by kernel_rfl) | exact ⟨Chk.mk (by kernel_rfl)⟩ | exact sLeEq rfl rfl | refine fun h => ?_)
  · refine ⟨?_⟩
    simp at *
    omega
  · refine W.loopC (D := Nat × (Nat → Nat → Tk)) (fun d => [(18, .row (xs.getD d.1 default).cells), (20, .tre true (fun _ => .agg (xs.getD d.1 default).cells))]) TTok hmo
      (fun d => ⟨23, 1, [(0, .one (.ag (xs.map Asked.cells))), (2, .one .nil), (3, .one (.ref 0 0 xs.length)), (4, oi d.1)], [(0, .arr (rowsT d.2 Asked.cells xs (List.replicate xs.length [i6 0, i6 0, .nil]) d.1))]⟩) (fun d => xs.length - d.1) (fun d => d.1 ≤ xs.length ∧ FillInv d.2 Asked.cells xs d.1) (0, fun _ _ => noTk) [] ⟨Nat.zero_le _, .zero⟩ ?_ ?_
    · repeat' (first | exact trivial | exact Side.mk rfl | exact Chk.mk (by kernel_rfl) | exact ⟨Chk.mk (by kernel_rfl)⟩ | exact sZ0 (by simp) | exact sFlatT Asked.frz (rep_flat rfl) | exact sLenM | refine And.intro ?_ ?_ | rfl)
    · intro ⟨i, Bf⟩ ⟨hi, hinv⟩
      dsimp only at hi hinv
      repeat' (first | refine And.intro ?_ ?_ | exact tf | exact ft | refine tt ?_ | refine ff ?_ | exact ⟨trivial⟩ | exact sAll rfl | exact sF1 rfl | exact sBld (by repeat' (first | exact trivial | rfl | exact Nat.le_of_ble_eq_true rfl | refine And.intro ?_ ?_)) rfl | exact sBS (by repeat' (first | exact trivial | rfl | exact Nat.le_of_ble_eq_true rfl | refine And.intro ?_ ?_)) rfl rfl rfl rfl | exact sBSF (by repeat' (first | exact trivial | rfl | exact Nat.le_of_ble_eq_true rfl | refine And.intro ?_ ?_)) rfl rfl rfl rfl | exact sLe rfl | exact Chk.mk (by kernel_rfl) | exact ⟨Chk.mk (by kernel_rfl)⟩ | exact sLeEq rfl rfl | refine fun h => ?_)
      all_goals try (exact endTree hinv hlen (by have h3 := of_decide_eq_false h; dsimp only at h3; rw [List.length_map] at h3; omega) rfl Asked.frz)
      all_goals try (exact ⟨⟨trivial, trivial⟩⟩)
      all_goals try (exact Side.mk (t_toAsked _ (hv _ (getD_mem (by have h3 := of_decide_eq_true h; dsimp only at h3; rw [List.length_map] at h3; omega)))))
      all_goals try (have hl : i < xs.length := by (have h3 := of_decide_eq_true ‹decide ((i : Int) < ((xs.map Asked.cells).length : Int)) = true›; rw [List.length_map] at h3; omega))
      all_goals try (exact sRow (by dsimp only; omega) (row_at xs _ hl) rfl)
      all_goals try (exact sIxT (i := i) hlen rfl hl rfl (rep_get hl) rfl)
      all_goals try (exact sStT (i := i) hlen (by simp) hl (rep_get hl) rfl rfl)
      all_goals try (exact Side.mk (by repeat' constructor))
      · rename_i B hA
        refine ⟨(i + 1, updT Bf i (Asked.cells (xs.getD i default)) (B 0)), [], by dsimp only; omega, ⟨by dsimp only; omega, hinv.step hl hA (h.st 0 _ rfl)⟩, ?_⟩
        repeat' (first | exact trivial | exact Side.mk rfl | exact Chk.mk (by kernel_rfl) | exact ⟨Chk.mk (by kernel_rfl)⟩ | exact sSetT hlen (by simp) hl (rep_get hl) rfl | exact sFlatT Asked.frz (rep_flat rfl) | exact sWrap (by dsimp only; omega) (by dsimp only; omega) (by dsimp only; omega) | refine And.intro ?_ ?_ | rfl)

theorem t_toToldS (xs : List Told) (hx : xs.length ≤ lim) : TPure PP 40 [.one (.fz (xs.map Told.cells))] (.one (.fz (xs.map Told.cells))) := by
  have hx0 : xs.length ≤ 1048576 := hx
  refine TPure.vc [] TTok hmo Go.Proofs.Try.func40 (by kernel_rfl) rfl (by kernel_rfl) ?_
  repeat' (first | refine And.intro ?_ ?_ | exact tf | exact ft | refine tt ?_ | refine ff ?_ | exact ⟨trivial⟩ | exact sAll rfl | exact sF1 rfl | exact sBld (by repeat' (first | exact trivial | rfl | exact Nat.le_of_ble_eq_true rfl | refine And.intro ?_ ?_)) rfl | exact sBS (by repeat' (first | exact trivial | rfl | exact Nat.le_of_ble_eq_true rfl | refine And.intro ?_ ?_)) rfl rfl rfl rfl | exact sBSF (by repeat' (first | exact trivial | rfl | exact Nat.le_of_ble_eq_true rfl | refine And.intro ?_ ?_)) rfl rfl rfl rfl | exact sLe rfl | exact Chk.mk (by kernel_rfl) | exact ⟨Chk.mk (by kernel_rfl)⟩ | exact sLeEq rfl rfl | refine fun h => ?_)
  · refine ⟨?_⟩
    simp at *
    omega
  · refine W.loopC (D := Nat) (fun i => [(18, .row (Told.cells (xs.getD i default))), (20, .res (.agg (xs.getD i default).cells))]) TTok hmo
      (fun i => ⟨23, 1, [(0, .one (.ag (xs.map Told.cells))), (2, .one .nil), (3, .one (.ref 0 0 xs.length)), (4, oi i)], [(0, .arr (part Told.cells [i6 0, i6 0, i6 0, i6 0, i6 0] xs i))]⟩) (fun i => xs.length - i) (fun i => i ≤ xs.length) 0 [] (by omega) ?_ ?_
    · repeat' (first | exact trivial | exact ⟨rfl⟩ | exact Chk.mk (by kernel_rfl) | exact sPart0 (by simp) | exact sFlat Told.flat rfl | refine And.intro ?_ ?_ | rfl)
      all_goals exact ⟨by simp⟩
    · intro i hi
      repeat' (first | refine And.intro ?_ ?_ | exact tf | exact ft | refine tt ?_ | refine ff ?_ | exact ⟨trivial⟩ | exact sAll rfl | exact sF1 rfl | exact sBld (by repeat' (first | exact trivial | rfl | exact Nat.le_of_ble_eq_true rfl | refine And.intro ?_ ?_)) rfl | exact sBS (by repeat' (first | exact trivial | rfl | exact Nat.le_of_ble_eq_true rfl | refine And.intro ?_ ?_)) rfl rfl rfl rfl | exact sBSF (by repeat' (first | exact trivial | rfl | exact Nat.le_of_ble_eq_true rfl | refine And.intro ?_ ?_)) rfl rfl rfl rfl | exact sLe rfl | exact Chk.mk (by kernel_rfl) | exact ⟨Chk.mk (by kernel_rfl)⟩ | exact sLeEq rfl rfl | exact sAnd (by repeat' constructor) (c_toTold _) | refine fun h => ?_)
      all_goals try (exact endFlat (part_all (by have h3 := of_decide_eq_false h; rw [List.length_map] at h3; omega)) rfl Told.frz (fun _ => rfl))
      all_goals try (exact ⟨⟨trivial, trivial⟩⟩)
      all_goals simp only [decide_eq_true_eq, decide_eq_false_iff_not, List.length_map] at *
      · exact sRow (by omega) (row_at xs _ (by omega)) rfl
      · exact sIdx (by omega) rfl rfl
      · exact sPut (by omega) rfl rfl
      · refine ⟨i + 1, [], by omega, by omega, ?_⟩
        repeat' (first | exact trivial | exact ⟨rfl⟩ | exact Chk.mk (by kernel_rfl) | exact ⟨wrap_succ (n := xs.length) (by omega) (by omega)⟩ | exact sPartS (by omega) rfl | exact sFlat Told.flat rfl | refine And.intro ?_ ?_ | rfl)

theorem t_toNodeS (xs : List Node) (hx : xs.length ≤ lim) (hv : ∀ v ∈ xs, v.ok lim) : TPure PP 37 [.one (.fz (xs.map Node.cells))] (.one (.fz (xs.map Node.cells))) := by
  have hx0 : xs.length ≤ 1048576 := hx
  have hlen : (List.replicate xs.length [i6 0, i6 0, .nil, .nil, i6 0, i6 0, i6 0, .nil, .nil, bo false, i6 0, i6 0, .nil, .nil, i6 0, i6 0, .nil, bo false, .nil, bo false, i6 0, i6 0, .nil, .nil, i6 0, i6 0, .nil]).length = xs.length := List.length_replicate
  refine TPure.vc [] TTok hmo Go.Proofs.Try.func37 (by kernel_rfl) rfl (by kernel_rfl) ?_
  repeat' (first | refine And.intro ?_ ?_ | exact tf | exact ft | refine tt ?_ | refine ff ?_ | exact ⟨trivial⟩ | exact sAll rfl | exact sF1 rfl | exact sBld (by repeat' (first | exact trivial | rfl | exact Nat.le_of_ble_eq_true rfl | refine And.intro ?_ ?_)) rfl | exact sBS (by repeat' (first | exact trivial | rfl | exact Nat.le_of_ble_eq_true rfl | refine And.intro ?_ ?_)) rfl rfl rfl rfl | exact sBSF (by repeat' (first | exact trivial | rfl | exact Nat.le_of_ble_eq_true rfl | refine And.intro ?_ ?_)) rfl rfl rfl rfl | exact sLe rfl | exact Chk.mk (by kernel_rfl) | exact ⟨Chk.mk (by kernel_rfl)⟩ | exact sLeEq rfl rfl | refine fun h => ?_)
  · refine ⟨?_⟩
    simp at *
    omega
  · refine W.loopC (D := Nat × (Nat → Nat → Tk)) (fun d => [(18, .row (xs.getD d.1 default).cells), (20, .tre true (fun _ => .agg (xs.getD d.1 default).cells))]) TTok hmo
      (fun d => ⟨23, 1, [(0, .one (.ag (xs.map Node.cells))), (2, .one .nil), (3, .one (.ref 0 0 xs.length)), (4, oi d.1)], [(0, .arr (rowsT d.2 Node.cells xs (List.replicate xs.length [i6 0, i6 0, .nil, .nil, i6 0, i6 0, i6 0, .nil, .nil, bo false, i6 0, i6 0, .nil, .nil, i6 0, i6 0, .nil, bo false, .nil, bo false, i6 0, i6 0, .nil, .nil, i6 0, i6 0, .nil]) d.1))]⟩) (fun d => xs.length - d.1) (fun d => d.1 ≤ xs.length ∧ FillInv d.2 Node.cells xs d.1) (0, fun _ _ => noTk) [] ⟨Nat.zero_le _, .zero⟩ ?_ ?_
    · repeat' (first | exact trivial | exact Side.mk rfl | exact Chk.mk (by kernel_rfl) | exact ⟨Chk.mk (by kernel_rfl)⟩ | exact sZ0 (by simp) | exact sFlatT Node.frz (rep_flat rfl) | exact sLenM | refine And.intro ?_ ?_ | rfl)
    · intro ⟨i, Bf⟩ ⟨hi, hinv⟩
      dsimp only at hi hinv
      repeat' (first | refine And.intro ?_ ?_ | exact tf | exact ft | refine tt ?_ | refine ff ?_ | exact ⟨trivial⟩ | exact sAll rfl | exact sF1 rfl | exact sBld (by repeat' (first | exact trivial | rfl | exact Nat.le_of_ble_eq_true rfl | refine And.intro ?_ ?_)) rfl | exact sBS (by repeat' (first | exact trivial | rfl | exact Nat.le_of_ble_eq_true rfl | refine And.intro ?_ ?_)) rfl rfl rfl rfl | exact sBSF (by repeat' (first | exact trivial | rfl | exact Nat.le_of_ble_eq_true rfl | refine And.intro ?_ ?_)) rfl rfl rfl rfl | exact sLe rfl | exact Chk.mk (by kernel_rfl) | exact ⟨Chk.mk (by kernel_rfl)⟩ | exact sLeEq rfl rfl | refine fun h => ?_)
      all_goals try (exact endTree hinv hlen (by have h3 := of_decide_eq_false h; dsimp only at h3; rw [List.length_map] at h3; omega) rfl Node.frz)
      all_goals try (exact ⟨⟨trivial, trivial⟩⟩)
      all_goals try (exact Side.mk (t_toNode _ (hv _ (getD_mem (by have h3 := of_decide_eq_true h; dsimp only at h3; rw [List.length_map] at h3; omega)))))
      all_goals try (have hl : i < xs.length := by (have h3 := of_decide_eq_true ‹decide ((i : Int) < ((xs.map Node.cells).length : Int)) = true›; rw [List.length_map] at h3; omega))
      all_goals try (exact sRow (by dsimp only; omega) (row_at xs _ hl) rfl)
      all_goals try (exact sIxT (i := i) hlen rfl hl rfl (rep_get hl) rfl)
      all_goals try (exact sStT (i := i) hlen (by simp) hl (rep_get hl) rfl rfl)
      all_goals try (exact Side.mk (by repeat' constructor))
      · rename_i B hA
        refine ⟨(i + 1, updT Bf i (Node.cells (xs.getD i default)) (B 0)), [], by dsimp only; omega, ⟨by dsimp only; omega, hinv.step hl hA (h.st 0 _ rfl)⟩, ?_⟩
        repeat' (first | exact trivial | exact Side.mk rfl | exact Chk.mk (by kernel_rfl) | exact ⟨Chk.mk (by kernel_rfl)⟩ | exact sSetT hlen (by simp) hl (rep_get hl) rfl | exact sFlatT Node.frz (rep_flat rfl) | exact sWrap (by dsimp only; omega) (by dsimp only; omega) (by dsimp only; omega) | refine And.intro ?_ ?_ | rfl)

theorem t_toWorld (x : World) (hx : x.ok lim) : TPure PP 12 [.agg x.cells] (.agg x.cells) := by
  refine TPure.vc [(6, .tre true (fun _ => .one (.fz (x.nodes.map Node.cells)))), (10, .tre true (fun _ => .one (.fz (x.net.map Msg.cells)))), (14, .tre true (fun _ => .one (.fz (x.asked.map Asked.cells)))), (18, .tre true (fun _ => .one (.fz (x.told.map Told.cells))))] TTok hmo Go.Proofs.Try.func12 (by kernel_rfl) rfl (by kernel_rfl) ?_
  repeat' (first | refine And.intro ?_ ?_ | exact tf | exact ft | refine tt ?_ | refine ff ?_ | exact ⟨trivial⟩ | exact sAll rfl | exact sF1 rfl | exact sBld (by repeat' (first | exact trivial | rfl | exact Nat.le_of_ble_eq_true rfl | refine And.intro ?_ ?_)) rfl | exact sBS (by repeat' (first | exact trivial | rfl | exact Nat.le_of_ble_eq_true rfl | refine And.intro ?_ ?_)) rfl rfl rfl rfl | exact sBSF (by repeat' (first | exact trivial | rfl | exact Nat.le_of_ble_eq_true rfl | refine And.intro ?_ ?_)) rfl rfl rfl rfl | exact sLe rfl | exact Chk.mk (by kernel_rfl) | exact ⟨Chk.mk (by kernel_rfl)⟩ | exact sLeEq rfl rfl | refine fun h => ?_)
  all_goals try (exact Side.mk (t_toNodeS _ hx.nodes.1 hx.nodes.2))
  all_goals try (exact Side.mk (t_toMsgS _ hx.net.1 hx.net.2))
  all_goals try (exact Side.mk (t_toAskedS _ hx.asked.1 hx.asked.2))
  all_goals try (exact Side.mk (t_toToldS _ hx.told))
  all_goals try (rename_i B0 hA0 hD0 B1 hA1 hD1 B2 hA2 hD2 B3 hA3; refine Side.mk (apart_agg ?_); exact And.intro (And.intro (fun x h1 h2 => (hD1.st 2 _ rfl _ (List.mem_of_getElem? (i := 0) rfl)) x h1 ⟨0, 0, h2⟩) (And.intro (fun x h1 h2 => (hD2.st 2 _ rfl _ (List.mem_of_getElem? (i := 0) rfl)) x h1 ⟨0, 0, h2⟩) (And.intro (fun x h1 h2 => (h.st 2 _ rfl _ (List.mem_of_getElem? (i := 0) rfl)) x h1 ⟨0, 0, h2⟩) (trivial)))) (And.intro (And.intro (fun x h1 h2 => (hD2.st 2 _ rfl _ (List.mem_of_getElem? (i := 1) rfl)) x h1 ⟨0, 0, h2⟩) (And.intro (fun x h1 h2 => (h.st 2 _ rfl _ (List.mem_of_getElem? (i := 1) rfl)) x h1 ⟨0, 0, h2⟩) (trivial))) (And.intro (And.intro (fun x h1 h2 => (h.st 2 _ rfl _ (List.mem_of_getElem? (i := 2) rfl)) x h1 ⟨0, 0, h2⟩) (trivial)) (And.intro (trivial) (trivial)))))
  all_goals first | exact trivial | exact Side.mk rfl | exact Side.mk (by repeat' (first | exact trivial | exact Nat.le_of_ble_eq_true rfl | rfl | refine And.intro ?_ ?_))

end Mg

/- The longest list that a node of a world knows, on both sides. No condition. -/
namespace Mg
open Go Go.RowKit
set_option maxRecDepth 100000
set_option linter.unusedVariables false
set_option linter.unusedSimpArgs false
attribute [local irreducible] W Pure Con TPure
/-- The place of the first node that knows most, of the first ones. -/
def bestOf (ns : List Node) : Nat → Nat
  | 0 => 0
  | i + 1 => if (ns.getD (bestOf ns i) default).known.length < (ns.getD i default).known.length then i else bestOf ns i
theorem bestOf_lt {ns : List Node} : ∀ {i : Nat}, 0 < i → bestOf ns i < i
  | 0, h => absurd h (Nat.lt_irrefl _)
  | 1, _ => by unfold bestOf; split <;> simp [bestOf]
  | i + 2, _ => by
    have := bestOf_lt (ns := ns) (i := i + 1) (by omega)
    unfold bestOf; split <;> omega
def wLog (w : World) : List Entry := if w.nodes.length = 0 then [] else (w.nodes.getD (bestOf w.nodes w.nodes.length) default).known
theorem wLog_ok {w : World} (h : w.ok lim) : EntriesOk lim (wLog w) := by
  unfold wLog
  split
  · exact ⟨Nat.zero_le _, fun e h => by cases h⟩
  · have := bestOf_lt (ns := w.nodes) (i := w.nodes.length) (by omega)
    exact (h.nodes.2 _ (getD_mem this)).known
set_option maxHeartbeats 4000000 in
theorem t_WorldLog (w : World) (hw : w.ok lim) : TPure PP 13 [.agg w.cells] (.one (.fz ((wLog w).map Entry.cells))) := by
  obtain ⟨q, hq⟩ : ∃ q, wLog w = q := ⟨_, rfl⟩
  rw [hq]
  have oq := wLog_ok hw
  rw [hq] at oq
  obtain ⟨ns, ms, aks, ts⟩ := w
  have hl : ns.length ≤ 1048576 := hw.nodes.1
  have hv := hw.nodes.2
  refine TPure.vc [(36, .row (ns.getD (bestOf ns ns.length) default).cells), (39, .tre true (fun _ => .one (.fz (q.map Entry.cells))))] TTok hmo Go.Proofs.Try.func13 (by kernel_rfl) rfl (by kernel_rfl) ?_
  repeat' (first | refine And.intro ?_ ?_ | exact tf | exact ft | refine tt ?_ | refine ff ?_ | exact ⟨trivial⟩ | exact sAll rfl | exact sF1 rfl | exact sBld (by repeat' (first | exact trivial | rfl | exact Nat.le_of_ble_eq_true rfl | refine And.intro ?_ ?_)) rfl | exact sBS (by repeat' (first | exact trivial | rfl | exact Nat.le_of_ble_eq_true rfl | refine And.intro ?_ ?_)) rfl rfl rfl rfl | exact sBSF (by repeat' (first | exact trivial | rfl | exact Nat.le_of_ble_eq_true rfl | refine And.intro ?_ ?_)) rfl rfl rfl rfl | exact sLe rfl | exact Chk.mk (by kernel_rfl) | exact ⟨Chk.mk (by kernel_rfl)⟩ | exact sLeEq rfl rfl | refine fun h => ?_)
  refine W.loopC (D := Nat) (fun i => [(12, .row (ns.getD i default).cells), (23, .row (ns.getD (bestOf ns i) default).cells)]) TTok hmo
    (fun i => ⟨40, 1, [(1, .one (.ptr 0 0 0)), (2, .one .nil), (3, oi (if i = 0 then -1 else (bestOf ns i : Int))), (7, .one (.ag (ns.map Node.cells))), (8, oi ns.length), (9, oi i)], [(0, .box [.ag (ns.map Node.cells), .ag (ms.map Msg.cells), .ag (aks.map Asked.cells), .ag (ts.map Told.cells)])]⟩) (fun i => ns.length - i) (fun i => i ≤ ns.length) 0 [] (Nat.zero_le _) ?_ ?_
  · repeat' (first | exact trivial | exact ⟨trivial⟩ | exact Side.mk rfl | exact sF1 rfl | exact Chk.mk (by kernel_rfl) | exact ⟨Chk.mk (by kernel_rfl)⟩ | exact sMapF Node.flat | exact ⟨by simp⟩ | refine And.intro ?_ ?_ | rfl)
    all_goals skip
  · intro i hi
    repeat' (first | refine And.intro ?_ ?_ | exact tf | exact ft | refine tt ?_ | refine ff ?_ | exact ⟨trivial⟩ | exact sAll rfl | exact sF1 rfl | exact sBld (by repeat' (first | exact trivial | rfl | exact Nat.le_of_ble_eq_true rfl | refine And.intro ?_ ?_)) rfl | exact sBS (by repeat' (first | exact trivial | rfl | exact Nat.le_of_ble_eq_true rfl | refine And.intro ?_ ?_)) rfl rfl rfl rfl | exact sBSF (by repeat' (first | exact trivial | rfl | exact Nat.le_of_ble_eq_true rfl | refine And.intro ?_ ?_)) rfl rfl rfl rfl | exact sLe rfl | exact Chk.mk (by kernel_rfl) | exact ⟨Chk.mk (by kernel_rfl)⟩ | exact sLeEq rfl rfl | refine fun h => ?_)
    all_goals try (have hli : i < ns.length := by (have h3 := of_decide_eq_true ‹decide ((i : Int) < (ns.length : Int)) = true›; omega))
    all_goals try (exact sRow (by omega) (row_at ns _ hli) rfl)
    all_goals try (have hlt : i ≠ 0 → bestOf ns i < ns.length := fun h0 => Nat.lt_of_lt_of_le (bestOf_lt (by omega)) hi)
    · have hi0 : i ≠ 0 := fun h0 => by rw [if_pos h0] at h; cases h
      rw [if_neg hi0]
      exact sRow (by omega) (row_at ns _ (hlt hi0)) rfl
    · have hi0 : i ≠ 0 := fun h0 => by have h5 := ‹decide ((if i = 0 then (-1 : Int) else (bestOf ns i : Int)) < 0) = false›; rw [if_pos h0] at h5; cases h5
      have hgt : (ns.getD (bestOf ns i) default).known.length < (ns.getD i default).known.length := by have h3 := of_decide_eq_true h; rw [List.length_map, List.length_map] at h3; omega
      have e1 : bestOf ns (i + 1) = i := by show (if _ < _ then i else bestOf ns i) = i; rw [if_pos hgt]
      refine ⟨i + 1, [], by omega, by omega, ?_⟩
      repeat' (first | exact trivial | exact ⟨trivial⟩ | exact Side.mk rfl | exact sF1 rfl | exact Chk.mk (by kernel_rfl) | exact ⟨Chk.mk (by kernel_rfl)⟩ | exact sMapF Node.flat | exact ⟨by rw [if_neg (by omega), e1]⟩ | exact ⟨by rw [wrapi] <;> omega⟩ | refine And.intro ?_ ?_ | rfl)
    · have hi0 : i ≠ 0 := fun h0 => by have h5 := ‹decide ((if i = 0 then (-1 : Int) else (bestOf ns i : Int)) < 0) = false›; rw [if_pos h0] at h5; cases h5
      have hgt : ¬ (ns.getD (bestOf ns i) default).known.length < (ns.getD i default).known.length := by have h3 := of_decide_eq_false h; rw [List.length_map, List.length_map] at h3; omega
      have e1 : bestOf ns (i + 1) = bestOf ns i := by show (if _ < _ then i else bestOf ns i) = bestOf ns i; rw [if_neg hgt]
      refine ⟨i + 1, [], by omega, by omega, ?_⟩
      repeat' (first | exact trivial | exact ⟨trivial⟩ | exact Side.mk rfl | exact sF1 rfl | exact Chk.mk (by kernel_rfl) | exact ⟨Chk.mk (by kernel_rfl)⟩ | exact sMapF Node.flat | exact ⟨by rw [if_neg (by omega), if_neg hi0, e1]⟩ | exact ⟨by rw [wrapi] <;> omega⟩ | refine And.intro ?_ ?_ | rfl)
    · have hi0 : i = 0 := Classical.byContradiction fun h0 => by
        rw [if_neg h0] at h
        have h3 := of_decide_eq_true h
        omega
      subst hi0
      have e1 : bestOf ns (0 + 1) = 0 := by show (if _ < _ then 0 else bestOf ns 0) = 0; split <;> rfl
      refine ⟨0 + 1, [], by omega, by omega, ?_⟩
      repeat' (first | exact trivial | exact ⟨trivial⟩ | exact Side.mk rfl | exact sF1 rfl | exact Chk.mk (by kernel_rfl) | exact ⟨Chk.mk (by kernel_rfl)⟩ | exact sMapF Node.flat | exact ⟨by rw [if_neg (by omega), e1]⟩ | exact ⟨by rw [wrapi] <;> omega⟩ | refine And.intro ?_ ?_ | rfl)
    all_goals (have hil : i = ns.length := by (have h3 := of_decide_eq_false ‹decide ((i : Int) < (ns.length : Int)) = false›; omega))
    all_goals try (have hi0 : i = 0 := Classical.byContradiction fun h0 => absurd (of_decide_eq_true ((if_neg h0 : (if i = 0 then (-1 : Int) else (bestOf ns i : Int)) = _) ▸ ‹decide ((if i = 0 then (-1 : Int) else (bestOf ns i : Int)) < 0) = true›)) (by omega); obtain rfl : [] = q := (by rw [← hq]; unfold wLog; rw [if_pos (by show ns.length = 0; omega)]))
    all_goals try (have hi1 : i ≠ 0 := (fun h0 => (by have h5 := ‹decide ((if i = 0 then (-1 : Int) else (bestOf ns i : Int)) < 0) = false›; rw [if_pos h0] at h5; cases h5)); obtain rfl : (ns.getD (bestOf ns ns.length) default).known = q := (by rw [← hq]; unfold wLog; rw [if_neg (by show ns.length ≠ 0; omega)]); subst hil)
    all_goals try (rw [if_neg hi1]; exact sRow (by omega) (row_at ns _ (hlt hi1)) rfl)
    all_goals try (exact Side.mk (t_entriesCopy _ oq.1 oq.2))
    all_goals try (exact ⟨⟨trivial, trivial⟩⟩)
    all_goals try (refine Side.mk (apart_vs ?_); first | exact trivial | exact And.intro trivial trivial)
    all_goals try (exact trivial)
    all_goals first | exact Side.mk rfl | exact trivial | exact Side.mk (by repeat' (first | exact trivial | exact Nat.le_of_ble_eq_true rfl | rfl | refine And.intro ?_ ?_))
set_option maxHeartbeats 4000000 in
theorem c_spec_WorldLog (w : World) (hw : w.ok lim) : Pure PP false 11 [.agg w.cells] (.one (.fz ((wLog w).map Entry.cells))) := by
  obtain ⟨q, hq⟩ : ∃ q, wLog w = q := ⟨_, rfl⟩
  rw [hq]
  have oq := wLog_ok hw
  rw [hq] at oq
  obtain ⟨ns, ms, aks, ts⟩ := w
  have hl : ns.length ≤ 1048576 := hw.nodes.1
  refine Pure.vc [(36, .row (ns.getD (bestOf ns ns.length) default).cells), (39, .res (.one (.fz (q.map Entry.cells))))] TTok hmo Go.Proofs.Try.func11 (by kernel_rfl) rfl (by kernel_rfl) ?_
  repeat' (first | refine And.intro ?_ ?_ | exact tf | exact ft | refine tt ?_ | refine ff ?_ | exact ⟨trivial⟩ | exact sAll rfl | exact sF1 rfl | exact sBld (by repeat' (first | exact trivial | rfl | exact Nat.le_of_ble_eq_true rfl | refine And.intro ?_ ?_)) rfl | exact sBS (by repeat' (first | exact trivial | rfl | exact Nat.le_of_ble_eq_true rfl | refine And.intro ?_ ?_)) rfl rfl rfl rfl | exact sBSF (by repeat' (first | exact trivial | rfl | exact Nat.le_of_ble_eq_true rfl | refine And.intro ?_ ?_)) rfl rfl rfl rfl | exact sLe rfl | exact Chk.mk (by kernel_rfl) | exact ⟨Chk.mk (by kernel_rfl)⟩ | exact sLeEq rfl rfl | refine fun h => ?_)
  refine W.loopC (D := Nat) (fun i => [(15, .row (ns.getD i default).cells), (22, .row (ns.getD (bestOf ns i) default).cells)]) TTok hmo
    (fun i => ⟨40, 1, [(1, .one (.ptr 0 0 0)), (2, .one .nil), (3, oi (bestOf ns i)), (4, oi i)], [(0, .box [.ag (ns.map Node.cells), .ag (ms.map Msg.cells), .ag (aks.map Asked.cells), .ag (ts.map Told.cells)])]⟩) (fun i => ns.length - i) (fun i => i ≤ ns.length) 0 [] (Nat.zero_le _) ?_ ?_
  · repeat' (first | exact trivial | exact ⟨trivial⟩ | exact Side.mk rfl | exact sF1 rfl | exact Chk.mk (by kernel_rfl) | exact ⟨Chk.mk (by kernel_rfl)⟩ | exact sMapF Node.flat | exact ⟨by simp⟩ | refine And.intro ?_ ?_ | rfl)
    all_goals skip
  · intro i hi
    repeat' (first | refine And.intro ?_ ?_ | exact tf | exact ft | refine tt ?_ | refine ff ?_ | exact ⟨trivial⟩ | exact sAll rfl | exact sF1 rfl | exact sBld (by repeat' (first | exact trivial | rfl | exact Nat.le_of_ble_eq_true rfl | refine And.intro ?_ ?_)) rfl | exact sBS (by repeat' (first | exact trivial | rfl | exact Nat.le_of_ble_eq_true rfl | refine And.intro ?_ ?_)) rfl rfl rfl rfl | exact sBSF (by repeat' (first | exact trivial | rfl | exact Nat.le_of_ble_eq_true rfl | refine And.intro ?_ ?_)) rfl rfl rfl rfl | exact sLe rfl | exact Chk.mk (by kernel_rfl) | exact ⟨Chk.mk (by kernel_rfl)⟩ | exact sLeEq rfl rfl | refine fun h => ?_)
    all_goals try (have hli : i < ns.length := by (have h3 := of_decide_eq_true ‹decide ((i : Int) < ((ns.map Node.cells).length : Int)) = true›; rw [List.length_map] at h3; omega))
    all_goals try (exact sRow (by omega) (row_at ns _ hli) rfl)
    all_goals try (have hlt : 0 < ns.length → bestOf ns i < ns.length := fun h0 => by
                     rcases Nat.eq_zero_or_pos i with h1 | h1
                     · subst h1; exact h0
                     · exact Nat.lt_of_lt_of_le (bestOf_lt h1) hi)
    all_goals try (exact sRow (by omega) (row_at ns _ (hlt (by omega))) rfl)
    · have hgt : (ns.getD (bestOf ns i) default).known.length < (ns.getD i default).known.length := by have h3 := of_decide_eq_true h; rw [List.length_map, List.length_map] at h3; omega
      have e1 : bestOf ns (i + 1) = i := by show (if _ < _ then i else bestOf ns i) = i; rw [if_pos hgt]
      refine ⟨i + 1, [], by omega, by omega, ?_⟩
      repeat' (first | exact trivial | exact ⟨trivial⟩ | exact Side.mk rfl | exact sF1 rfl | exact Chk.mk (by kernel_rfl) | exact ⟨Chk.mk (by kernel_rfl)⟩ | exact sMapF Node.flat | exact ⟨by rw [e1]⟩ | exact ⟨by rw [wrapi] <;> omega⟩ | refine And.intro ?_ ?_ | rfl)
    · have hgt : ¬ (ns.getD (bestOf ns i) default).known.length < (ns.getD i default).known.length := by have h3 := of_decide_eq_false h; rw [List.length_map, List.length_map] at h3; omega
      have e1 : bestOf ns (i + 1) = bestOf ns i := by show (if _ < _ then i else bestOf ns i) = bestOf ns i; rw [if_neg hgt]
      refine ⟨i + 1, [], by omega, by omega, ?_⟩
      repeat' (first | exact trivial | exact ⟨trivial⟩ | exact Side.mk rfl | exact sF1 rfl | exact Chk.mk (by kernel_rfl) | exact ⟨Chk.mk (by kernel_rfl)⟩ | exact sMapF Node.flat | exact ⟨by rw [e1]⟩ | exact ⟨by rw [wrapi] <;> omega⟩ | refine And.intro ?_ ?_ | rfl)
    all_goals (have hil : i = ns.length := (by have h3 := of_decide_eq_false ‹decide ((i : Int) < ((ns.map Node.cells).length : Int)) = false›; rw [List.length_map] at h3; omega); subst hil)
    · have h0 : ns.length = 0 := by have h3 := eq_of_beq ‹(((ns.map Node.cells).length : Int) == 0) = true›; rw [List.length_map] at h3; omega
      obtain rfl : [] = q := by rw [← hq]; unfold wLog; rw [if_pos (by show ns.length = 0; omega)]
      exact ⟨⟨trivial, trivial⟩, rfl, trivial⟩
    all_goals (have h0 : ns.length ≠ 0 := fun h1 => (by have h5 := ‹(((ns.map Node.cells).length : Int) == 0) = false›; rw [List.length_map, h1] at h5; cases h5))
    all_goals (obtain rfl : (ns.getD (bestOf ns ns.length) default).known = q := (by rw [← hq]; unfold wLog; rw [if_neg (by show ns.length ≠ 0; omega)]))
    all_goals try (exact sRow (by omega) (row_at ns _ (hlt (by omega))) rfl)
    all_goals try (exact sAnd (by repeat' constructor) (c_l8EntriesF _ (Nat.le_trans oq.1 (by decide)) oq.2))
    all_goals exact ⟨⟨trivial, trivial⟩, rfl, trivial⟩
end Mg

/- Sizes of worlds. No condition. -/
namespace Mg
open Go Go.RowKit
set_option maxRecDepth 100000
set_option linter.unusedVariables false
set_option linter.unusedSimpArgs false
attribute [local irreducible] W Pure
theorem c_szMsgS (xs : List Msg) (l : Int) (h0 : 0 ≤ l) (h1 : l ≤ lim) (hx : xs.length ≤ maxLen) (hv : ∀ v ∈ xs, v.ok maxLen) : Pure PP false 33 [.one (.fz (xs.map Msg.cells)), oi l] (oi (szS szMsg xs l)) := by
  have hw : IntKind.i64.wrap (l - ((xs.map Msg.cells).length : Int)) = l - xs.length := by
    unfold maxLen at hx; unfold lim at h1; rw [List.length_map, wrapi] <;> omega
  have hx' : xs.length ≤ 9223372036854775807 := hx
  refine Pure.vc [] TTok hmo Go.Proofs.Try.func33 (by kernel_rfl) rfl (by kernel_rfl) ?_
  repeat' (first | refine And.intro ?_ ?_ | exact tf | exact ft | refine tt ?_ | refine ff ?_ | exact ⟨trivial⟩ | exact sAll rfl | exact sF1 rfl | exact sBld (by repeat' (first | exact trivial | rfl | exact Nat.le_of_ble_eq_true rfl | refine And.intro ?_ ?_)) rfl | exact sBS (by repeat' (first | exact trivial | rfl | exact Nat.le_of_ble_eq_true rfl | refine And.intro ?_ ?_)) rfl rfl rfl rfl | exact sBSF (by repeat' (first | exact trivial | rfl | exact Nat.le_of_ble_eq_true rfl | refine And.intro ?_ ?_)) rfl rfl rfl rfl | exact sLe rfl | exact Chk.mk (by kernel_rfl) | exact ⟨Chk.mk (by kernel_rfl)⟩ | exact sLeEq rfl rfl | refine fun h => ?_)
  · rw [hw] at h; refine ⟨?_⟩; simp_all [szS, thenI]
  · rw [hw] at h
    simp only [decide_eq_false_iff_not] at h
    refine W.loopC (D := Nat × Int) (fun d => [(20, .row (xs.getD d.1 default).cells), (23, .res (oi (szMsg (xs.getD d.1 default) d.2)))]) TTok hmo
      (fun d => ⟨27, 0, [(0, .one (.ag (xs.map Msg.cells))), (1, oi d.2), (4, oi 0), (5, oi d.1)], []⟩) (fun d => xs.length - d.1) (fun d => d.1 ≤ xs.length ∧ 0 ≤ d.2 ∧ d.2 ≤ lim ∧ szS szMsg xs l = szL szMsg (xs.drop d.1) d.2) (0, l - xs.length) [] ⟨by simp, by simp only; omega, by simp only; omega, by simp [szS, thenI]; omega⟩ ?_ ?_
    · repeat' (first | exact trivial | exact ⟨rfl⟩ | exact Chk.mk (by kernel_rfl) | refine And.intro ?_ ?_ | rfl)
      exact ⟨hw.symm⟩
    · intro ⟨i, a⟩ ⟨hi, ha0, ha1, hp⟩
      simp only at hi ha0 ha1 hp
      repeat' (first | refine And.intro ?_ ?_ | exact tf | exact ft | refine tt ?_ | refine ff ?_ | exact ⟨trivial⟩ | exact sAll rfl | exact sF1 rfl | exact sBld (by repeat' (first | exact trivial | rfl | exact Nat.le_of_ble_eq_true rfl | refine And.intro ?_ ?_)) rfl | exact sBS (by repeat' (first | exact trivial | rfl | exact Nat.le_of_ble_eq_true rfl | refine And.intro ?_ ?_)) rfl rfl rfl rfl | exact sBSF (by repeat' (first | exact trivial | rfl | exact Nat.le_of_ble_eq_true rfl | refine And.intro ?_ ?_)) rfl rfl rfl rfl | exact sLe rfl | exact Chk.mk (by kernel_rfl) | exact ⟨Chk.mk (by kernel_rfl)⟩ | exact sLeEq rfl rfl | refine fun h => ?_)
      all_goals simp only [decide_eq_true_eq, decide_eq_false_iff_not, List.length_map] at *
      · exact sRow (by omega) (row_at xs _ (by omega)) rfl
      · exact sAnd (by repeat' constructor) (c_szMsg _ _ ha0 ha1 (hv _ (getD_mem (by omega))))
      · rw [szL_step _ _ _ (by omega)] at hp
        refine ⟨?_⟩; simp_all [thenI]
      · rw [szL_step _ _ _ (by omega)] at hp
        have hle := (szOk_msg (xs.getD i default)).le _ ha0
        refine ⟨(i + 1, szMsg (xs.getD i default) a), [], by simp only; omega, ⟨by simp only; omega, by simp only; omega, by simp only; omega, by simp only; rw [hp, thenI, if_neg (by assumption)]⟩, ?_⟩
        repeat' (first | exact trivial | exact ⟨rfl⟩ | exact Chk.mk (by kernel_rfl) | exact ⟨wrap_succ (n := xs.length) (by omega) (by omega)⟩ | refine And.intro ?_ ?_ | rfl)
      · rw [List.drop_eq_nil_of_le (by omega)] at hp
        refine ⟨?_⟩; simp_all [szL]

theorem c_szToldS (xs : List Told) (l : Int) (h0 : 0 ≤ l) (h1 : l ≤ lim) (hx : xs.length ≤ maxLen) : Pure PP false 35 [.one (.fz (xs.map Told.cells)), oi l] (oi (szT xs.length l)) := by
  have hw : IntKind.i64.wrap (l - ((xs.map Told.cells).length : Int)) = l - xs.length := by
    unfold maxLen at hx; unfold lim at h1; rw [List.length_map, wrapi] <;> omega
  refine Pure.vc [] TTok hmo Go.Proofs.Try.func35 (by kernel_rfl) rfl (by kernel_rfl) ?_
  repeat' (first | refine And.intro ?_ ?_ | exact tf | exact ft | refine tt ?_ | refine ff ?_ | exact ⟨trivial⟩ | exact sAll rfl | exact sF1 rfl | exact sBld (by repeat' (first | exact trivial | rfl | exact Nat.le_of_ble_eq_true rfl | refine And.intro ?_ ?_)) rfl | exact sBS (by repeat' (first | exact trivial | rfl | exact Nat.le_of_ble_eq_true rfl | refine And.intro ?_ ?_)) rfl rfl rfl rfl | exact sBSF (by repeat' (first | exact trivial | rfl | exact Nat.le_of_ble_eq_true rfl | refine And.intro ?_ ?_)) rfl rfl rfl rfl | exact sLe rfl | exact Chk.mk (by kernel_rfl) | exact ⟨Chk.mk (by kernel_rfl)⟩ | exact sLeEq rfl rfl | refine fun h => ?_)
  all_goals (rw [hw] at h; refine ⟨?_⟩; simp_all [szT, sg])
  omega

set_option maxHeartbeats 2000000 in
theorem c_szAsked (x : Asked) (l : Int) (h0 : 0 ≤ l) (h1 : l ≤ lim) (hx : x.ok maxLen) : Pure PP false 66 [.agg x.cells, oi l] (oi (szAsked x l)) := by
  have h1' : l ≤ 1048576 := h1
  obtain ⟨l1, k1⟩ : ∃ l1, szT x.prog.length l = l1 := ⟨_, rfl⟩
  have e1 :  l1 ≤ l := k1 ▸ (szOk_T x.prog.length).le l h0
  have c1 :=  c_szInsS _ l h0 h1 hx
  simp only [k1] at c1
  have hN : szAsked x l = _ := rfl
  rw [hN]
  simp only [szAsked, thenI, sg, k1]
  clear hN
  refine Pure.vc [(8, .res (oi l1))] TTok hmo Go.Proofs.Try.func66 (by kernel_rfl) rfl (by kernel_rfl) ?_
  repeat' (first | refine And.intro ?_ ?_ | exact tf | exact ft | refine tt ?_ | refine ff ?_ | exact ⟨trivial⟩ | exact sAll rfl | exact sF1 rfl | exact sBld (by repeat' (first | exact trivial | rfl | exact Nat.le_of_ble_eq_true rfl | refine And.intro ?_ ?_)) rfl | exact sBS (by repeat' (first | exact trivial | rfl | exact Nat.le_of_ble_eq_true rfl | refine And.intro ?_ ?_)) rfl rfl rfl rfl | exact sBSF (by repeat' (first | exact trivial | rfl | exact Nat.le_of_ble_eq_true rfl | refine And.intro ?_ ?_)) rfl rfl rfl rfl | exact sLe rfl | exact Chk.mk (by kernel_rfl) | exact ⟨Chk.mk (by kernel_rfl)⟩ | exact sLeEq rfl rfl | exact sAnd (by repeat' constructor) (c1) | refine fun h => ?_)
  all_goals clear c1 e1 k1
  all_goals (refine Side.mk ?_; simp_all)
  all_goals try (intro hz; omega)
  all_goals repeat rw [if_neg (by omega)]

theorem c_szAskedS (xs : List Asked) (l : Int) (h0 : 0 ≤ l) (h1 : l ≤ lim) (hx : xs.length ≤ maxLen) (hv : ∀ v ∈ xs, v.ok maxLen) : Pure PP false 34 [.one (.fz (xs.map Asked.cells)), oi l] (oi (szS szAsked xs l)) := by
  have hw : IntKind.i64.wrap (l - ((xs.map Asked.cells).length : Int)) = l - xs.length := by
    unfold maxLen at hx; unfold lim at h1; rw [List.length_map, wrapi] <;> omega
  have hx' : xs.length ≤ 9223372036854775807 := hx
  refine Pure.vc [] TTok hmo Go.Proofs.Try.func34 (by kernel_rfl) rfl (by kernel_rfl) ?_
  repeat' (first | refine And.intro ?_ ?_ | exact tf | exact ft | refine tt ?_ | refine ff ?_ | exact ⟨trivial⟩ | exact sAll rfl | exact sF1 rfl | exact sBld (by repeat' (first | exact trivial | rfl | exact Nat.le_of_ble_eq_true rfl | refine And.intro ?_ ?_)) rfl | exact sBS (by repeat' (first | exact trivial | rfl | exact Nat.le_of_ble_eq_true rfl | refine And.intro ?_ ?_)) rfl rfl rfl rfl | exact sBSF (by repeat' (first | exact trivial | rfl | exact Nat.le_of_ble_eq_true rfl | refine And.intro ?_ ?_)) rfl rfl rfl rfl | exact sLe rfl | exact Chk.mk (by kernel_rfl) | exact ⟨Chk.mk (by kernel_rfl)⟩ | exact sLeEq rfl rfl | refine fun h => ?_)
  · rw [hw] at h; refine ⟨?_⟩; simp_all [szS, thenI]
  · rw [hw] at h
    simp only [decide_eq_false_iff_not] at h
    refine W.loopC (D := Nat × Int) (fun d => [(20, .row (xs.getD d.1 default).cells), (23, .res (oi (szAsked (xs.getD d.1 default) d.2)))]) TTok hmo
      (fun d => ⟨27, 0, [(0, .one (.ag (xs.map Asked.cells))), (1, oi d.2), (4, oi 0), (5, oi d.1)], []⟩) (fun d => xs.length - d.1) (fun d => d.1 ≤ xs.length ∧ 0 ≤ d.2 ∧ d.2 ≤ lim ∧ szS szAsked xs l = szL szAsked (xs.drop d.1) d.2) (0, l - xs.length) [] ⟨by simp, by simp only; omega, by simp only; omega, by simp [szS, thenI]; omega⟩ ?_ ?_
    · repeat' (first | exact trivial | exact ⟨rfl⟩ | exact Chk.mk (by kernel_rfl) | refine And.intro ?_ ?_ | rfl)
      exact ⟨hw.symm⟩
    · intro ⟨i, a⟩ ⟨hi, ha0, ha1, hp⟩
      simp only at hi ha0 ha1 hp
      repeat' (first | refine And.intro ?_ ?_ | exact tf | exact ft | refine tt ?_ | refine ff ?_ | exact ⟨trivial⟩ | exact sAll rfl | exact sF1 rfl | exact sBld (by repeat' (first | exact trivial | rfl | exact Nat.le_of_ble_eq_true rfl | refine And.intro ?_ ?_)) rfl | exact sBS (by repeat' (first | exact trivial | rfl | exact Nat.le_of_ble_eq_true rfl | refine And.intro ?_ ?_)) rfl rfl rfl rfl | exact sBSF (by repeat' (first | exact trivial | rfl | exact Nat.le_of_ble_eq_true rfl | refine And.intro ?_ ?_)) rfl rfl rfl rfl | exact sLe rfl | exact Chk.mk (by kernel_rfl) | exact ⟨Chk.mk (by kernel_rfl)⟩ | exact sLeEq rfl rfl | refine fun h => ?_)
      all_goals simp only [decide_eq_true_eq, decide_eq_false_iff_not, List.length_map] at *
      · exact sRow (by omega) (row_at xs _ (by omega)) rfl
      · exact sAnd (by repeat' constructor) (c_szAsked _ _ ha0 ha1 (hv _ (getD_mem (by omega))))
      · rw [szL_step _ _ _ (by omega)] at hp
        refine ⟨?_⟩; simp_all [thenI]
      · rw [szL_step _ _ _ (by omega)] at hp
        have hle := (szOk_asked (xs.getD i default)).le _ ha0
        refine ⟨(i + 1, szAsked (xs.getD i default) a), [], by simp only; omega, ⟨by simp only; omega, by simp only; omega, by simp only; omega, by simp only; rw [hp, thenI, if_neg (by assumption)]⟩, ?_⟩
        repeat' (first | exact trivial | exact ⟨rfl⟩ | exact Chk.mk (by kernel_rfl) | exact ⟨wrap_succ (n := xs.length) (by omega) (by omega)⟩ | refine And.intro ?_ ?_ | rfl)
      · rw [List.drop_eq_nil_of_le (by omega)] at hp
        refine ⟨?_⟩; simp_all [szL]

theorem c_szNodeS (xs : List Node) (l : Int) (h0 : 0 ≤ l) (h1 : l ≤ lim) (hx : xs.length ≤ maxLen) (hv : ∀ v ∈ xs, v.ok maxLen) : Pure PP false 32 [.one (.fz (xs.map Node.cells)), oi l] (oi (szS szNode xs l)) := by
  have hw : IntKind.i64.wrap (l - ((xs.map Node.cells).length : Int)) = l - xs.length := by
    unfold maxLen at hx; unfold lim at h1; rw [List.length_map, wrapi] <;> omega
  have hx' : xs.length ≤ 9223372036854775807 := hx
  refine Pure.vc [] TTok hmo Go.Proofs.Try.func32 (by kernel_rfl) rfl (by kernel_rfl) ?_
  repeat' (first | refine And.intro ?_ ?_ | exact tf | exact ft | refine tt ?_ | refine ff ?_ | exact ⟨trivial⟩ | exact sAll rfl | exact sF1 rfl | exact sBld (by repeat' (first | exact trivial | rfl | exact Nat.le_of_ble_eq_true rfl | refine And.intro ?_ ?_)) rfl | exact sBS (by repeat' (first | exact trivial | rfl | exact Nat.le_of_ble_eq_true rfl | refine And.intro ?_ ?_)) rfl rfl rfl rfl | exact sBSF (by repeat' (first | exact trivial | rfl | exact Nat.le_of_ble_eq_true rfl | refine And.intro ?_ ?_)) rfl rfl rfl rfl | exact sLe rfl | exact Chk.mk (by kernel_rfl) | exact ⟨Chk.mk (by kernel_rfl)⟩ | exact sLeEq rfl rfl | refine fun h => ?_)
  · rw [hw] at h; refine ⟨?_⟩; simp_all [szS, thenI]
  · rw [hw] at h
    simp only [decide_eq_false_iff_not] at h
    refine W.loopC (D := Nat × Int) (fun d => [(20, .row (xs.getD d.1 default).cells), (23, .res (oi (szNode (xs.getD d.1 default) d.2)))]) TTok hmo
      (fun d => ⟨27, 0, [(0, .one (.ag (xs.map Node.cells))), (1, oi d.2), (4, oi 0), (5, oi d.1)], []⟩) (fun d => xs.length - d.1) (fun d => d.1 ≤ xs.length ∧ 0 ≤ d.2 ∧ d.2 ≤ lim ∧ szS szNode xs l = szL szNode (xs.drop d.1) d.2) (0, l - xs.length) [] ⟨by simp, by simp only; omega, by simp only; omega, by simp [szS, thenI]; omega⟩ ?_ ?_
    · repeat' (first | exact trivial | exact ⟨rfl⟩ | exact Chk.mk (by kernel_rfl) | refine And.intro ?_ ?_ | rfl)
      exact ⟨hw.symm⟩
    · intro ⟨i, a⟩ ⟨hi, ha0, ha1, hp⟩
      simp only at hi ha0 ha1 hp
      repeat' (first | refine And.intro ?_ ?_ | exact tf | exact ft | refine tt ?_ | refine ff ?_ | exact ⟨trivial⟩ | exact sAll rfl | exact sF1 rfl | exact sBld (by repeat' (first | exact trivial | rfl | exact Nat.le_of_ble_eq_true rfl | refine And.intro ?_ ?_)) rfl | exact sBS (by repeat' (first | exact trivial | rfl | exact Nat.le_of_ble_eq_true rfl | refine And.intro ?_ ?_)) rfl rfl rfl rfl | exact sBSF (by repeat' (first | exact trivial | rfl | exact Nat.le_of_ble_eq_true rfl | refine And.intro ?_ ?_)) rfl rfl rfl rfl | exact sLe rfl | exact Chk.mk (by kernel_rfl) | exact ⟨Chk.mk (by kernel_rfl)⟩ | exact sLeEq rfl rfl | refine fun h => ?_)
      all_goals simp only [decide_eq_true_eq, decide_eq_false_iff_not, List.length_map] at *
      · exact sRow (by omega) (row_at xs _ (by omega)) rfl
      · exact sAnd (by repeat' constructor) (c_szNode _ _ ha0 ha1 (hv _ (getD_mem (by omega))))
      · rw [szL_step _ _ _ (by omega)] at hp
        refine ⟨?_⟩; simp_all [thenI]
      · rw [szL_step _ _ _ (by omega)] at hp
        have hle := (szOk_node (xs.getD i default)).le _ ha0
        refine ⟨(i + 1, szNode (xs.getD i default) a), [], by simp only; omega, ⟨by simp only; omega, by simp only; omega, by simp only; omega, by simp only; rw [hp, thenI, if_neg (by assumption)]⟩, ?_⟩
        repeat' (first | exact trivial | exact ⟨rfl⟩ | exact Chk.mk (by kernel_rfl) | exact ⟨wrap_succ (n := xs.length) (by omega) (by omega)⟩ | refine And.intro ?_ ?_ | rfl)
      · rw [List.drop_eq_nil_of_le (by omega)] at hp
        refine ⟨?_⟩; simp_all [szL]

set_option maxHeartbeats 2000000 in
theorem c_szWorld (x : World) (l : Int) (h0 : 0 ≤ l) (h1 : l ≤ lim) (hx : x.ok maxLen) : Pure PP false 10 [.agg x.cells, oi l] (oi (szWorld x l)) := by
  have h1' : l ≤ 1048576 := h1
  obtain ⟨l1, k1⟩ : ∃ l1, szS szNode x.nodes l = l1 := ⟨_, rfl⟩
  have e1 :  l1 ≤ l := k1 ▸ (szOk_S szOk_node x.nodes).le l h0
  have c1 :=  c_szNodeS _ l h0 h1 hx.nodes.1 hx.nodes.2
  simp only [k1] at c1
  obtain ⟨l2, k2⟩ : ∃ l2, szS szMsg x.net l1 = l2 := ⟨_, rfl⟩
  have e2 : ∀ (g1 : 0 ≤ l1), l2 ≤ l1 := fun g1 => k2 ▸ (szOk_S szOk_msg x.net).le l1 g1
  have c2 := fun (g1 : 0 ≤ l1) => c_szMsgS _ l1 g1 (show (l1 : Int) ≤ 1048576 by have := e1; omega) hx.net.1 hx.net.2
  simp only [k2] at c2
  obtain ⟨l3, k3⟩ : ∃ l3, szS szAsked x.asked l2 = l3 := ⟨_, rfl⟩
  have e3 : ∀ (g1 : 0 ≤ l1) (g2 : 0 ≤ l2), l3 ≤ l2 := fun g1 g2 => k3 ▸ (szOk_S szOk_asked x.asked).le l2 g2
  have c3 := fun (g1 : 0 ≤ l1) (g2 : 0 ≤ l2) => c_szAskedS _ l2 g2 (show (l2 : Int) ≤ 1048576 by have := e1; have := e2 g1; omega) hx.asked.1 hx.asked.2
  simp only [k3] at c3
  obtain ⟨l4, k4⟩ : ∃ l4, szT x.told.length l3 = l4 := ⟨_, rfl⟩
  have e4 : ∀ (g1 : 0 ≤ l1) (g2 : 0 ≤ l2) (g3 : 0 ≤ l3), l4 ≤ l3 := fun g1 g2 g3 => k4 ▸ (szOk_T x.told.length).le l3 g3
  have c4 := fun (g1 : 0 ≤ l1) (g2 : 0 ≤ l2) (g3 : 0 ≤ l3) => c_szToldS _ l3 g3 (show (l3 : Int) ≤ 1048576 by have := e1; have := e2 g1; have := e3 g1 g2; omega) hx.told
  simp only [k4] at c4
  have hN : szWorld x l = _ := rfl
  rw [hN]
  simp only [szWorld, thenI, sg, k1, k2, k3, k4]
  clear hN
  refine Pure.vc [(8, .res (oi l1)), (14, .res (oi l2)), (20, .res (oi l3)), (26, .res (oi l4))] TTok hmo Go.Proofs.Try.func10 (by kernel_rfl) rfl (by kernel_rfl) ?_
  repeat' (first | refine And.intro ?_ ?_ | exact tf | exact ft | refine tt ?_ | refine ff ?_ | exact ⟨trivial⟩ | exact sAll rfl | exact sF1 rfl | exact sBld (by repeat' (first | exact trivial | rfl | exact Nat.le_of_ble_eq_true rfl | refine And.intro ?_ ?_)) rfl | exact sBS (by repeat' (first | exact trivial | rfl | exact Nat.le_of_ble_eq_true rfl | refine And.intro ?_ ?_)) rfl rfl rfl rfl | exact sBSF (by repeat' (first | exact trivial | rfl | exact Nat.le_of_ble_eq_true rfl | refine And.intro ?_ ?_)) rfl rfl rfl rfl | exact sLe rfl | exact Chk.mk (by kernel_rfl) | exact ⟨Chk.mk (by kernel_rfl)⟩ | exact sLeEq rfl rfl | exact sAnd (by repeat' constructor) (c1) | exact sAnd (by repeat' constructor) (c2 (by simp only [decide_eq_false_iff_not, decide_eq_true_eq] at *; omega)) | exact sAnd (by repeat' constructor) (c3 (by simp only [decide_eq_false_iff_not, decide_eq_true_eq] at *; omega) (by simp only [decide_eq_false_iff_not, decide_eq_true_eq] at *; omega)) | exact sAnd (by repeat' constructor) (c4 (by simp only [decide_eq_false_iff_not, decide_eq_true_eq] at *; omega) (by simp only [decide_eq_false_iff_not, decide_eq_true_eq] at *; omega) (by simp only [decide_eq_false_iff_not, decide_eq_true_eq] at *; omega)) | refine fun h => ?_)
  all_goals clear c4 e4 k4 c3 e3 k3 c2 e2 k2 c1 e1 k1
  all_goals (refine Side.mk ?_; simp_all)
  all_goals try (intro hz; omega)
  all_goals repeat rw [if_neg (by omega)]

end Mg

/- What the row's arguments read as. No condition. -/
namespace Mg
open Go Go.RowKit
set_option maxRecDepth 100000
set_option linter.unusedVariables false

theorem TTlay : LOk TT := fun t i h => by
  have h1 : (tyL.all fun q => q.2.lay TT) = true := by kernel_rfl
  have h2 : (t, i) ∈ tyL := look_mem h
  exact List.all_eq_true.1 h1 _ h2

theorem fit_two {n t : Nat} {cs : List MC} {i : TI} (h : fit TT n t cs) (ht : TT t = some i) (hk : i.k = .struct [(0, 3), (1, 3)]) : ∃ x : Two, cs = x.cells := by
  obtain ⟨n, a, r, rfl, ha, b, r', rfl, hb, rfl⟩ := fit_struct h ht hk
  obtain ⟨x, rfl, _⟩ := fit_int ha (i := ⟨1, 8, .int .i64, [.int .i64]⟩) rfl rfl
  obtain ⟨y, rfl, _⟩ := fit_int hb (i := ⟨1, 8, .int .i64, [.int .i64]⟩) rfl rfl
  exact ⟨⟨x, y⟩, rfl⟩
theorem fit_twos {n t e : Nat} {cs : List MC} {i ie : TI} (h : fit TT n t cs) (ht : TT t = some i) (hk : i.k = .slice e) (he : TT e = some ie) (hke : ie.k = .struct [(0, 3), (1, 3)]) : ∃ xs : List Two, cs = [.fz (xs.map Two.cells)] ∧ xs.length ≤ maxLen := by
  obtain ⟨rows, rfl, hl, hr⟩ := fit_slice h ht hk
  obtain ⟨xs, rfl, _⟩ := rows_data (c := Two.cells) (p := fun _ => True) fun r hr' => by
    obtain ⟨n, hn⟩ := hr r hr'
    obtain ⟨x, hx⟩ := fit_two hn he hke
    exact ⟨x, hx, trivial⟩
  exact ⟨xs, rfl, by simpa using hl⟩
theorem fit_run {n : Nat} {cs : List MC} (h : fit TT n 113 cs) : ∃ x : Run, cs = x.cells ∧ x.ok maxLen := by
  obtain ⟨n, a, r, rfl, ha, b, r', rfl, hb, c, r'', rfl, hc, d, r3, rfl, hd, rfl⟩ := fit_struct h (i := ⟨4, 64, .struct [(0, 110), (1, 111), (2, 3), (3, 3)], [.nil, .nil, .int .i64, .int .i64]⟩) rfl rfl
  obtain ⟨xs, rfl, hx⟩ := fit_twos ha (i := ⟨1, 24, .slice 181, [.nil]⟩) (ie := ⟨2, 16, .struct [(0, 3), (1, 3)], [.int .i64, .int .i64]⟩) rfl rfl rfl rfl
  obtain ⟨ys, rfl, hy⟩ := fit_twos hb (i := ⟨1, 24, .slice 183, [.nil]⟩) (ie := ⟨2, 16, .struct [(0, 3), (1, 3)], [.int .i64, .int .i64]⟩) rfl rfl rfl rfl
  obtain ⟨x, rfl, _⟩ := fit_int hc (i := ⟨1, 8, .int .i64, [.int .i64]⟩) rfl rfl
  obtain ⟨y, rfl, _⟩ := fit_int hd (i := ⟨1, 8, .int .i64, [.int .i64]⟩) rfl rfl
  exact ⟨⟨xs, ys, x, y⟩, rfl, hx, hy⟩
theorem fit_entry {n : Nat} {cs : List MC} (h : fit TT n 115 cs) : ∃ x : Entry, cs = x.cells ∧ x.ok maxLen := by
  obtain ⟨n, a, r, rfl, ha, b, r', rfl, hb, c, r'', rfl, hc, rfl⟩ := fit_struct h (i := ⟨7, 88, .struct [(0, 4), (1, 109), (3, 113)], [.bool, .int .i64, .int .i64, .nil, .nil, .int .i64, .int .i64]⟩) rfl rfl
  obtain ⟨x, rfl⟩ := fit_bool ha (i := ⟨1, 1, .bool, [.bool]⟩) rfl rfl
  obtain ⟨q, rfl⟩ := fit_two hb (i := ⟨2, 16, .struct [(0, 3), (1, 3)], [.int .i64, .int .i64]⟩) rfl rfl
  obtain ⟨y, rfl, hy⟩ := fit_run hc
  exact ⟨⟨x, q, y⟩, by simp [Entry.cells], hy⟩
theorem fit_vote {n : Nat} {cs : List MC} (h : fit TT n 166 cs) : ∃ x : Vote, cs = x.cells ∧ x.ok maxLen := by
  obtain ⟨n, a, r, rfl, ha, b, r', rfl, hb, rfl⟩ := fit_struct h (i := ⟨8, 96, .struct [(0, 3), (1, 115)], [.int .i64, .bool, .int .i64, .int .i64, .nil, .nil, .int .i64, .int .i64]⟩) rfl rfl
  obtain ⟨x, rfl, _⟩ := fit_int ha (i := ⟨1, 8, .int .i64, [.int .i64]⟩) rfl rfl
  obtain ⟨y, rfl, hy⟩ := fit_entry hb
  exact ⟨⟨x, y⟩, by simp [Vote.cells], hy⟩
theorem fit_votes {n : Nat} {cs : List MC} (h : fit TT n 105 cs) : ∃ xs : List Vote, cs = [.fz (xs.map Vote.cells)] ∧ VotesOk maxLen xs := by
  obtain ⟨rows, rfl, hl, hr⟩ := fit_slice h (i := ⟨1, 24, .slice 166, [.nil]⟩) rfl rfl
  obtain ⟨xs, rfl, hv⟩ := rows_data (c := Vote.cells) (p := fun v => v.ok maxLen) fun r hr' => by
    obtain ⟨n, hn⟩ := hr r hr'
    exact fit_vote hn
  exact ⟨xs, rfl, by simpa using hl, hv⟩
theorem fit_acc {n : Nat} {cs : List MC} (h : fit TT n 107 cs) : ∃ x : Acc, cs = x.cells ∧ x.ok maxLen := by
  obtain ⟨n, a, r, rfl, ha, b, r', rfl, hb, rfl⟩ := fit_struct h (i := ⟨2, 32, .struct [(0, 3), (1, 105)], [.int .i64, .nil]⟩) rfl rfl
  obtain ⟨x, rfl, _⟩ := fit_int ha (i := ⟨1, 8, .int .i64, [.int .i64]⟩) rfl rfl
  obtain ⟨xs, rfl, hx⟩ := fit_votes hb
  exact ⟨⟨x, xs⟩, rfl, hx⟩
end Mg

/- What a message reads as. No condition. -/
namespace Mg
open Go Go.RowKit
set_option maxRecDepth 100000
set_option linter.unusedVariables false
theorem fit_msg {n : Nat} {cs : List MC} (h : fit TT n 121 cs) : ∃ x : Msg, cs = x.cells ∧ x.ok maxLen := by
  obtain ⟨n, a, r, rfl, ha, b, r', rfl, hb, c, r2, rfl, hc, d, r3, rfl, hd, e, r4, rfl, he, f, r5, rfl, hf, g, r6, rfl, hg, rfl⟩ := fit_struct h (i := ⟨13, 152, .struct [(0, 3), (1, 3), (2, 3), (3, 3), (4, 3), (5, 115), (12, 105)], [.int .i64, .int .i64, .int .i64, .int .i64, .int .i64, .bool, .int .i64, .int .i64, .nil, .nil, .int .i64, .int .i64, .nil]⟩) rfl rfl
  obtain ⟨a, rfl, _⟩ := fit_int ha (i := ⟨1, 8, .int .i64, [.int .i64]⟩) rfl rfl
  obtain ⟨b, rfl, _⟩ := fit_int hb (i := ⟨1, 8, .int .i64, [.int .i64]⟩) rfl rfl
  obtain ⟨c, rfl, _⟩ := fit_int hc (i := ⟨1, 8, .int .i64, [.int .i64]⟩) rfl rfl
  obtain ⟨d, rfl, _⟩ := fit_int hd (i := ⟨1, 8, .int .i64, [.int .i64]⟩) rfl rfl
  obtain ⟨e, rfl, _⟩ := fit_int he (i := ⟨1, 8, .int .i64, [.int .i64]⟩) rfl rfl
  obtain ⟨y, rfl, hy⟩ := fit_entry hf
  obtain ⟨xs, rfl, hx⟩ := fit_votes hg
  exact ⟨⟨a, b, c, d, e, y, xs⟩, by simp [Msg.cells], hy, hx⟩
end Mg
