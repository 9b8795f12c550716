/- Parts of the abstract state logic and of the walks, one behind the other: E7, E18, NF1, N0, N1, N2, R2E, N3. No condition. -/
import Derived.Test.YtedgmfmhilihoaaP23
import Derived.Test.YtedgmfmhilihoaaP15
import Derived.Test.YtedgmfmhilihoaaP21
import Derived.Test.YtedgmfmhilihoaaP14
/- Structs turned into the program's kinds, as trees; and their lists. No condition. -/
namespace Mg
open Go Go.RowKit
set_option maxRecDepth 100000
set_option linter.unusedVariables false
set_option linter.unusedSimpArgs false
attribute [local irreducible] W Pure

theorem t_toRun (x : Run) (hx : x.ok lim) : TPure PP 108 [.agg x.cells] (.agg x.cells) := by
  refine TPure.vc [(6, .tre true (fun _ => .one (.fz (x.reads.map Two.cells)))), (10, .tre true (fun _ => .one (.fz (x.puts.map Two.cells))))] TTok hmo Go.Proofs.Try.func108 (by kernel_rfl) rfl (by kernel_rfl) ?_
  repeat' (first | refine And.intro ?_ ?_ | exact tf | exact ft | refine tt ?_ | refine ff ?_ | exact ⟨trivial⟩ | exact sAll rfl | exact sF1 rfl | exact sBld (by repeat' (first | exact trivial | rfl | exact Nat.le_of_ble_eq_true rfl | refine And.intro ?_ ?_)) rfl | exact sBS (by repeat' (first | exact trivial | rfl | exact Nat.le_of_ble_eq_true rfl | refine And.intro ?_ ?_)) rfl rfl rfl rfl | exact sBSF (by repeat' (first | exact trivial | rfl | exact Nat.le_of_ble_eq_true rfl | refine And.intro ?_ ?_)) rfl rfl rfl rfl | exact sLe rfl | exact Chk.mk (by kernel_rfl) | exact ⟨Chk.mk (by kernel_rfl)⟩ | exact sLeEq rfl rfl | refine fun h => ?_)
  all_goals try (exact Side.mk (t_toReadS _ hx.1))
  all_goals try (exact Side.mk (t_toPutS _ hx.2))
  all_goals try (rename_i B0 hA0 hD0 B1 hA1; refine Side.mk (apart_agg ?_); exact And.intro (And.intro (fun x h1 h2 => (h.st 2 _ rfl _ (List.mem_of_getElem? (i := 0) rfl)) x h1 ⟨0, 0, h2⟩) (trivial)) (And.intro (trivial) (trivial)))
  all_goals first | exact trivial | exact Side.mk rfl | exact Side.mk (by repeat' (first | exact trivial | exact Nat.le_of_ble_eq_true rfl | rfl | refine And.intro ?_ ?_))

theorem t_toEntry (x : Entry) (hx : x.ok lim) : TPure PP 96 [.agg x.cells] (.agg x.cells) := by
  refine TPure.vc [(9, .res (.agg x.q.cells)), (13, .tre true (fun _ => .agg x.run.cells))] TTok hmo Go.Proofs.Try.func96 (by kernel_rfl) rfl (by kernel_rfl) ?_
  repeat' (first | refine And.intro ?_ ?_ | exact tf | exact ft | refine tt ?_ | refine ff ?_ | exact ⟨trivial⟩ | exact sAll rfl | exact sF1 rfl | exact sBld (by repeat' (first | exact trivial | rfl | exact Nat.le_of_ble_eq_true rfl | refine And.intro ?_ ?_)) rfl | exact sBS (by repeat' (first | exact trivial | rfl | exact Nat.le_of_ble_eq_true rfl | refine And.intro ?_ ?_)) rfl rfl rfl rfl | exact sBSF (by repeat' (first | exact trivial | rfl | exact Nat.le_of_ble_eq_true rfl | refine And.intro ?_ ?_)) rfl rfl rfl rfl | exact sLe rfl | exact Chk.mk (by kernel_rfl) | exact ⟨Chk.mk (by kernel_rfl)⟩ | exact sLeEq rfl rfl | exact sAnd (by repeat' constructor) (c_toReq _) | refine fun h => ?_)
  all_goals try (exact Side.mk (t_toRun _ hx))
  all_goals try (rename_i  B0 hA0; refine Side.mk (apart_agg ?_); exact And.intro (And.intro (fun x h1 h2 => absurd (hA0 0 0 0 1 x h1 h2).2 (by decide)) (trivial)) (And.intro (trivial) (trivial)))
  all_goals first | exact trivial | exact Side.mk rfl | exact Side.mk (by repeat' (first | exact trivial | exact Nat.le_of_ble_eq_true rfl | rfl | refine And.intro ?_ ?_))

theorem t_toVote (x : Vote) (hx : x.ok lim) : TPure PP 107 [.agg x.cells] (.agg x.cells) := by
  refine TPure.vc [(9, .tre true (fun _ => .agg x.e.cells))] TTok hmo Go.Proofs.Try.func107 (by kernel_rfl) rfl (by kernel_rfl) ?_
  repeat' (first | refine And.intro ?_ ?_ | exact tf | exact ft | refine tt ?_ | refine ff ?_ | exact ⟨trivial⟩ | exact sAll rfl | exact sF1 rfl | exact sBld (by repeat' (first | exact trivial | rfl | exact Nat.le_of_ble_eq_true rfl | refine And.intro ?_ ?_)) rfl | exact sBS (by repeat' (first | exact trivial | rfl | exact Nat.le_of_ble_eq_true rfl | refine And.intro ?_ ?_)) rfl rfl rfl rfl | exact sBSF (by repeat' (first | exact trivial | rfl | exact Nat.le_of_ble_eq_true rfl | refine And.intro ?_ ?_)) rfl rfl rfl rfl | exact sLe rfl | exact Chk.mk (by kernel_rfl) | exact ⟨Chk.mk (by kernel_rfl)⟩ | exact sLeEq rfl rfl | refine fun h => ?_)
  all_goals try (exact Side.mk (t_toEntry _ hx))
  all_goals try (rename_i  B0 hA0; refine Side.mk (apart_agg ?_); exact And.intro (And.intro (fun x h1 h2 => absurd (hA0 0 3 0 4 x h1 h2).2 (by decide)) (trivial)) (And.intro (trivial) (trivial)))
  all_goals first | exact trivial | exact Side.mk rfl | exact Side.mk (by repeat' (first | exact trivial | exact Nat.le_of_ble_eq_true rfl | rfl | refine And.intro ?_ ?_))

theorem t_toVoteS (xs : List Vote) (hx : xs.length ≤ lim) (hv : ∀ v ∈ xs, v.ok lim) : TPure PP 95 [.one (.fz (xs.map Vote.cells))] (.one (.fz (xs.map Vote.cells))) := by
  have hx0 : xs.length ≤ 1048576 := hx
  have hlen : (List.replicate xs.length [i6 0, bo false, i6 0, i6 0, .nil, .nil, i6 0, i6 0]).length = xs.length := List.length_replicate
  refine TPure.vc [] TTok hmo Go.Proofs.Try.func95 (by kernel_rfl) rfl (by kernel_rfl) ?_
  repeat' (first | refine And.intro ?_ ?_ | exact tf | exact ft | refine tt ?_ | refine ff ?_ | exact ⟨trivial⟩ | exact sAll rfl | exact sF1 rfl | exact sBld (by repeat' (first | exact trivial | rfl | exact Nat.le_of_ble_eq_true rfl | refine And.intro ?_ ?_)) rfl | exact sBS (by repeat' (first | exact trivial | rfl | exact Nat.le_of_ble_eq_true rfl | refine And.intro ?_ ?_)) rfl rfl rfl rfl | exact sBSF (by repeat' (first | exact trivial | rfl | exact Nat.le_of_ble_eq_true rfl | refine And.intro ?_ ?_)) rfl rfl rfl rfl | exact sLe rfl | exact Chk.mk (by kernel_rfl) | exact ⟨Chk.mk (by kernel_rfl)⟩ | exact sLeEq rfl rfl | refine fun h => ?_)
  · refine ⟨?_⟩
    simp at *
    omega
  · refine W.loopC (D := Nat × (Nat → Nat → Tk)) (fun d => [(18, .row (xs.getD d.1 default).cells), (20, .tre true (fun _ => .agg (xs.getD d.1 default).cells))]) TTok hmo
      (fun d => ⟨23, 1, [(0, .one (.ag (xs.map Vote.cells))), (2, .one .nil), (3, .one (.ref 0 0 xs.length)), (4, oi d.1)], [(0, .arr (rowsT d.2 Vote.cells xs (List.replicate xs.length [i6 0, bo false, i6 0, i6 0, .nil, .nil, i6 0, i6 0]) d.1))]⟩) (fun d => xs.length - d.1) (fun d => d.1 ≤ xs.length ∧ FillInv d.2 Vote.cells xs d.1) (0, fun _ _ => noTk) [] ⟨Nat.zero_le _, .zero⟩ ?_ ?_
    · repeat' (first | exact trivial | exact Side.mk rfl | exact Chk.mk (by kernel_rfl) | exact ⟨Chk.mk (by kernel_rfl)⟩ | exact sZ0 (by simp) | exact sFlatT Vote.frz (rep_flat rfl) | exact sLenM | refine And.intro ?_ ?_ | rfl)
    · intro ⟨i, Bf⟩ ⟨hi, hinv⟩
      dsimp only at hi hinv
      repeat' (first | refine And.intro ?_ ?_ | exact tf | exact ft | refine tt ?_ | refine ff ?_ | exact ⟨trivial⟩ | exact sAll rfl | exact sF1 rfl | exact sBld (by repeat' (first | exact trivial | rfl | exact Nat.le_of_ble_eq_true rfl | refine And.intro ?_ ?_)) rfl | exact sBS (by repeat' (first | exact trivial | rfl | exact Nat.le_of_ble_eq_true rfl | refine And.intro ?_ ?_)) rfl rfl rfl rfl | exact sBSF (by repeat' (first | exact trivial | rfl | exact Nat.le_of_ble_eq_true rfl | refine And.intro ?_ ?_)) rfl rfl rfl rfl | exact sLe rfl | exact Chk.mk (by kernel_rfl) | exact ⟨Chk.mk (by kernel_rfl)⟩ | exact sLeEq rfl rfl | refine fun h => ?_)
      all_goals try (exact endTree hinv hlen (by have h3 := of_decide_eq_false h; dsimp only at h3; rw [List.length_map] at h3; omega) rfl Vote.frz)
      all_goals try (exact ⟨⟨trivial, trivial⟩⟩)
      all_goals try (exact Side.mk (t_toVote _ (hv _ (getD_mem (by have h3 := of_decide_eq_true h; dsimp only at h3; rw [List.length_map] at h3; omega)))))
      all_goals try (have hl : i < xs.length := by (have h3 := of_decide_eq_true ‹decide ((i : Int) < ((xs.map Vote.cells).length : Int)) = true›; rw [List.length_map] at h3; omega))
      all_goals try (exact sRow (by dsimp only; omega) (row_at xs _ hl) rfl)
      all_goals try (exact sIxT (i := i) hlen rfl hl rfl (rep_get hl) rfl)
      all_goals try (exact sStT (i := i) hlen (by simp) hl (rep_get hl) rfl rfl)
      all_goals try (exact Side.mk (by repeat' constructor))
      · rename_i B hA
        refine ⟨(i + 1, updT Bf i (Vote.cells (xs.getD i default)) (B 0)), [], by dsimp only; omega, ⟨by dsimp only; omega, hinv.step hl hA (h.st 0 _ rfl)⟩, ?_⟩
        repeat' (first | exact trivial | exact Side.mk rfl | exact Chk.mk (by kernel_rfl) | exact ⟨Chk.mk (by kernel_rfl)⟩ | exact sSetT hlen (by simp) hl (rep_get hl) rfl | exact sFlatT Vote.frz (rep_flat rfl) | exact sWrap (by dsimp only; omega) (by dsimp only; omega) (by dsimp only; omega) | refine And.intro ?_ ?_ | rfl)

theorem t_toEntryS (xs : List Entry) (hx : xs.length ≤ lim) (hv : ∀ v ∈ xs, v.ok lim) : TPure PP 93 [.one (.fz (xs.map Entry.cells))] (.one (.fz (xs.map Entry.cells))) := by
  have hx0 : xs.length ≤ 1048576 := hx
  have hlen : (List.replicate xs.length [bo false, i6 0, i6 0, .nil, .nil, i6 0, i6 0]).length = xs.length := List.length_replicate
  refine TPure.vc [] TTok hmo Go.Proofs.Try.func93 (by kernel_rfl) rfl (by kernel_rfl) ?_
  repeat' (first | refine And.intro ?_ ?_ | exact tf | exact ft | refine tt ?_ | refine ff ?_ | exact ⟨trivial⟩ | exact sAll rfl | exact sF1 rfl | exact sBld (by repeat' (first | exact trivial | rfl | exact Nat.le_of_ble_eq_true rfl | refine And.intro ?_ ?_)) rfl | exact sBS (by repeat' (first | exact trivial | rfl | exact Nat.le_of_ble_eq_true rfl | refine And.intro ?_ ?_)) rfl rfl rfl rfl | exact sBSF (by repeat' (first | exact trivial | rfl | exact Nat.le_of_ble_eq_true rfl | refine And.intro ?_ ?_)) rfl rfl rfl rfl | exact sLe rfl | exact Chk.mk (by kernel_rfl) | exact ⟨Chk.mk (by kernel_rfl)⟩ | exact sLeEq rfl rfl | refine fun h => ?_)
  · refine ⟨?_⟩
    simp at *
    omega
  · refine W.loopC (D := Nat × (Nat → Nat → Tk)) (fun d => [(18, .row (xs.getD d.1 default).cells), (20, .tre true (fun _ => .agg (xs.getD d.1 default).cells))]) TTok hmo
      (fun d => ⟨23, 1, [(0, .one (.ag (xs.map Entry.cells))), (2, .one .nil), (3, .one (.ref 0 0 xs.length)), (4, oi d.1)], [(0, .arr (rowsT d.2 Entry.cells xs (List.replicate xs.length [bo false, i6 0, i6 0, .nil, .nil, i6 0, i6 0]) d.1))]⟩) (fun d => xs.length - d.1) (fun d => d.1 ≤ xs.length ∧ FillInv d.2 Entry.cells xs d.1) (0, fun _ _ => noTk) [] ⟨Nat.zero_le _, .zero⟩ ?_ ?_
    · repeat' (first | exact trivial | exact Side.mk rfl | exact Chk.mk (by kernel_rfl) | exact ⟨Chk.mk (by kernel_rfl)⟩ | exact sZ0 (by simp) | exact sFlatT Entry.frz (rep_flat rfl) | exact sLenM | refine And.intro ?_ ?_ | rfl)
    · intro ⟨i, Bf⟩ ⟨hi, hinv⟩
      dsimp only at hi hinv
      repeat' (first | refine And.intro ?_ ?_ | exact tf | exact ft | refine tt ?_ | refine ff ?_ | exact ⟨trivial⟩ | exact sAll rfl | exact sF1 rfl | exact sBld (by repeat' (first | exact trivial | rfl | exact Nat.le_of_ble_eq_true rfl | refine And.intro ?_ ?_)) rfl | exact sBS (by repeat' (first | exact trivial | rfl | exact Nat.le_of_ble_eq_true rfl | refine And.intro ?_ ?_)) rfl rfl rfl rfl | exact sBSF (by repeat' (first | exact trivial | rfl | exact Nat.le_of_ble_eq_true rfl | refine And.intro ?_ ?_)) rfl rfl rfl rfl | exact sLe rfl | exact Chk.mk (by kernel_rfl) | exact ⟨Chk.mk (by kernel_rfl)⟩ | exact sLeEq rfl rfl | refine fun h => ?_)
      all_goals try (exact endTree hinv hlen (by have h3 := of_decide_eq_false h; dsimp only at h3; rw [List.length_map] at h3; omega) rfl Entry.frz)
      all_goals try (exact ⟨⟨trivial, trivial⟩⟩)
      all_goals try (exact Side.mk (t_toEntry _ (hv _ (getD_mem (by have h3 := of_decide_eq_true h; dsimp only at h3; rw [List.length_map] at h3; omega)))))
      all_goals try (have hl : i < xs.length := by (have h3 := of_decide_eq_true ‹decide ((i : Int) < ((xs.map Entry.cells).length : Int)) = true›; rw [List.length_map] at h3; omega))
      all_goals try (exact sRow (by dsimp only; omega) (row_at xs _ hl) rfl)
      all_goals try (exact sIxT (i := i) hlen rfl hl rfl (rep_get hl) rfl)
      all_goals try (exact sStT (i := i) hlen (by simp) hl (rep_get hl) rfl rfl)
      all_goals try (exact Side.mk (by repeat' constructor))
      · rename_i B hA
        refine ⟨(i + 1, updT Bf i (Entry.cells (xs.getD i default)) (B 0)), [], by dsimp only; omega, ⟨by dsimp only; omega, hinv.step hl hA (h.st 0 _ rfl)⟩, ?_⟩
        repeat' (first | exact trivial | exact Side.mk rfl | exact Chk.mk (by kernel_rfl) | exact ⟨Chk.mk (by kernel_rfl)⟩ | exact sSetT hlen (by simp) hl (rep_get hl) rfl | exact sFlatT Entry.frz (rep_flat rfl) | exact sWrap (by dsimp only; omega) (by dsimp only; omega) (by dsimp only; omega) | refine And.intro ?_ ?_ | rfl)

theorem t_toAcc (x : Acc) (hx : x.ok lim) : TPure PP 92 [.agg x.cells] (.agg x.cells) := by
  refine TPure.vc [(9, .tre true (fun _ => .one (.fz (x.votes.map Vote.cells))))] TTok hmo Go.Proofs.Try.func92 (by kernel_rfl) rfl (by kernel_rfl) ?_
  repeat' (first | refine And.intro ?_ ?_ | exact tf | exact ft | refine tt ?_ | refine ff ?_ | exact ⟨trivial⟩ | exact sAll rfl | exact sF1 rfl | exact sBld (by repeat' (first | exact trivial | rfl | exact Nat.le_of_ble_eq_true rfl | refine And.intro ?_ ?_)) rfl | exact sBS (by repeat' (first | exact trivial | rfl | exact Nat.le_of_ble_eq_true rfl | refine And.intro ?_ ?_)) rfl rfl rfl rfl | exact sBSF (by repeat' (first | exact trivial | rfl | exact Nat.le_of_ble_eq_true rfl | refine And.intro ?_ ?_)) rfl rfl rfl rfl | exact sLe rfl | exact Chk.mk (by kernel_rfl) | exact ⟨Chk.mk (by kernel_rfl)⟩ | exact sLeEq rfl rfl | refine fun h => ?_)
  all_goals try (exact Side.mk (t_toVoteS _ hx.1 hx.2))
  all_goals try (rename_i  B0 hA0; refine Side.mk (apart_agg ?_); exact And.intro (trivial) (trivial))
  all_goals first | exact trivial | exact Side.mk rfl | exact Side.mk (by repeat' (first | exact trivial | exact Nat.le_of_ble_eq_true rfl | rfl | refine And.intro ?_ ?_))

end Mg

/- Nodes turned into the program's kinds, as trees. No condition. -/
namespace Mg
open Go Go.RowKit
set_option maxRecDepth 100000
set_option linter.unusedVariables false
set_option linter.unusedSimpArgs false
attribute [local irreducible] W Pure

set_option maxHeartbeats 4000000 in
theorem t_toNode (x : Node) (hx : x.ok lim) : TPure PP 68 [.agg x.cells] (.agg x.cells) := by
  refine TPure.vc [(9, .tre true (fun _ => .agg x.acc.cells)), (13, .tre true (fun _ => .one (.fz (x.known.map Entry.cells)))), (26, .tre true (fun _ => .one (.fz (x.fro.map Bool.cells)))), (30, .tre true (fun _ => .one (.fz (x.best.map Vote.cells)))), (34, .tre true (fun _ => .agg x.cur.cells)), (38, .tre true (fun _ => .one (.fz (x.votes.map Bool.cells)))), (45, .tre true (fun _ => .one (.fz (x.prog.map Ins.cells)))), (49, .tre true (fun _ => .agg x.want.cells)), (53, .tre true (fun _ => .one (.fz (x.queue.map Entry.cells))))] TTok hmo Go.Proofs.Try.func68 (by kernel_rfl) rfl (by kernel_rfl) ?_
  repeat' (first | refine And.intro ?_ ?_ | exact tf | exact ft | refine tt ?_ | refine ff ?_ | exact ⟨trivial⟩ | exact sAll rfl | exact sF1 rfl | exact sBld (by repeat' (first | exact trivial | rfl | exact Nat.le_of_ble_eq_true rfl | refine And.intro ?_ ?_)) rfl | exact sBS (by repeat' (first | exact trivial | rfl | exact Nat.le_of_ble_eq_true rfl | refine And.intro ?_ ?_)) rfl rfl rfl rfl | exact sBSF (by repeat' (first | exact trivial | rfl | exact Nat.le_of_ble_eq_true rfl | refine And.intro ?_ ?_)) rfl rfl rfl rfl | exact sLe rfl | exact Chk.mk (by kernel_rfl) | exact ⟨Chk.mk (by kernel_rfl)⟩ | exact sLeEq rfl rfl | refine fun h => ?_)
  all_goals try (exact Side.mk (t_toAcc _ hx.acc))
  all_goals try (exact Side.mk (t_toEntryS _ hx.known.1 hx.known.2))
  all_goals try (exact Side.mk (t_toBoolS _ hx.fro))
  all_goals try (exact Side.mk (t_toVoteS _ hx.best.1 hx.best.2))
  all_goals try (exact Side.mk (t_toEntry _ hx.cur))
  all_goals try (exact Side.mk (t_toBoolS _ hx.votes))
  all_goals try (exact Side.mk (t_toInsS _ hx.prog))
  all_goals try (exact Side.mk (t_toEntry _ hx.want))
  all_goals try (exact Side.mk (t_toEntryS _ hx.queue.1 hx.queue.2))
  all_goals try (rename_i B0 hA0 hD0 B1 hA1 hD1 B2 hA2 hD2 B3 hA3 hD3 B4 hA4 hD4 B5 hA5 hD5 B6 hA6 hD6 B7 hA7 hD7 B8 hA8; refine Side.mk (apart_agg ?_); exact And.intro (And.intro (fun x h1 h2 => (hD1.st 2 _ rfl _ (List.mem_of_getElem? (i := 2) rfl)) x h1 ⟨0, 0, h2⟩) (And.intro (fun x h1 h2 => (hD2.st 2 _ rfl _ (List.mem_of_getElem? (i := 2) rfl)) x h1 ⟨0, 0, h2⟩) (And.intro (fun x h1 h2 => (hD3.st 2 _ rfl _ (List.mem_of_getElem? (i := 2) rfl)) x h1 ⟨0, 0, h2⟩) (And.intro (fun x h1 h2 => (hD4.st 2 _ rfl _ (List.mem_of_getElem? (i := 2) rfl)) x h1 ⟨0, 3, h2⟩) (And.intro (fun x h1 h2 => (hD4.st 2 _ rfl _ (List.mem_of_getElem? (i := 2) rfl)) x h1 ⟨0, 4, h2⟩) (And.intro (fun x h1 h2 => (hD5.st 2 _ rfl _ (List.mem_of_getElem? (i := 2) rfl)) x h1 ⟨0, 0, h2⟩) (And.intro (fun x h1 h2 => (hD6.st 2 _ rfl _ (List.mem_of_getElem? (i := 2) rfl)) x h1 ⟨0, 0, h2⟩) (And.intro (fun x h1 h2 => (hD7.st 2 _ rfl _ (List.mem_of_getElem? (i := 2) rfl)) x h1 ⟨0, 3, h2⟩) (And.intro (fun x h1 h2 => (hD7.st 2 _ rfl _ (List.mem_of_getElem? (i := 2) rfl)) x h1 ⟨0, 4, h2⟩) (And.intro (fun x h1 h2 => (h.st 2 _ rfl _ (List.mem_of_getElem? (i := 2) rfl)) x h1 ⟨0, 0, h2⟩) (trivial))))))))))) (And.intro (And.intro (fun x h1 h2 => (hD2.st 2 _ rfl _ (List.mem_of_getElem? (i := 3) rfl)) x h1 ⟨0, 0, h2⟩) (And.intro (fun x h1 h2 => (hD3.st 2 _ rfl _ (List.mem_of_getElem? (i := 3) rfl)) x h1 ⟨0, 0, h2⟩) (And.intro (fun x h1 h2 => (hD4.st 2 _ rfl _ (List.mem_of_getElem? (i := 3) rfl)) x h1 ⟨0, 3, h2⟩) (And.intro (fun x h1 h2 => (hD4.st 2 _ rfl _ (List.mem_of_getElem? (i := 3) rfl)) x h1 ⟨0, 4, h2⟩) (And.intro (fun x h1 h2 => (hD5.st 2 _ rfl _ (List.mem_of_getElem? (i := 3) rfl)) x h1 ⟨0, 0, h2⟩) (And.intro (fun x h1 h2 => (hD6.st 2 _ rfl _ (List.mem_of_getElem? (i := 3) rfl)) x h1 ⟨0, 0, h2⟩) (And.intro (fun x h1 h2 => (hD7.st 2 _ rfl _ (List.mem_of_getElem? (i := 3) rfl)) x h1 ⟨0, 3, h2⟩) (And.intro (fun x h1 h2 => (hD7.st 2 _ rfl _ (List.mem_of_getElem? (i := 3) rfl)) x h1 ⟨0, 4, h2⟩) (And.intro (fun x h1 h2 => (h.st 2 _ rfl _ (List.mem_of_getElem? (i := 3) rfl)) x h1 ⟨0, 0, h2⟩) (trivial)))))))))) (And.intro (And.intro (fun x h1 h2 => (hD3.st 2 _ rfl _ (List.mem_of_getElem? (i := 7) rfl)) x h1 ⟨0, 0, h2⟩) (And.intro (fun x h1 h2 => (hD4.st 2 _ rfl _ (List.mem_of_getElem? (i := 7) rfl)) x h1 ⟨0, 3, h2⟩) (And.intro (fun x h1 h2 => (hD4.st 2 _ rfl _ (List.mem_of_getElem? (i := 7) rfl)) x h1 ⟨0, 4, h2⟩) (And.intro (fun x h1 h2 => (hD5.st 2 _ rfl _ (List.mem_of_getElem? (i := 7) rfl)) x h1 ⟨0, 0, h2⟩) (And.intro (fun x h1 h2 => (hD6.st 2 _ rfl _ (List.mem_of_getElem? (i := 7) rfl)) x h1 ⟨0, 0, h2⟩) (And.intro (fun x h1 h2 => (hD7.st 2 _ rfl _ (List.mem_of_getElem? (i := 7) rfl)) x h1 ⟨0, 3, h2⟩) (And.intro (fun x h1 h2 => (hD7.st 2 _ rfl _ (List.mem_of_getElem? (i := 7) rfl)) x h1 ⟨0, 4, h2⟩) (And.intro (fun x h1 h2 => (h.st 2 _ rfl _ (List.mem_of_getElem? (i := 7) rfl)) x h1 ⟨0, 0, h2⟩) (trivial))))))))) (And.intro (And.intro (fun x h1 h2 => (hD4.st 2 _ rfl _ (List.mem_of_getElem? (i := 8) rfl)) x h1 ⟨0, 3, h2⟩) (And.intro (fun x h1 h2 => (hD4.st 2 _ rfl _ (List.mem_of_getElem? (i := 8) rfl)) x h1 ⟨0, 4, h2⟩) (And.intro (fun x h1 h2 => (hD5.st 2 _ rfl _ (List.mem_of_getElem? (i := 8) rfl)) x h1 ⟨0, 0, h2⟩) (And.intro (fun x h1 h2 => (hD6.st 2 _ rfl _ (List.mem_of_getElem? (i := 8) rfl)) x h1 ⟨0, 0, h2⟩) (And.intro (fun x h1 h2 => (hD7.st 2 _ rfl _ (List.mem_of_getElem? (i := 8) rfl)) x h1 ⟨0, 3, h2⟩) (And.intro (fun x h1 h2 => (hD7.st 2 _ rfl _ (List.mem_of_getElem? (i := 8) rfl)) x h1 ⟨0, 4, h2⟩) (And.intro (fun x h1 h2 => (h.st 2 _ rfl _ (List.mem_of_getElem? (i := 8) rfl)) x h1 ⟨0, 0, h2⟩) (trivial)))))))) (And.intro (And.intro (fun x h1 h2 => absurd (hA4 0 3 0 4 x h1 h2).2 (by decide)) (And.intro (fun x h1 h2 => (hD5.st 2 _ rfl _ (List.mem_of_getElem? (i := 12) rfl)) x h1 ⟨0, 0, h2⟩) (And.intro (fun x h1 h2 => (hD6.st 2 _ rfl _ (List.mem_of_getElem? (i := 12) rfl)) x h1 ⟨0, 0, h2⟩) (And.intro (fun x h1 h2 => (hD7.st 2 _ rfl _ (List.mem_of_getElem? (i := 12) rfl)) x h1 ⟨0, 3, h2⟩) (And.intro (fun x h1 h2 => (hD7.st 2 _ rfl _ (List.mem_of_getElem? (i := 12) rfl)) x h1 ⟨0, 4, h2⟩) (And.intro (fun x h1 h2 => (h.st 2 _ rfl _ (List.mem_of_getElem? (i := 12) rfl)) x h1 ⟨0, 0, h2⟩) (trivial))))))) (And.intro (And.intro (fun x h1 h2 => (hD5.st 2 _ rfl _ (List.mem_of_getElem? (i := 13) rfl)) x h1 ⟨0, 0, h2⟩) (And.intro (fun x h1 h2 => (hD6.st 2 _ rfl _ (List.mem_of_getElem? (i := 13) rfl)) x h1 ⟨0, 0, h2⟩) (And.intro (fun x h1 h2 => (hD7.st 2 _ rfl _ (List.mem_of_getElem? (i := 13) rfl)) x h1 ⟨0, 3, h2⟩) (And.intro (fun x h1 h2 => (hD7.st 2 _ rfl _ (List.mem_of_getElem? (i := 13) rfl)) x h1 ⟨0, 4, h2⟩) (And.intro (fun x h1 h2 => (h.st 2 _ rfl _ (List.mem_of_getElem? (i := 13) rfl)) x h1 ⟨0, 0, h2⟩) (trivial)))))) (And.intro (And.intro (fun x h1 h2 => (hD6.st 2 _ rfl _ (List.mem_of_getElem? (i := 16) rfl)) x h1 ⟨0, 0, h2⟩) (And.intro (fun x h1 h2 => (hD7.st 2 _ rfl _ (List.mem_of_getElem? (i := 16) rfl)) x h1 ⟨0, 3, h2⟩) (And.intro (fun x h1 h2 => (hD7.st 2 _ rfl _ (List.mem_of_getElem? (i := 16) rfl)) x h1 ⟨0, 4, h2⟩) (And.intro (fun x h1 h2 => (h.st 2 _ rfl _ (List.mem_of_getElem? (i := 16) rfl)) x h1 ⟨0, 0, h2⟩) (trivial))))) (And.intro (And.intro (fun x h1 h2 => (hD7.st 2 _ rfl _ (List.mem_of_getElem? (i := 18) rfl)) x h1 ⟨0, 3, h2⟩) (And.intro (fun x h1 h2 => (hD7.st 2 _ rfl _ (List.mem_of_getElem? (i := 18) rfl)) x h1 ⟨0, 4, h2⟩) (And.intro (fun x h1 h2 => (h.st 2 _ rfl _ (List.mem_of_getElem? (i := 18) rfl)) x h1 ⟨0, 0, h2⟩) (trivial)))) (And.intro (And.intro (fun x h1 h2 => absurd (hA7 0 3 0 4 x h1 h2).2 (by decide)) (And.intro (fun x h1 h2 => (h.st 2 _ rfl _ (List.mem_of_getElem? (i := 22) rfl)) x h1 ⟨0, 0, h2⟩) (trivial))) (And.intro (And.intro (fun x h1 h2 => (h.st 2 _ rfl _ (List.mem_of_getElem? (i := 23) rfl)) x h1 ⟨0, 0, h2⟩) (trivial)) (And.intro (trivial) (trivial))))))))))))
  all_goals first | exact trivial | exact Side.mk rfl | exact Side.mk (by repeat' (first | exact trivial | exact Nat.le_of_ble_eq_true rfl | rfl | refine And.intro ?_ ?_))

end Mg

/- Copies of lists and nodes in the program's own way, as trees. No condition. -/
namespace Mg
open Go Go.RowKit
set_option maxRecDepth 100000
set_option linter.unusedVariables false
set_option linter.unusedSimpArgs false
attribute [local irreducible] W Pure Con TPure

theorem p_copied_Bool (xs : List Bool) (hx : xs.length ≤ lim) : Pure PP false 79 [.one (.fz (xs.map Bool.cells))] (.one (.own (xs.map Bool.cells))) := by
  have hx0 : xs.length ≤ 1048576 := hx
  refine Pure.vc [] TTok hmo Go.Proofs.Try.func79 (by kernel_rfl) rfl (by kernel_rfl) ?_
  repeat' (first | refine And.intro ?_ ?_ | exact tf | exact ft | refine tt ?_ | refine ff ?_ | exact ⟨trivial⟩ | exact sAll rfl | exact sF1 rfl | exact sBld (by repeat' (first | exact trivial | rfl | exact Nat.le_of_ble_eq_true rfl | refine And.intro ?_ ?_)) rfl | exact sBS (by repeat' (first | exact trivial | rfl | exact Nat.le_of_ble_eq_true rfl | refine And.intro ?_ ?_)) rfl rfl rfl rfl | exact sBSF (by repeat' (first | exact trivial | rfl | exact Nat.le_of_ble_eq_true rfl | refine And.intro ?_ ?_)) rfl rfl rfl rfl | exact sLe rfl | exact Chk.mk (by kernel_rfl) | exact ⟨Chk.mk (by kernel_rfl)⟩ | exact sLeEq rfl rfl | refine fun h => ?_)
  · have h0 : xs = [] := by simp at h; exact h
    subst h0
    exact ⟨⟨trivial, trivial⟩, rfl, trivial⟩
  · exact sMk hx0 rfl
  · have h0 : 0 < xs.length := Nat.pos_of_ne_zero (fun e => by rw [List.length_map, e] at h; revert h; decide)
    exact sCp (toA_map fun _ => rfl) (by simp) (by simp) h0 rfl (fun _ => rfl)
  · have e := toA_map (c := Bool.cells) (xs := xs) fun _ => rfl
    exact ⟨⟨trivial, trivial⟩, ⟨rfl, by rw [e]; exact Int.toNat_natCast _, e, by rw [e]; exact allF Bool.frz⟩, trivial⟩
theorem t_copied_Bool (xs : List Bool) (hx : xs.length ≤ lim) : TPure PP 79 [.one (.fz (xs.map Bool.cells))] (.one (.fz (xs.map Bool.cells))) :=
  (p_copied_Bool xs hx).toT (.inr ⟨_, rfl, scMap fun _ => rfl⟩) rfl

theorem p_copied_Ins (xs : List Ins) (hx : xs.length ≤ lim) : Pure PP false 53 [.one (.fz (xs.map Ins.cells))] (.one (.own (xs.map Ins.cells))) := by
  have hx0 : xs.length ≤ 1048576 := hx
  refine Pure.vc [] TTok hmo Go.Proofs.Try.func53 (by kernel_rfl) rfl (by kernel_rfl) ?_
  repeat' (first | refine And.intro ?_ ?_ | exact tf | exact ft | refine tt ?_ | refine ff ?_ | exact ⟨trivial⟩ | exact sAll rfl | exact sF1 rfl | exact sBld (by repeat' (first | exact trivial | rfl | exact Nat.le_of_ble_eq_true rfl | refine And.intro ?_ ?_)) rfl | exact sBS (by repeat' (first | exact trivial | rfl | exact Nat.le_of_ble_eq_true rfl | refine And.intro ?_ ?_)) rfl rfl rfl rfl | exact sBSF (by repeat' (first | exact trivial | rfl | exact Nat.le_of_ble_eq_true rfl | refine And.intro ?_ ?_)) rfl rfl rfl rfl | exact sLe rfl | exact Chk.mk (by kernel_rfl) | exact ⟨Chk.mk (by kernel_rfl)⟩ | exact sLeEq rfl rfl | refine fun h => ?_)
  · have h0 : xs = [] := by simp at h; exact h
    subst h0
    exact ⟨⟨trivial, trivial⟩, rfl, trivial⟩
  · exact sMk hx0 rfl
  · have h0 : 0 < xs.length := Nat.pos_of_ne_zero (fun e => by rw [List.length_map, e] at h; revert h; decide)
    exact sCp (toA_map fun _ => rfl) (by simp) (by simp) h0 rfl (fun _ => rfl)
  · have e := toA_map (c := Ins.cells) (xs := xs) fun _ => rfl
    exact ⟨⟨trivial, trivial⟩, ⟨rfl, by rw [e]; exact Int.toNat_natCast _, e, by rw [e]; exact allF Ins.frz⟩, trivial⟩
theorem t_copied_Ins (xs : List Ins) (hx : xs.length ≤ lim) : TPure PP 53 [.one (.fz (xs.map Ins.cells))] (.one (.fz (xs.map Ins.cells))) :=
  (p_copied_Ins xs hx).toT (.inr ⟨_, rfl, scMap fun _ => rfl⟩) rfl

theorem c_copied_EntryU (vs : List Entry) (hx : vs.length ≤ lim) : Con PP 72 [.one (.fz (vs.map Entry.cells))] [] 0 (fun _ : Unit => True) (fun _ => .one (.ref 0 0 vs.length)) (fun _ => [.arr (vs.map Entry.cells)]) := by
  have hx0 : vs.length ≤ 1048576 := hx
  refine Con.vc [(700000, .row [])] TTok hmo Go.Proofs.Try.func72 rfl (by kernel_rfl) rfl (by kernel_rfl) ?_
  repeat' (first | refine And.intro ?_ ?_ | exact tf | exact ft | refine tt ?_ | refine ff ?_ | exact ⟨trivial⟩ | exact sAll rfl | exact sF1 rfl | exact sBld (by repeat' (first | exact trivial | rfl | exact Nat.le_of_ble_eq_true rfl | refine And.intro ?_ ?_)) rfl | exact sBS (by repeat' (first | exact trivial | rfl | exact Nat.le_of_ble_eq_true rfl | refine And.intro ?_ ?_)) rfl rfl rfl rfl | exact sBSF (by repeat' (first | exact trivial | rfl | exact Nat.le_of_ble_eq_true rfl | refine And.intro ?_ ?_)) rfl rfl rfl rfl | exact sLe rfl | exact Chk.mk (by kernel_rfl) | exact ⟨Chk.mk (by kernel_rfl)⟩ | exact sLeEq rfl rfl | refine fun h => ?_)
  · have h0 : vs = [] := by simp at h; exact h
    subst h0
    refine W.vslot 2 rfl (W.ret ?_)
    refine ⟨⟨trivial, trivial⟩, ?_⟩
    apply exU'; refine ⟨[], [], trivial, ?_⟩
    repeat' (first | exact trivial | exact ⟨trivial⟩ | exact Side.mk rfl | exact sF1 rfl | exact Chk.mk (by kernel_rfl) | exact ⟨Chk.mk (by kernel_rfl)⟩ | exact sMapF Entry.flat | refine And.intro ?_ ?_ | rfl)
  · exact sMk hx0 rfl
  · have h0 : 0 < vs.length := Nat.pos_of_ne_zero (fun e => by rw [List.length_map, e] at h; revert h; decide)
    exact sCp rfl (by simp) (by simp) h0 rfl (fun _ => rfl)
  · refine W.ret ?_
    refine ⟨⟨trivial, trivial⟩, ?_⟩
    apply exU'; refine ⟨[], [], trivial, ?_⟩
    repeat' (first | exact trivial | exact ⟨trivial⟩ | exact Side.mk rfl | exact sF1 rfl | exact Chk.mk (by kernel_rfl) | exact ⟨Chk.mk (by kernel_rfl)⟩ | exact sMapF Entry.flat | exact ⟨by simp⟩ | refine And.intro ?_ ?_ | rfl)
theorem t_entriesCopy (vs : List Entry) (hx : vs.length ≤ lim) (hv : ∀ v ∈ vs, v.ok lim) : TPure PP 41 [.one (.fz (vs.map Entry.cells))] (.one (.fz (vs.map Entry.cells))) := by
  have hx0 : vs.length ≤ 1048576 := hx
  have hlen : (vs.map Entry.cellsA).length = vs.length := List.length_map ..
  have hAf : ∀ r ∈ vs.map Entry.cellsA, ∀ d ∈ r, d.flat = true := fun r hr d hd => by
    obtain ⟨x, _, rfl⟩ := List.mem_map.1 hr
    exact List.all_eq_true.1 (show x.cellsA.all MC.flat = true from rfl) d hd
  refine TPure.vc [(6, .con true [] [] [] (sCpV vs.length))] TTok hmo Go.Proofs.Try.func41 (by kernel_rfl) rfl (by kernel_rfl) ?_
  repeat' (first | refine And.intro ?_ ?_ | exact tf | exact ft | refine tt ?_ | refine ff ?_ | exact ⟨trivial⟩ | exact sAll rfl | exact sF1 rfl | exact sBld (by repeat' (first | exact trivial | rfl | exact Nat.le_of_ble_eq_true rfl | refine And.intro ?_ ?_)) rfl | exact sBS (by repeat' (first | exact trivial | rfl | exact Nat.le_of_ble_eq_true rfl | refine And.intro ?_ ?_)) rfl rfl rfl rfl | exact sBSF (by repeat' (first | exact trivial | rfl | exact Nat.le_of_ble_eq_true rfl | refine And.intro ?_ ?_)) rfl rfl rfl rfl | exact sLe rfl | exact Chk.mk (by kernel_rfl) | exact ⟨Chk.mk (by kernel_rfl)⟩ | exact sLeEq rfl rfl | refine fun h => ?_)
  · exact ⟨c_copied_EntryU vs hx⟩
  · exact ⟨fun _ _ => trivial⟩
  · exact ⟨fun _ _ => ⟨trivial, trivial⟩⟩
  · refine W.loopC (D := Nat × (Nat → Nat → Tk)) (fun d => [(17, .res (.agg (vs.getD d.1 default).cellsA)), (18, .tre true (fun _ => .agg (vs.getD d.1 default).cells))]) TTok hmo (fun d => ⟨22, 1, [(3, .one (.ref 0 0 vs.length)), (8, oi vs.length), (9, oi d.1)], [(0, .arr (rowsT d.2 Entry.cells vs (vs.map Entry.cellsA) d.1))]⟩) (fun d => vs.length - d.1) (fun d => d.1 ≤ vs.length ∧ FillInv d.2 Entry.cells vs d.1) (0, fun _ _ => noTk) [] ⟨Nat.zero_le _, .zero⟩ ?_ ?_
    · repeat' (first | exact trivial | exact ⟨trivial⟩ | exact Side.mk rfl | exact sF1 rfl | exact Chk.mk (by kernel_rfl) | exact ⟨Chk.mk (by kernel_rfl)⟩ | exact sFlatT Entry.frz hAf | refine And.intro ?_ ?_ | rfl)
      exact ⟨by rw [rowsT_zero, List.map_map]; rfl⟩
    · intro ⟨i, Bf⟩ ⟨hi, hinv⟩
      dsimp only at hi hinv
      repeat' (first | refine And.intro ?_ ?_ | exact tf | exact ft | refine tt ?_ | refine ff ?_ | exact ⟨trivial⟩ | exact sAll rfl | exact sF1 rfl | exact sBld (by repeat' (first | exact trivial | rfl | exact Nat.le_of_ble_eq_true rfl | refine And.intro ?_ ?_)) rfl | exact sBS (by repeat' (first | exact trivial | rfl | exact Nat.le_of_ble_eq_true rfl | refine And.intro ?_ ?_)) rfl rfl rfl rfl | exact sBSF (by repeat' (first | exact trivial | rfl | exact Nat.le_of_ble_eq_true rfl | refine And.intro ?_ ?_)) rfl rfl rfl rfl | exact sLe rfl | exact Chk.mk (by kernel_rfl) | exact ⟨Chk.mk (by kernel_rfl)⟩ | exact sLeEq rfl rfl | refine fun h => ?_)
      all_goals try (exact endTree hinv hlen (by have h3 := of_decide_eq_false h; dsimp only at h3; omega) rfl Entry.frz)
      all_goals try (exact ⟨⟨trivial, trivial⟩⟩)
      all_goals try (have hl : i < vs.length := by (have h3 := of_decide_eq_true ‹decide ((i : Int) < (vs.length : Int)) = true›; omega))
      all_goals try (have hgA : (vs.map Entry.cellsA)[i]? = some (vs.getD i default).cellsA := by rw [List.getElem?_map, List.getElem?_eq_getElem hl, getD_get hl]; rfl)
      all_goals try (exact Side.mk (t_entryCopy _ (hv _ (getD_mem hl))))
      all_goals try (exact sIxT (i := i) hlen rfl hl rfl hgA rfl)
      all_goals try (exact sLdT (i := i) hlen (by simp) hl hgA rfl rfl)
      all_goals try (exact sStT (i := i) hlen (by simp) hl hgA rfl rfl)
      all_goals try (exact Side.mk (by repeat' constructor))
      · rename_i B hA
        refine ⟨(i + 1, updT Bf i (Entry.cells (vs.getD i default)) (B 0)), [], by dsimp only; omega, ⟨by dsimp only; omega, hinv.step hl hA (h.st 0 _ rfl)⟩, ?_⟩
        repeat' (first | exact trivial | exact ⟨trivial⟩ | exact Side.mk rfl | exact sF1 rfl | exact Chk.mk (by kernel_rfl) | exact ⟨Chk.mk (by kernel_rfl)⟩ | exact sSetT hlen (by simp) hl hgA rfl | exact sFlatT Entry.frz hAf | exact ⟨by rw [wrapi] <;> omega⟩ | refine And.intro ?_ ?_ | rfl)

end Mg

/- Programs that are right. No condition. -/
namespace Mg
open Go Go.RowKit
set_option maxRecDepth 100000
set_option linter.unusedVariables false
set_option linter.unusedSimpArgs false
attribute [local irreducible] W Pure
def insOk (x : Ins) : Bool :=
  if x.kind = 1 then inr x.a 0 3 && inr x.b 0 3 && x.n == 0 else
  if x.kind = 2 then inr x.a 0 3 && inr x.b 0 3 && x.n == 0 else
  if x.kind = 3 then inr x.a 0 3 && x.b == 0 && inr x.n (-1000000) 1000000 else
  if x.kind = 4 then inr x.a 0 3 && inr x.b 0 3 && x.n == 0 else
  if x.kind = 5 then inr x.a 0 3 && inr x.b 0 3 && x.n == 0 else
  if x.kind = 6 then inr x.a 0 3 && inr x.b 0 3 && inr x.n 1 10 else
  if x.kind = 7 then x.a == 0 && x.b == 0 && x.n == 0 else false
def progOk (xs : List Ins) : Bool := decide (xs.length ≤ 10) && xs.all insOk
end Mg

/- Programs that are right; what a node has of leading. No condition. -/
namespace Mg
open Go Go.RowKit
set_option maxRecDepth 100000
set_option linter.unusedVariables false
set_option linter.unusedSimpArgs false
attribute [local irreducible] W Pure
def entsOk (xs : List Entry) : Bool := decide (xs.length ≤ 40) && xs.all entryOk
def owner (b : Int) : Int := if inr b 1 3000 = true then b.tmod 3 else -1
def marksOk (l : List Bool) (id : Int) : Bool := ((l.length : Int) == 3) && l.getD id.toNat default
theorem bool_at {l : List Bool} {id : Int} (h : inr id 0 2 = true) (hl : (l.length : Int) = 3) : (l.map Bool.cells)[id.toNat]? = some (Bool.cells (l.getD id.toNat default)) := by
  simp only [inr, Bool.and_eq_true, decide_eq_true_eq] at h
  have hi : id.toNat < l.length := by omega
  rw [List.getElem?_map, List.getElem?_eq_getElem hi]
  simp [hi]
end Mg

/- What a node has of leading, and what it was asked. No condition. -/
namespace Mg
open Go Go.RowKit
set_option maxRecDepth 100000
set_option linter.unusedVariables false
set_option linter.unusedSimpArgs false
attribute [local irreducible] W Pure
def leadS (n : Node) : Bool :=
  if n.phase = 0 then n.bal == 0 && (n.fro.length : Int) == 0 && (n.best.length : Int) == 0 && decide (n.cur = zeroE false) && (n.votes.length : Int) == 0 else
  if n.phase = 1 then inr n.bal 1 3000 && decide (n.bal ≤ n.acc.p) && owner n.bal == n.id && (n.fro.length : Int) == 3 && n.fro.getD n.id.toNat default && votesOk n.best && decide (n.cur = zeroE false) && (n.votes.length : Int) == 0 else
  if n.phase = 2 then inr n.bal 1 3000 && decide (n.bal ≤ n.acc.p) && owner n.bal == n.id && (n.fro.length : Int) == 0 && votesOk n.best && decide (n.cur = zeroE false) && (n.votes.length : Int) == 0 else
  if n.phase = 3 then inr n.bal 1 3000 && decide (n.bal ≤ n.acc.p) && owner n.bal == n.id && (n.fro.length : Int) == 0 && votesOk n.best && entryOk n.cur && (n.votes.length : Int) == 3 && n.votes.getD n.id.toNat default && decide ((n.known.length : Int) < 40) else false
def leadI (n : Node) : Bool :=
  if n.phase = 0 then n.bal == 0 && (n.fro.length : Int) == 0 && (n.best.length : Int) == 0 && (decide (n.cur = zeroE false) && (n.votes.length : Int) == 0) else
  if (!(owner n.bal == n.id) || !decide (n.bal ≤ n.acc.p) || !votesOk n.best) = true then false else
  if n.phase = 1 then marksOk n.fro n.id && (decide (n.cur = zeroE false) && (n.votes.length : Int) == 0) else
  if n.phase = 2 then (n.fro.length : Int) == 0 && (decide (n.cur = zeroE false) && (n.votes.length : Int) == 0) else
  if n.phase = 3 then (n.fro.length : Int) == 0 && entryOk n.cur && marksOk n.votes n.id && decide ((n.known.length : Int) < 40) else false
theorem lead_eq (n : Node) (hid : inr n.id 0 2 = true) : leadI n = leadS n := by
  have hO : owner n.bal = n.id → inr n.bal 1 3000 = true := fun h => by
    unfold owner at h
    split at h
    · assumption
    · simp only [inr, Bool.and_eq_true, decide_eq_true_eq] at hid; omega
  unfold leadI leadS marksOk
  by_cases h0 : n.phase = 0
  · simp [h0, Bool.and_assoc]
  by_cases ho : owner n.bal = n.id
  · have hB := hO ho
    rw [hB]
    by_cases h1 : n.phase = 1 <;> by_cases h2 : n.phase = 2 <;> by_cases h3 : n.phase = 3
    all_goals try (exfalso; omega)
    all_goals simp only [h0, h1, h2, h3, if_false, if_true, ho, beq_self_eq_true, Bool.true_and, Bool.not_true, Bool.false_or]
    all_goals (generalize decide (n.bal ≤ n.acc.p) = b1; generalize votesOk n.best = b2; generalize decide (n.cur = zeroE false) = b3; generalize entryOk n.cur = b4; generalize decide ((n.known.length : Int) < 40) = b5)
    all_goals (generalize ((n.fro.length : Int) == 0) = b6; generalize ((n.votes.length : Int) == 0) = b7; generalize ((n.fro.length : Int) == 3) = b8; generalize ((n.votes.length : Int) == 3) = b9; generalize n.fro.getD n.id.toNat default = c1; generalize n.votes.getD n.id.toNat default = c2)
    all_goals (cases b1 <;> cases b2 <;> cases b3 <;> cases b4 <;> cases b6 <;> cases b8 <;> cases c1 <;> simp)
  · have ho' : (owner n.bal == n.id) = false := by simpa using ho
    simp [h0, ho', ho]
def wantsOk (n : Node) : Bool := if n.busy = true then progOk n.prog && entryOk n.want && !n.want.none && decide (n.want.q = ⟨n.id, n.seq⟩) else (n.prog.length : Int) == 0 && decide (n.want = zeroE false)
theorem all_split {α : Type} [Inhabited α] {f : α → Bool} {xs : List α} {i : Nat} (h : i < xs.length) (he : f (xs.getD i default) = false) : xs.all f = false := all_bad h he
def queueOk (e : Entry) : Bool := entryOk e && !e.none
@[reducible] def nodeA (id : Int) (ac : Acc) (kn : List Entry) (sq ph ba : Int) (fr : List Bool) (be : List Vote) (cu : Entry) (vo : List Bool) (bu : Bool) (pr : List Ins) (wa : Entry) (qu : List Entry) : List MC :=
  [i6 id, i6 ac.p, .ag (ac.votes.map Vote.cells), .ag (kn.map Entry.cells), i6 sq, i6 ph, i6 ba, .ag (fr.map Bool.cells), .ag (be.map Vote.cells), bo cu.none, i6 cu.q.a, i6 cu.q.b, .ag (cu.run.reads.map Two.cells), .ag (cu.run.puts.map Two.cells), i6 cu.run.c, i6 cu.run.d,
    .ag (vo.map Bool.cells), bo bu, .ag (pr.map Ins.cells), bo wa.none, i6 wa.q.a, i6 wa.q.b, .ag (wa.run.reads.map Two.cells), .ag (wa.run.puts.map Two.cells), i6 wa.run.c, i6 wa.run.d, .ag (qu.map Entry.cells)]
def nodeOk (n : Node) : Bool := inr n.id 0 2 && accOk n.acc && entsOk n.known && inr n.seq 0 1000 && decide ((n.queue.length : Int) ≤ 4) && leadS n && wantsOk n && n.queue.all queueOk
end Mg

/- Sizes of nodes. No condition. -/
namespace Mg
open Go Go.RowKit
set_option maxRecDepth 100000
set_option linter.unusedVariables false
set_option linter.unusedSimpArgs false
attribute [local irreducible] W Pure
theorem c_szBoolS (xs : List Bool) (l : Int) (h0 : 0 ≤ l) (h1 : l ≤ lim) (hx : xs.length ≤ maxLen) : Pure PP false 87 [.one (.fz (xs.map Bool.cells)), oi l] (oi (szT xs.length l)) := by
  have hw : IntKind.i64.wrap (l - ((xs.map Bool.cells).length : Int)) = l - xs.length := by
    unfold maxLen at hx; unfold lim at h1; rw [List.length_map, wrapi] <;> omega
  refine Pure.vc [] TTok hmo Go.Proofs.Try.func87 (by kernel_rfl) rfl (by kernel_rfl) ?_
  repeat' (first | refine And.intro ?_ ?_ | exact tf | exact ft | refine tt ?_ | refine ff ?_ | exact ⟨trivial⟩ | exact sAll rfl | exact sF1 rfl | exact sBld (by repeat' (first | exact trivial | rfl | exact Nat.le_of_ble_eq_true rfl | refine And.intro ?_ ?_)) rfl | exact sBS (by repeat' (first | exact trivial | rfl | exact Nat.le_of_ble_eq_true rfl | refine And.intro ?_ ?_)) rfl rfl rfl rfl | exact sBSF (by repeat' (first | exact trivial | rfl | exact Nat.le_of_ble_eq_true rfl | refine And.intro ?_ ?_)) rfl rfl rfl rfl | exact sLe rfl | exact Chk.mk (by kernel_rfl) | exact ⟨Chk.mk (by kernel_rfl)⟩ | exact sLeEq rfl rfl | refine fun h => ?_)
  all_goals (rw [hw] at h; refine ⟨?_⟩; simp_all [szT, sg])
  omega

theorem c_szInsS (xs : List Ins) (l : Int) (h0 : 0 ≤ l) (h1 : l ≤ lim) (hx : xs.length ≤ maxLen) : Pure PP false 90 [.one (.fz (xs.map Ins.cells)), oi l] (oi (szT xs.length l)) := by
  have hw : IntKind.i64.wrap (l - ((xs.map Ins.cells).length : Int)) = l - xs.length := by
    unfold maxLen at hx; unfold lim at h1; rw [List.length_map, wrapi] <;> omega
  refine Pure.vc [] TTok hmo Go.Proofs.Try.func90 (by kernel_rfl) rfl (by kernel_rfl) ?_
  repeat' (first | refine And.intro ?_ ?_ | exact tf | exact ft | refine tt ?_ | refine ff ?_ | exact ⟨trivial⟩ | exact sAll rfl | exact sF1 rfl | exact sBld (by repeat' (first | exact trivial | rfl | exact Nat.le_of_ble_eq_true rfl | refine And.intro ?_ ?_)) rfl | exact sBS (by repeat' (first | exact trivial | rfl | exact Nat.le_of_ble_eq_true rfl | refine And.intro ?_ ?_)) rfl rfl rfl rfl | exact sBSF (by repeat' (first | exact trivial | rfl | exact Nat.le_of_ble_eq_true rfl | refine And.intro ?_ ?_)) rfl rfl rfl rfl | exact sLe rfl | exact Chk.mk (by kernel_rfl) | exact ⟨Chk.mk (by kernel_rfl)⟩ | exact sLeEq rfl rfl | refine fun h => ?_)
  all_goals (rw [hw] at h; refine ⟨?_⟩; simp_all [szT, sg])
  omega

theorem c_szEntryS (xs : List Entry) (l : Int) (h0 : 0 ≤ l) (h1 : l ≤ lim) (hx : xs.length ≤ maxLen) (hv : ∀ v ∈ xs, v.ok maxLen) : Pure PP false 86 [.one (.fz (xs.map Entry.cells)), oi l] (oi (szS szEntry xs l)) := by
  have hw : IntKind.i64.wrap (l - ((xs.map Entry.cells).length : Int)) = l - xs.length := by
    unfold maxLen at hx; unfold lim at h1; rw [List.length_map, wrapi] <;> omega
  have hx' : xs.length ≤ 9223372036854775807 := hx
  refine Pure.vc [] TTok hmo Go.Proofs.Try.func86 (by kernel_rfl) rfl (by kernel_rfl) ?_
  repeat' (first | refine And.intro ?_ ?_ | exact tf | exact ft | refine tt ?_ | refine ff ?_ | exact ⟨trivial⟩ | exact sAll rfl | exact sF1 rfl | exact sBld (by repeat' (first | exact trivial | rfl | exact Nat.le_of_ble_eq_true rfl | refine And.intro ?_ ?_)) rfl | exact sBS (by repeat' (first | exact trivial | rfl | exact Nat.le_of_ble_eq_true rfl | refine And.intro ?_ ?_)) rfl rfl rfl rfl | exact sBSF (by repeat' (first | exact trivial | rfl | exact Nat.le_of_ble_eq_true rfl | refine And.intro ?_ ?_)) rfl rfl rfl rfl | exact sLe rfl | exact Chk.mk (by kernel_rfl) | exact ⟨Chk.mk (by kernel_rfl)⟩ | exact sLeEq rfl rfl | refine fun h => ?_)
  · rw [hw] at h; refine ⟨?_⟩; simp_all [szS, thenI]
  · rw [hw] at h
    simp only [decide_eq_false_iff_not] at h
    refine W.loopC (D := Nat × Int) (fun d => [(20, .row (xs.getD d.1 default).cells), (23, .res (oi (szEntry (xs.getD d.1 default) d.2)))]) TTok hmo
      (fun d => ⟨27, 0, [(0, .one (.ag (xs.map Entry.cells))), (1, oi d.2), (4, oi 0), (5, oi d.1)], []⟩) (fun d => xs.length - d.1) (fun d => d.1 ≤ xs.length ∧ 0 ≤ d.2 ∧ d.2 ≤ lim ∧ szS szEntry xs l = szL szEntry (xs.drop d.1) d.2) (0, l - xs.length) [] ⟨by simp, by simp only; omega, by simp only; omega, by simp [szS, thenI]; omega⟩ ?_ ?_
    · repeat' (first | exact trivial | exact ⟨rfl⟩ | exact Chk.mk (by kernel_rfl) | refine And.intro ?_ ?_ | rfl)
      exact ⟨hw.symm⟩
    · intro ⟨i, a⟩ ⟨hi, ha0, ha1, hp⟩
      simp only at hi ha0 ha1 hp
      repeat' (first | refine And.intro ?_ ?_ | exact tf | exact ft | refine tt ?_ | refine ff ?_ | exact ⟨trivial⟩ | exact sAll rfl | exact sF1 rfl | exact sBld (by repeat' (first | exact trivial | rfl | exact Nat.le_of_ble_eq_true rfl | refine And.intro ?_ ?_)) rfl | exact sBS (by repeat' (first | exact trivial | rfl | exact Nat.le_of_ble_eq_true rfl | refine And.intro ?_ ?_)) rfl rfl rfl rfl | exact sBSF (by repeat' (first | exact trivial | rfl | exact Nat.le_of_ble_eq_true rfl | refine And.intro ?_ ?_)) rfl rfl rfl rfl | exact sLe rfl | exact Chk.mk (by kernel_rfl) | exact ⟨Chk.mk (by kernel_rfl)⟩ | exact sLeEq rfl rfl | refine fun h => ?_)
      all_goals simp only [decide_eq_true_eq, decide_eq_false_iff_not, List.length_map] at *
      · exact sRow (by omega) (row_at xs _ (by omega)) rfl
      · exact sAnd (by repeat' constructor) (c_szEntry _ _ ha0 ha1 (hv _ (getD_mem (by omega))))
      · rw [szL_step _ _ _ (by omega)] at hp
        refine ⟨?_⟩; simp_all [thenI]
      · rw [szL_step _ _ _ (by omega)] at hp
        have hle := (szOk_entry (xs.getD i default)).le _ ha0
        refine ⟨(i + 1, szEntry (xs.getD i default) a), [], by simp only; omega, ⟨by simp only; omega, by simp only; omega, by simp only; omega, by simp only; rw [hp, thenI, if_neg (by assumption)]⟩, ?_⟩
        repeat' (first | exact trivial | exact ⟨rfl⟩ | exact Chk.mk (by kernel_rfl) | exact ⟨wrap_succ (n := xs.length) (by omega) (by omega)⟩ | refine And.intro ?_ ?_ | rfl)
      · rw [List.drop_eq_nil_of_le (by omega)] at hp
        refine ⟨?_⟩; simp_all [szL]

set_option maxHeartbeats 2000000 in
theorem c_szNode (x : Node) (l : Int) (h0 : 0 ≤ l) (h1 : l ≤ lim) (hx : x.ok maxLen) : Pure PP false 64 [.agg x.cells, oi l] (oi (szNode x l)) := by
  have h1' : l ≤ 1048576 := h1
  obtain ⟨l1, k1⟩ : ∃ l1, szAcc x.acc l = l1 := ⟨_, rfl⟩
  have e1 :  l1 ≤ l := k1 ▸ (szOk_acc x.acc).le l h0
  have c1 :=  c_szAcc _ l h0 h1 hx.acc
  simp only [k1] at c1
  obtain ⟨l2, k2⟩ : ∃ l2, szS szEntry x.known l1 = l2 := ⟨_, rfl⟩
  have e2 : ∀ (g1 : 0 ≤ l1), l2 ≤ l1 := fun g1 => k2 ▸ (szOk_entries x.known).le l1 g1
  have c2 := fun (g1 : 0 ≤ l1) => c_szEntryS _ l1 g1 (show (l1 : Int) ≤ 1048576 by have := e1; omega) hx.known.1 hx.known.2
  simp only [k2] at c2
  obtain ⟨l3, k3⟩ : ∃ l3, szT x.fro.length l2 = l3 := ⟨_, rfl⟩
  have e3 : ∀ (g1 : 0 ≤ l1) (g2 : 0 ≤ l2), l3 ≤ l2 := fun g1 g2 => k3 ▸ (szOk_T x.fro.length).le l2 g2
  have c3 := fun (g1 : 0 ≤ l1) (g2 : 0 ≤ l2) => c_szBoolS _ l2 g2 (show (l2 : Int) ≤ 1048576 by have := e1; have := e2 g1; omega) hx.fro
  simp only [k3] at c3
  obtain ⟨l4, k4⟩ : ∃ l4, szVoteS x.best l3 = l4 := ⟨_, rfl⟩
  have e4 : ∀ (g1 : 0 ≤ l1) (g2 : 0 ≤ l2) (g3 : 0 ≤ l3), l4 ≤ l3 := fun g1 g2 g3 => k4 ▸ (szOk_votes x.best).le l3 g3
  have c4 := fun (g1 : 0 ≤ l1) (g2 : 0 ≤ l2) (g3 : 0 ≤ l3) => c_szVoteS _ l3 g3 (show (l3 : Int) ≤ 1048576 by have := e1; have := e2 g1; have := e3 g1 g2; omega) hx.best.1 hx.best.2
  simp only [k4] at c4
  obtain ⟨l5, k5⟩ : ∃ l5, szEntry x.cur l4 = l5 := ⟨_, rfl⟩
  have e5 : ∀ (g1 : 0 ≤ l1) (g2 : 0 ≤ l2) (g3 : 0 ≤ l3) (g4 : 0 ≤ l4), l5 ≤ l4 := fun g1 g2 g3 g4 => k5 ▸ (szOk_entry x.cur).le l4 g4
  have c5 := fun (g1 : 0 ≤ l1) (g2 : 0 ≤ l2) (g3 : 0 ≤ l3) (g4 : 0 ≤ l4) => c_szEntry _ l4 g4 (show (l4 : Int) ≤ 1048576 by have := e1; have := e2 g1; have := e3 g1 g2; have := e4 g1 g2 g3; omega) hx.cur
  simp only [k5] at c5
  obtain ⟨l6, k6⟩ : ∃ l6, szT x.votes.length l5 = l6 := ⟨_, rfl⟩
  have e6 : ∀ (g1 : 0 ≤ l1) (g2 : 0 ≤ l2) (g3 : 0 ≤ l3) (g4 : 0 ≤ l4) (g5 : 0 ≤ l5), l6 ≤ l5 := fun g1 g2 g3 g4 g5 => k6 ▸ (szOk_T x.votes.length).le l5 g5
  have c6 := fun (g1 : 0 ≤ l1) (g2 : 0 ≤ l2) (g3 : 0 ≤ l3) (g4 : 0 ≤ l4) (g5 : 0 ≤ l5) => c_szBoolS _ l5 g5 (show (l5 : Int) ≤ 1048576 by have := e1; have := e2 g1; have := e3 g1 g2; have := e4 g1 g2 g3; have := e5 g1 g2 g3 g4; omega) hx.votes
  simp only [k6] at c6
  obtain ⟨l7, k7⟩ : ∃ l7, szT x.prog.length l6 = l7 := ⟨_, rfl⟩
  have e7 : ∀ (g1 : 0 ≤ l1) (g2 : 0 ≤ l2) (g3 : 0 ≤ l3) (g4 : 0 ≤ l4) (g5 : 0 ≤ l5) (g6 : 0 ≤ l6), l7 ≤ l6 := fun g1 g2 g3 g4 g5 g6 => k7 ▸ (szOk_T x.prog.length).le l6 g6
  have c7 := fun (g1 : 0 ≤ l1) (g2 : 0 ≤ l2) (g3 : 0 ≤ l3) (g4 : 0 ≤ l4) (g5 : 0 ≤ l5) (g6 : 0 ≤ l6) => c_szInsS _ l6 g6 (show (l6 : Int) ≤ 1048576 by have := e1; have := e2 g1; have := e3 g1 g2; have := e4 g1 g2 g3; have := e5 g1 g2 g3 g4; have := e6 g1 g2 g3 g4 g5; omega) hx.prog
  simp only [k7] at c7
  obtain ⟨l8, k8⟩ : ∃ l8, szEntry x.want l7 = l8 := ⟨_, rfl⟩
  have e8 : ∀ (g1 : 0 ≤ l1) (g2 : 0 ≤ l2) (g3 : 0 ≤ l3) (g4 : 0 ≤ l4) (g5 : 0 ≤ l5) (g6 : 0 ≤ l6) (g7 : 0 ≤ l7), l8 ≤ l7 := fun g1 g2 g3 g4 g5 g6 g7 => k8 ▸ (szOk_entry x.want).le l7 g7
  have c8 := fun (g1 : 0 ≤ l1) (g2 : 0 ≤ l2) (g3 : 0 ≤ l3) (g4 : 0 ≤ l4) (g5 : 0 ≤ l5) (g6 : 0 ≤ l6) (g7 : 0 ≤ l7) => c_szEntry _ l7 g7 (show (l7 : Int) ≤ 1048576 by have := e1; have := e2 g1; have := e3 g1 g2; have := e4 g1 g2 g3; have := e5 g1 g2 g3 g4; have := e6 g1 g2 g3 g4 g5; have := e7 g1 g2 g3 g4 g5 g6; omega) hx.want
  simp only [k8] at c8
  obtain ⟨l9, k9⟩ : ∃ l9, szS szEntry x.queue l8 = l9 := ⟨_, rfl⟩
  have e9 : ∀ (g1 : 0 ≤ l1) (g2 : 0 ≤ l2) (g3 : 0 ≤ l3) (g4 : 0 ≤ l4) (g5 : 0 ≤ l5) (g6 : 0 ≤ l6) (g7 : 0 ≤ l7) (g8 : 0 ≤ l8), l9 ≤ l8 := fun g1 g2 g3 g4 g5 g6 g7 g8 => k9 ▸ (szOk_entries x.queue).le l8 g8
  have c9 := fun (g1 : 0 ≤ l1) (g2 : 0 ≤ l2) (g3 : 0 ≤ l3) (g4 : 0 ≤ l4) (g5 : 0 ≤ l5) (g6 : 0 ≤ l6) (g7 : 0 ≤ l7) (g8 : 0 ≤ l8) => c_szEntryS _ l8 g8 (show (l8 : Int) ≤ 1048576 by have := e1; have := e2 g1; have := e3 g1 g2; have := e4 g1 g2 g3; have := e5 g1 g2 g3 g4; have := e6 g1 g2 g3 g4 g5; have := e7 g1 g2 g3 g4 g5 g6; have := e8 g1 g2 g3 g4 g5 g6 g7; omega) hx.queue.1 hx.queue.2
  simp only [k9] at c9
  have hN : szNode x l = _ := rfl
  rw [hN]
  simp only [szNode, thenI, sg, k1, k2, k3, k4, k5, k6, k7, k8, k9]
  clear hN
  refine Pure.vc [(8, .res (oi l1)), (14, .res (oi l2)), (20, .res (oi l3)), (26, .res (oi l4)), (32, .res (oi l5)), (38, .res (oi l6)), (44, .res (oi l7)), (50, .res (oi l8)), (56, .res (oi l9))] TTok hmo Go.Proofs.Try.func64 (by kernel_rfl) rfl (by kernel_rfl) ?_
  repeat' (first | refine And.intro ?_ ?_ | exact tf | exact ft | refine tt ?_ | refine ff ?_ | exact ⟨trivial⟩ | exact sAll rfl | exact sF1 rfl | exact sBld (by repeat' (first | exact trivial | rfl | exact Nat.le_of_ble_eq_true rfl | refine And.intro ?_ ?_)) rfl | exact sBS (by repeat' (first | exact trivial | rfl | exact Nat.le_of_ble_eq_true rfl | refine And.intro ?_ ?_)) rfl rfl rfl rfl | exact sBSF (by repeat' (first | exact trivial | rfl | exact Nat.le_of_ble_eq_true rfl | refine And.intro ?_ ?_)) rfl rfl rfl rfl | exact sLe rfl | exact Chk.mk (by kernel_rfl) | exact ⟨Chk.mk (by kernel_rfl)⟩ | exact sLeEq rfl rfl | exact sAnd (by repeat' constructor) (c1) | exact sAnd (by repeat' constructor) (c2 (by simp only [decide_eq_false_iff_not, decide_eq_true_eq] at *; omega)) | exact sAnd (by repeat' constructor) (c3 (by simp only [decide_eq_false_iff_not, decide_eq_true_eq] at *; omega) (by simp only [decide_eq_false_iff_not, decide_eq_true_eq] at *; omega)) | exact sAnd (by repeat' constructor) (c4 (by simp only [decide_eq_false_iff_not, decide_eq_true_eq] at *; omega) (by simp only [decide_eq_false_iff_not, decide_eq_true_eq] at *; omega) (by simp only [decide_eq_false_iff_not, decide_eq_true_eq] at *; omega)) | exact sAnd (by repeat' constructor) (c5 (by simp only [decide_eq_false_iff_not, decide_eq_true_eq] at *; omega) (by simp only [decide_eq_false_iff_not, decide_eq_true_eq] at *; omega) (by simp only [decide_eq_false_iff_not, decide_eq_true_eq] at *; omega) (by simp only [decide_eq_false_iff_not, decide_eq_true_eq] at *; omega)) | exact sAnd (by repeat' constructor) (c6 (by simp only [decide_eq_false_iff_not, decide_eq_true_eq] at *; omega) (by simp only [decide_eq_false_iff_not, decide_eq_true_eq] at *; omega) (by simp only [decide_eq_false_iff_not, decide_eq_true_eq] at *; omega) (by simp only [decide_eq_false_iff_not, decide_eq_true_eq] at *; omega) (by simp only [decide_eq_false_iff_not, decide_eq_true_eq] at *; omega)) | exact sAnd (by repeat' constructor) (c7 (by simp only [decide_eq_false_iff_not, decide_eq_true_eq] at *; omega) (by simp only [decide_eq_false_iff_not, decide_eq_true_eq] at *; omega) (by simp only [decide_eq_false_iff_not, decide_eq_true_eq] at *; omega) (by simp only [decide_eq_false_iff_not, decide_eq_true_eq] at *; omega) (by simp only [decide_eq_false_iff_not, decide_eq_true_eq] at *; omega) (by simp only [decide_eq_false_iff_not, decide_eq_true_eq] at *; omega)) | exact sAnd (by repeat' constructor) (c8 (by simp only [decide_eq_false_iff_not, decide_eq_true_eq] at *; omega) (by simp only [decide_eq_false_iff_not, decide_eq_true_eq] at *; omega) (by simp only [decide_eq_false_iff_not, decide_eq_true_eq] at *; omega) (by simp only [decide_eq_false_iff_not, decide_eq_true_eq] at *; omega) (by simp only [decide_eq_false_iff_not, decide_eq_true_eq] at *; omega) (by simp only [decide_eq_false_iff_not, decide_eq_true_eq] at *; omega) (by simp only [decide_eq_false_iff_not, decide_eq_true_eq] at *; omega)) | exact sAnd (by repeat' constructor) (c9 (by simp only [decide_eq_false_iff_not, decide_eq_true_eq] at *; omega) (by simp only [decide_eq_false_iff_not, decide_eq_true_eq] at *; omega) (by simp only [decide_eq_false_iff_not, decide_eq_true_eq] at *; omega) (by simp only [decide_eq_false_iff_not, decide_eq_true_eq] at *; omega) (by simp only [decide_eq_false_iff_not, decide_eq_true_eq] at *; omega) (by simp only [decide_eq_false_iff_not, decide_eq_true_eq] at *; omega) (by simp only [decide_eq_false_iff_not, decide_eq_true_eq] at *; omega) (by simp only [decide_eq_false_iff_not, decide_eq_true_eq] at *; omega)) | refine fun h => ?_)
  all_goals clear c9 e9 k9 c8 e8 k8 c7 e7 k7 c6 e6 k6 c5 e5 k5 c4 e4 k4 c3 e3 k3 c2 e2 k2 c1 e1 k1
  all_goals (refine Side.mk ?_; simp_all)
  all_goals try (intro hz; omega)
  all_goals repeat rw [if_neg (by omega)]

end Mg

/- Nodes that are right, impl's walk; the law of NodeOk. No condition. -/
namespace Mg
open Go Go.RowKit
set_option maxRecDepth 100000
set_option linter.unusedVariables false
set_option linter.unusedSimpArgs false
attribute [local irreducible] W Pure
theorem beq_two {a b c d : Int} : (a == c && b == d) = decide (a = c ∧ b = d) := by
  rw [Bool.eq_iff_iff]; simp
end Mg
