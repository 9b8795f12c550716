/- Parts of the abstract state logic and of the walks, one behind the other: E4, EB. No condition. -/
import Derived.Test.YtedgmfmhilihoaaGreatP22
import Derived.Test.YtedgmfmhilihoaaGreatP15
import Derived.Test.YtedgmfmhilihoaaGreatP13
/- Structs, numbered and held. No condition. -/
namespace Mg
open Go Go.RowKit
set_option maxRecDepth 100000
set_option linter.unusedVariables false
set_option linter.unusedSimpArgs false
attribute [local irreducible] W Pure

theorem k_markRun (x : Run) (k : Int) (hk0 : 0 ≤ k) (hk1 : k ≤ 2000000000000000000) (hx : x.ok lim) : TMark PP 113 (.agg x.cells) k (.agg (mkRun x k).cells) (k + 2 * (x.reads.length : Int) + 2 * (x.puts.length : Int)) := by
  have hr : x.reads.length ≤ 1048576 := hx.1
  have hp : x.puts.length ≤ 1048576 := hx.2
  refine TMark.vcS (fun B => [(800001, .row [])]) TTok hmo Go.Proofs.Tryz.func113 (by kernel_rfl) rfl (by kernel_rfl) rfl (fun B hB => ?_)
  repeat' (first | refine And.intro ?_ ?_ | exact tf | exact ft | refine tt ?_ | refine ff ?_ | exact ⟨trivial⟩ | exact sAll rfl | exact sF1 rfl | exact sBld (by repeat' (first | exact trivial | rfl | exact Nat.le_of_ble_eq_true rfl | refine And.intro ?_ ?_)) rfl | exact sBS (by repeat' (first | exact trivial | rfl | exact Nat.le_of_ble_eq_true rfl | refine And.intro ?_ ?_)) rfl rfl rfl rfl | exact sBSF (by repeat' (first | exact trivial | rfl | exact Nat.le_of_ble_eq_true rfl | refine And.intro ?_ ?_)) rfl rfl rfl rfl | exact sLe rfl | exact Chk.mk (by kernel_rfl) | exact ⟨Chk.mk (by kernel_rfl)⟩ | exact sLeEq rfl rfl | refine fun h => ?_)
  refine W.sub ⟨14, 1, [(0, .agg [.tr true (B 0).B (B 0).u (x.reads.map Two.cells), .tr true (B 1).B (B 1).u (x.puts.map Two.cells), i6 x.c, i6 x.d]), (1, oi k), (2, .one (.ptr 0 0 0))], [(0, .box [.tr true (B 0).B (B 0).u (x.reads.map Two.cells), .tr true (B 1).B (B 1).u (x.puts.map Two.cells), i6 x.c, i6 x.d])]⟩ [] ?_ ?_
  · repeat' (first | exact trivial | exact Side.mk rfl | exact Chk.mk (by kernel_rfl) | exact ⟨Chk.mk (by kernel_rfl)⟩ | refine And.intro ?_ ?_ | rfl)
  have q1 := k_markReadS x.reads (k) (by omega) (by omega) hx.1
  have q2 := tmark_eq (k2 := k + 2 * (x.reads.length : Int)) q1 (by have := ctTwos x.reads; omega)
  refine W.go [(800002, .row []), (8, .mark (fun _ _ => (.one (.fz ((mkTwos x.reads (k)).map Two.cells)), k + 2 * (x.reads.length : Int))) [2] [(0, [(0, 0)])] [0] [(0, 0, 0)])] TTok hmo ?_
  repeat' (first | refine And.intro ?_ ?_ | exact tf | exact ft | refine tt ?_ | refine ff ?_ | exact ⟨trivial⟩ | exact sAll rfl | exact sF1 rfl | exact sBld (by repeat' (first | exact trivial | rfl | exact Nat.le_of_ble_eq_true rfl | refine And.intro ?_ ?_)) rfl | exact sBS (by repeat' (first | exact trivial | rfl | exact Nat.le_of_ble_eq_true rfl | refine And.intro ?_ ?_)) rfl rfl rfl rfl | exact sBSF (by repeat' (first | exact trivial | rfl | exact Nat.le_of_ble_eq_true rfl | refine And.intro ?_ ?_)) rfl rfl rfl rfl | exact sLe rfl | exact Chk.mk (by kernel_rfl) | exact ⟨Chk.mk (by kernel_rfl)⟩ | exact sLeEq rfl rfl | refine fun h => ?_)
  all_goals try (exact ⟨apart_one⟩)
  all_goals try (exact Side.mk q2)
  all_goals try (exact trivial)
  all_goals try (exact Side.mk (.ptr _ _ _))
  all_goals try (repeat' (first | exact trivial | exact Side.mk (.sc _) | exact Side.mk (.mk _ _ _ _ (List.Mem.head _)) | exact Side.mk (.tr _ _ _ _ fun y h1 h2 => absurd (hB _ _ y h1 h2) (by decide)) | refine And.intro ?_ ?_); done)
  refine W.sub ⟨14, 1, [(0, .agg [.tr true (B 0).B (B 0).u ((mkTwos x.reads (k)).map Two.cells), .tr true (B 1).B (B 1).u (x.puts.map Two.cells), i6 x.c, i6 x.d]), (1, oi (k + 2 * (x.reads.length : Int))), (2, .one (.ptr 0 0 0))], [(0, .box [.tr true (B 0).B (B 0).u ((mkTwos x.reads (k)).map Two.cells), .tr true (B 1).B (B 1).u (x.puts.map Two.cells), i6 x.c, i6 x.d])]⟩ [] ?_ ?_
  · repeat' (first | exact trivial | exact Side.mk rfl | exact Chk.mk (by kernel_rfl) | exact ⟨Chk.mk (by kernel_rfl)⟩ | exact ⟨by omega⟩ | refine And.intro ?_ ?_ | rfl)
  have q1 := k_markPutS x.puts (k + 2 * (x.reads.length : Int)) (by omega) (by omega) hx.2
  have q2 := tmark_eq (k2 := k + 2 * (x.reads.length : Int) + 2 * (x.puts.length : Int)) q1 (by have := ctTwos x.puts; omega)
  refine W.go [(12, .mark (fun _ _ => (.one (.fz ((mkTwos x.puts (k + 2 * (x.reads.length : Int))).map Two.cells)), k + 2 * (x.reads.length : Int) + 2 * (x.puts.length : Int))) [2] [(0, [(1, 0)])] [0] [(0, 0, 1)])] TTok hmo ?_
  repeat' (first | refine And.intro ?_ ?_ | exact tf | exact ft | refine tt ?_ | refine ff ?_ | exact ⟨trivial⟩ | exact sAll rfl | exact sF1 rfl | exact sBld (by repeat' (first | exact trivial | rfl | exact Nat.le_of_ble_eq_true rfl | refine And.intro ?_ ?_)) rfl | exact sBS (by repeat' (first | exact trivial | rfl | exact Nat.le_of_ble_eq_true rfl | refine And.intro ?_ ?_)) rfl rfl rfl rfl | exact sBSF (by repeat' (first | exact trivial | rfl | exact Nat.le_of_ble_eq_true rfl | refine And.intro ?_ ?_)) rfl rfl rfl rfl | exact sLe rfl | exact Chk.mk (by kernel_rfl) | exact ⟨Chk.mk (by kernel_rfl)⟩ | exact sLeEq rfl rfl | refine fun h => ?_)
  all_goals try (exact ⟨apart_one⟩)
  all_goals try (exact Side.mk q2)
  all_goals try (exact trivial)
  all_goals try (exact Side.mk (.ptr _ _ _))
  all_goals try (repeat' (first | exact trivial | exact Side.mk (.sc _) | exact Side.mk (.mk _ _ _ _ (List.Mem.head _)) | exact Side.mk (.tr _ _ _ _ fun y h1 h2 => absurd (hB _ _ y h1 h2) (by decide)) | refine And.intro ?_ ?_); done)
  all_goals first | exact ⟨⟨trivial, trivial⟩⟩ | exact ⟨rfl⟩ | exact ⟨trivial⟩ | exact ⟨by repeat' constructor⟩

theorem k_markEntry (x : Entry) (k : Int) (hk0 : 0 ≤ k) (hk1 : k ≤ 2000000000000000000) (hx : x.ok lim) : TMark PP 49 (.agg x.cells) k (.agg (mkRunE x k).cells) (k + 2 * (x.run.reads.length : Int) + 2 * (x.run.puts.length : Int)) := by
  refine TMark.vcS (fun B => [(800001, .row [])]) TTok hmo Go.Proofs.Tryz.func49 (by kernel_rfl) rfl (by kernel_rfl) rfl (fun B hB => ?_)
  repeat' (first | refine And.intro ?_ ?_ | exact tf | exact ft | refine tt ?_ | refine ff ?_ | exact ⟨trivial⟩ | exact sAll rfl | exact sF1 rfl | exact sBld (by repeat' (first | exact trivial | rfl | exact Nat.le_of_ble_eq_true rfl | refine And.intro ?_ ?_)) rfl | exact sBS (by repeat' (first | exact trivial | rfl | exact Nat.le_of_ble_eq_true rfl | refine And.intro ?_ ?_)) rfl rfl rfl rfl | exact sBSF (by repeat' (first | exact trivial | rfl | exact Nat.le_of_ble_eq_true rfl | refine And.intro ?_ ?_)) rfl rfl rfl rfl | exact sLe rfl | exact Chk.mk (by kernel_rfl) | exact ⟨Chk.mk (by kernel_rfl)⟩ | exact sLeEq rfl rfl | refine fun h => ?_)
  refine W.sub ⟨10, 1, [(0, .agg [bo x.none, i6 x.q.a, i6 x.q.b, .tr true (B 3).B (B 3).u (x.run.reads.map Two.cells), .tr true (B 4).B (B 4).u (x.run.puts.map Two.cells), i6 x.run.c, i6 x.run.d]), (1, oi k), (2, .one (.ptr 0 0 0))], [(0, .box [bo x.none, i6 x.q.a, i6 x.q.b, .tr true (B 3).B (B 3).u (x.run.reads.map Two.cells), .tr true (B 4).B (B 4).u (x.run.puts.map Two.cells), i6 x.run.c, i6 x.run.d])]⟩ [] ?_ ?_
  · repeat' (first | exact trivial | exact Side.mk rfl | exact Chk.mk (by kernel_rfl) | exact ⟨Chk.mk (by kernel_rfl)⟩ | refine And.intro ?_ ?_ | rfl)
  have q1 := k_markRun x.run (k) (by omega) (by omega) hx
  have q2 := tmark_eq (k2 := k + 2 * (x.run.reads.length : Int) + 2 * (x.run.puts.length : Int)) q1 (by omega)
  refine W.go [(8, .mark (fun _ _ => (.agg [.fz ((mkTwos x.run.reads (k)).map Two.cells), .fz ((mkTwos x.run.puts (k + 2 * (x.run.reads.length : Int))).map Two.cells), i6 x.run.c, i6 x.run.d], k + 2 * (x.run.reads.length : Int) + 2 * (x.run.puts.length : Int))) [2] [(0, [(3, 0), (4, 1)])] [0] [(0, 0, 3), (0, 1, 4)])] TTok hmo ?_
  repeat' (first | refine And.intro ?_ ?_ | exact tf | exact ft | refine tt ?_ | refine ff ?_ | exact ⟨trivial⟩ | exact sAll rfl | exact sF1 rfl | exact sBld (by repeat' (first | exact trivial | rfl | exact Nat.le_of_ble_eq_true rfl | refine And.intro ?_ ?_)) rfl | exact sBS (by repeat' (first | exact trivial | rfl | exact Nat.le_of_ble_eq_true rfl | refine And.intro ?_ ?_)) rfl rfl rfl rfl | exact sBSF (by repeat' (first | exact trivial | rfl | exact Nat.le_of_ble_eq_true rfl | refine And.intro ?_ ?_)) rfl rfl rfl rfl | exact sLe rfl | exact Chk.mk (by kernel_rfl) | exact ⟨Chk.mk (by kernel_rfl)⟩ | exact sLeEq rfl rfl | refine fun h => ?_)
  all_goals try (exact ⟨apart_row (B := B) (o := 3) hB (cs0 := [.fz (x.run.reads.map Two.cells), .fz (x.run.puts.map Two.cells), i6 x.run.c, i6 x.run.d])⟩)
  all_goals try (exact Side.mk q2)
  all_goals try (exact trivial)
  all_goals try (exact Side.mk (.ptr _ _ _))
  all_goals try (repeat' (first | exact trivial | exact Side.mk (.sc _) | exact Side.mk (.mk _ _ _ _ (List.Mem.head _)) | exact Side.mk (.mk _ _ _ _ (List.Mem.tail _ (List.Mem.head _))) | exact Side.mk (.tr _ _ _ _ fun y h1 h2 => nin_row (o := 3) hB h1 rfl (cs0 := [.fz (x.run.reads.map Two.cells), .fz (x.run.puts.map Two.cells), i6 x.run.c, i6 x.run.d]) h2) | refine And.intro ?_ ?_); done)
  all_goals first | exact ⟨⟨trivial, trivial⟩⟩ | exact ⟨rfl⟩ | exact ⟨trivial⟩ | exact ⟨by repeat' constructor⟩

theorem k_markAcc (x : Acc) (k : Int) (hk0 : 0 ≤ k) (hk1 : k ≤ 2000000000000000000) (hx : x.ok lim) : TMark PP 45 (.agg x.cells) k (.agg (mkAcc x k).cells) (k + ctVotes x.votes) := by
  refine TMark.vcS (fun B => [(800001, .row [])]) TTok hmo Go.Proofs.Tryz.func45 (by kernel_rfl) rfl (by kernel_rfl) rfl (fun B hB => ?_)
  repeat' (first | refine And.intro ?_ ?_ | exact tf | exact ft | refine tt ?_ | refine ff ?_ | exact ⟨trivial⟩ | exact sAll rfl | exact sF1 rfl | exact sBld (by repeat' (first | exact trivial | rfl | exact Nat.le_of_ble_eq_true rfl | refine And.intro ?_ ?_)) rfl | exact sBS (by repeat' (first | exact trivial | rfl | exact Nat.le_of_ble_eq_true rfl | refine And.intro ?_ ?_)) rfl rfl rfl rfl | exact sBSF (by repeat' (first | exact trivial | rfl | exact Nat.le_of_ble_eq_true rfl | refine And.intro ?_ ?_)) rfl rfl rfl rfl | exact sLe rfl | exact Chk.mk (by kernel_rfl) | exact ⟨Chk.mk (by kernel_rfl)⟩ | exact sLeEq rfl rfl | refine fun h => ?_)
  refine W.sub ⟨10, 1, [(0, .agg [i6 x.p, .tr true (B 1).B (B 1).u (x.votes.map Vote.cells)]), (1, oi k), (2, .one (.ptr 0 0 0))], [(0, .box [i6 x.p, .tr true (B 1).B (B 1).u (x.votes.map Vote.cells)])]⟩ [] ?_ ?_
  · repeat' (first | exact trivial | exact Side.mk rfl | exact Chk.mk (by kernel_rfl) | exact ⟨Chk.mk (by kernel_rfl)⟩ | refine And.intro ?_ ?_ | rfl)
  have q1 := k_markVoteS x.votes (k) (by omega) (by omega) hx.1 hx.2
  have q2 := tmark_eq (k2 := k + ctVotes x.votes) q1 (by rfl)
  refine W.go [(8, .mark (fun _ _ => (.one (.fz ((mkVotes x.votes (k)).map Vote.cells)), k + ctVotes x.votes)) [2] [(0, [(1, 0)])] [0] [(0, 0, 1)])] TTok hmo ?_
  repeat' (first | refine And.intro ?_ ?_ | exact tf | exact ft | refine tt ?_ | refine ff ?_ | exact ⟨trivial⟩ | exact sAll rfl | exact sF1 rfl | exact sBld (by repeat' (first | exact trivial | rfl | exact Nat.le_of_ble_eq_true rfl | refine And.intro ?_ ?_)) rfl | exact sBS (by repeat' (first | exact trivial | rfl | exact Nat.le_of_ble_eq_true rfl | refine And.intro ?_ ?_)) rfl rfl rfl rfl | exact sBSF (by repeat' (first | exact trivial | rfl | exact Nat.le_of_ble_eq_true rfl | refine And.intro ?_ ?_)) rfl rfl rfl rfl | exact sLe rfl | exact Chk.mk (by kernel_rfl) | exact ⟨Chk.mk (by kernel_rfl)⟩ | exact sLeEq rfl rfl | refine fun h => ?_)
  all_goals try (exact ⟨apart_one⟩)
  all_goals try (exact Side.mk q2)
  all_goals try (exact trivial)
  all_goals try (exact Side.mk (.ptr _ _ _))
  all_goals try (repeat' (first | exact trivial | exact Side.mk (.sc _) | exact Side.mk (.mk _ _ _ _ (List.Mem.head _)) | exact Side.mk (.tr _ _ _ _ fun y h1 h2 => absurd (hB _ _ y h1 h2) (by decide)) | refine And.intro ?_ ?_); done)
  all_goals first | exact ⟨⟨trivial, trivial⟩⟩ | exact ⟨rfl⟩ | exact ⟨trivial⟩ | exact ⟨by repeat' constructor⟩

theorem h_heldRun (x : Run) (k : Int) (hk0 : 0 ≤ k) (hk1 : k ≤ 2000000000000000000) (hx : x.ok lim) : Pure PP false 114 [.agg (mkRun x k).cells, oi k] (oi (k + 2 * (x.reads.length : Int) + 2 * (x.puts.length : Int))) := by
  have hr : x.reads.length ≤ 1048576 := hx.1
  have hp : x.puts.length ≤ 1048576 := hx.2
  have q0 := pure_eq (k2 := k + 2 * (x.reads.length : Int)) (h_heldReadS x.reads k (by omega) (by omega) hx.1) (by have := ctTwos x.reads; omega)
  have q1 := pure_eq (k2 := k + 2 * (x.reads.length : Int) + 2 * (x.puts.length : Int)) (h_heldPutS x.puts (k + 2 * (x.reads.length : Int)) (by omega) (by omega) hx.2) (by have := ctTwos x.puts; omega)
  refine Pure.vc [(8, .res (oi (k + 2 * (x.reads.length : Int)))), (14, .res (oi (k + 2 * (x.reads.length : Int) + 2 * (x.puts.length : Int))))] TTok hmo Go.Proofs.Tryz.func114 (by kernel_rfl) rfl (by kernel_rfl) ?_
  repeat' (first | refine And.intro ?_ ?_ | exact tf | exact ft | refine tt ?_ | refine ff ?_ | exact ⟨trivial⟩ | exact sAll rfl | exact sF1 rfl | exact sBld (by repeat' (first | exact trivial | rfl | exact Nat.le_of_ble_eq_true rfl | refine And.intro ?_ ?_)) rfl | exact sBS (by repeat' (first | exact trivial | rfl | exact Nat.le_of_ble_eq_true rfl | refine And.intro ?_ ?_)) rfl rfl rfl rfl | exact sBSF (by repeat' (first | exact trivial | rfl | exact Nat.le_of_ble_eq_true rfl | refine And.intro ?_ ?_)) rfl rfl rfl rfl | exact sLe rfl | exact Chk.mk (by kernel_rfl) | exact ⟨Chk.mk (by kernel_rfl)⟩ | exact sLeEq rfl rfl | exact sAnd (by repeat' constructor) (q0) | exact sAnd (by repeat' constructor) (q1) | refine fun h => ?_)
  all_goals try (exfalso; have h3 := of_decide_eq_true h; omega)
  all_goals exact ⟨by repeat' constructor, rfl, trivial⟩

theorem h_heldEntry (x : Entry) (k : Int) (hk0 : 0 ≤ k) (hk1 : k ≤ 2000000000000000000) (hx : x.ok lim) : Pure PP false 55 [.agg (mkRunE x k).cells, oi k] (oi (k + 2 * (x.run.reads.length : Int) + 2 * (x.run.puts.length : Int))) := by
  have hr : x.run.reads.length ≤ 1048576 := hx.1
  have hp : x.run.puts.length ≤ 1048576 := hx.2
  have q0 := pure_eq (k2 := k + 2 * (x.run.reads.length : Int) + 2 * (x.run.puts.length : Int)) (h_heldRun x.run k (by omega) (by omega) hx) (by rfl)
  refine Pure.vc [(8, .res (oi (k + 2 * (x.run.reads.length : Int) + 2 * (x.run.puts.length : Int))))] TTok hmo Go.Proofs.Tryz.func55 (by kernel_rfl) rfl (by kernel_rfl) ?_
  repeat' (first | refine And.intro ?_ ?_ | exact tf | exact ft | refine tt ?_ | refine ff ?_ | exact ⟨trivial⟩ | exact sAll rfl | exact sF1 rfl | exact sBld (by repeat' (first | exact trivial | rfl | exact Nat.le_of_ble_eq_true rfl | refine And.intro ?_ ?_)) rfl | exact sBS (by repeat' (first | exact trivial | rfl | exact Nat.le_of_ble_eq_true rfl | refine And.intro ?_ ?_)) rfl rfl rfl rfl | exact sBSF (by repeat' (first | exact trivial | rfl | exact Nat.le_of_ble_eq_true rfl | refine And.intro ?_ ?_)) rfl rfl rfl rfl | exact sLe rfl | exact Chk.mk (by kernel_rfl) | exact ⟨Chk.mk (by kernel_rfl)⟩ | exact sLeEq rfl rfl | exact sAnd (by repeat' constructor) (q0) | refine fun h => ?_)
  all_goals try (exfalso; have h3 := of_decide_eq_true h; omega)
  all_goals exact ⟨by repeat' constructor, rfl, trivial⟩

theorem h_heldAcc (x : Acc) (k : Int) (hk0 : 0 ≤ k) (hk1 : k ≤ 2000000000000000000) (hx : x.ok lim) : Pure PP false 51 [.agg (mkAcc x k).cells, oi k] (oi (k + ctVotes x.votes)) := by
  have h0 := ctL_bd (fun v hv => ctVote_bd (hx.2 v hv)) |>.1
  have h1 : 0 ≤ ctVotes x.votes := h0
  have q0 := pure_eq (k2 := k + ctVotes x.votes) (h_heldVoteS x.votes k (by omega) (by omega) hx.1 hx.2) (by rfl)
  refine Pure.vc [(8, .res (oi (k + ctVotes x.votes)))] TTok hmo Go.Proofs.Tryz.func51 (by kernel_rfl) rfl (by kernel_rfl) ?_
  repeat' (first | refine And.intro ?_ ?_ | exact tf | exact ft | refine tt ?_ | refine ff ?_ | exact ⟨trivial⟩ | exact sAll rfl | exact sF1 rfl | exact sBld (by repeat' (first | exact trivial | rfl | exact Nat.le_of_ble_eq_true rfl | refine And.intro ?_ ?_)) rfl | exact sBS (by repeat' (first | exact trivial | rfl | exact Nat.le_of_ble_eq_true rfl | refine And.intro ?_ ?_)) rfl rfl rfl rfl | exact sBSF (by repeat' (first | exact trivial | rfl | exact Nat.le_of_ble_eq_true rfl | refine And.intro ?_ ?_)) rfl rfl rfl rfl | exact sLe rfl | exact Chk.mk (by kernel_rfl) | exact ⟨Chk.mk (by kernel_rfl)⟩ | exact sLeEq rfl rfl | exact sAnd (by repeat' constructor) (q0) | refine fun h => ?_)
  all_goals try (exfalso; have h3 := of_decide_eq_true h; omega)
  all_goals exact ⟨by repeat' constructor, rfl, trivial⟩

end Mg

/- How much there is to number; blocks apart. No condition. -/
namespace Mg
open Go Go.RowKit
set_option linter.unusedVariables false
theorem ctVotes_bd {vs : List Vote} (hl : vs.length ≤ lim) (h : ∀ v ∈ vs, v.ok lim) : 0 ≤ ctVotes vs ∧ ctVotes vs ≤ 6000000000000 := by
  have hl : vs.length ≤ 1048576 := hl
  have := ctL_bd (ct := ctVote) (M := 5000001) (xs := vs) fun x hx => ctVote_bd (h x hx)
  unfold ctVotes
  omega
theorem ctL_tot {α : Type} [Inhabited α] {ct : α → Int} : ∀ {xs : List α}, (∀ x ∈ xs, 0 ≤ ct x) → ∀ i, 0 ≤ ctL ct (xs.take i) ∧ ctL ct (xs.take i) ≤ ctL ct xs
  | [], _, i => by simp [ctL]
  | x :: xs, h, 0 => by
    have h1 := h x (by simp)
    have h2 := ctL_tot (ct := ct) (xs := xs) (fun y hy => h y (List.mem_cons_of_mem _ hy)) xs.length
    rw [List.take_length] at h2
    simp only [List.take_zero, ctL]; omega
  | x :: xs, h, i + 1 => by
    have h1 := h x (by simp)
    have h2 := ctL_tot (ct := ct) (xs := xs) (fun y hy => h y (List.mem_cons_of_mem _ hy)) i
    simp only [List.take_succ_cons, ctL]; omega
theorem ctEntries_bd {vs : List Entry} (h : EntriesOk lim vs) : 0 ≤ ctEntries vs ∧ ctEntries vs ≤ 6000000000000 := by
  have hl : vs.length ≤ 1048576 := h.1
  have := ctL_bd (ct := ctEntry) (M := 5000000) (xs := vs) fun x hx => ctEntry_bd (h.2 x hx)
  unfold ctEntries
  omega
theorem in_any {T : Nat → Nat → Tk} {y : Nat} {i o : Nat} {cs0 : List MC} (h : in1 y (.agg (labRow true (T i) o cs0))) (hp : cs0.all plainC = true := by rfl) : Any T y := by
  obtain ⟨c, hc, h2⟩ := h
  obtain ⟨j, hj⟩ := List.getElem?_of_mem hc
  rw [labRow_get] at hj
  obtain ⟨d, hd, rfl⟩ := Option.map_eq_some_iff.1 hj
  have hpc := List.all_eq_true.1 hp d (List.mem_of_getElem? hd)
  refine ⟨i, o + j, ?_⟩
  cases d <;> first | exact h2.elim | exact h2 | cases hpc
theorem in_dis {N : Bk} {y : Nat} {cs : List MC} (hd : ∀ c ∈ cs, disC N c) (h : in1 y (.agg cs)) : ¬ N y := by
  obtain ⟨c, hc, h2⟩ := h
  have := hd c hc
  cases c <;> first | exact h2.elim | exact this y h2
theorem disAt {N : Bk} {cs : List MC} (hd : ∀ c ∈ cs, disC N c) (j : Nat) {o : Bool} {B : Bk} {u : Value} {rows : List (List MC)} (h : cs[j]? = some (.tr o B u rows)) : ∀ x, B x → ¬ N x := hd _ (List.mem_of_getElem? h)
def ctRun (r : Run) : Int := 2 * (r.reads.length : Int) + 2 * (r.puts.length : Int)
theorem ctRun_bd {e : Entry} (h : e.ok lim) : 0 ≤ ctRun e.run ∧ ctRun e.run ≤ 6000000000000 := by
  have h1 : e.run.reads.length ≤ 1048576 := h.1
  have h2 : e.run.puts.length ≤ 1048576 := h.2
  unfold ctRun; omega
end Mg
