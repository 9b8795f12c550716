/- Parts of the abstract state logic and of the walks, one behind the other: E4, EB, E12, E13, R1R. No condition. -/
import Derived.Test.YtkbjinkjljoeeaaP24
import Derived.Test.YtkbjinkjljoeeaaP15
import Derived.Test.YtkbjinkjljoeeaaP13
import Derived.Test.YtkbjinkjljoeeaaP20
import Derived.Test.YtkbjinkjljoeeaaP21
import Derived.Test.YtkbjinkjljoeeaaP16
import Derived.Test.YtkbjinkjljoeeaaP14
/- Structs, numbered and held. No condition. -/
namespace Mg
open Go Go.RowKit
set_option maxRecDepth 100000
set_option linter.unusedVariables false
set_option linter.unusedSimpArgs false
attribute [local irreducible] W Pure

theorem k_markRun (x : Run) (k : Int) (hk0 : 0 ≤ k) (hk1 : k ≤ 2000000000000000000) (hx : x.ok lim) : TMark PP 77 (.agg x.cells) k (.agg (mkRun x k).cells) (k + 2 * (x.reads.length : Int) + 2 * (x.puts.length : Int)) := by
  have hr : x.reads.length ≤ 1048576 := hx.1
  have hp : x.puts.length ≤ 1048576 := hx.2
  refine TMark.vcS (fun B => [(800001, .row [])]) TTok hmo Go.Proofs.Try.func77 (by kernel_rfl) rfl (by kernel_rfl) rfl (fun B hB => ?_)
  repeat' (first | refine And.intro ?_ ?_ | exact tf | exact ft | refine tt ?_ | refine ff ?_ | exact ⟨trivial⟩ | exact sAll rfl | exact sF1 rfl | exact sBld (by repeat' (first | exact trivial | rfl | exact Nat.le_of_ble_eq_true rfl | refine And.intro ?_ ?_)) rfl | exact sBS (by repeat' (first | exact trivial | rfl | exact Nat.le_of_ble_eq_true rfl | refine And.intro ?_ ?_)) rfl rfl rfl rfl | exact sBSF (by repeat' (first | exact trivial | rfl | exact Nat.le_of_ble_eq_true rfl | refine And.intro ?_ ?_)) rfl rfl rfl rfl | exact sLe rfl | exact Chk.mk (by kernel_rfl) | exact ⟨Chk.mk (by kernel_rfl)⟩ | exact sLeEq rfl rfl | refine fun h => ?_)
  refine W.sub ⟨14, 1, [(0, .agg [.tr true (B 0).B (B 0).u (x.reads.map Two.cells), .tr true (B 1).B (B 1).u (x.puts.map Two.cells), i6 x.c, i6 x.d]), (1, oi k), (2, .one (.ptr 0 0 0))], [(0, .box [.tr true (B 0).B (B 0).u (x.reads.map Two.cells), .tr true (B 1).B (B 1).u (x.puts.map Two.cells), i6 x.c, i6 x.d])]⟩ [] ?_ ?_
  · repeat' (first | exact trivial | exact Side.mk rfl | exact Chk.mk (by kernel_rfl) | exact ⟨Chk.mk (by kernel_rfl)⟩ | refine And.intro ?_ ?_ | rfl)
  have q1 := k_markReadS x.reads (k) (by omega) (by omega) hx.1
  have q2 := tmark_eq (k2 := k + 2 * (x.reads.length : Int)) q1 (by have := ctTwos x.reads; omega)
  refine W.go [(800002, .row []), (8, .mark (fun _ _ => (.one (.fz ((mkTwos x.reads (k)).map Two.cells)), k + 2 * (x.reads.length : Int))) [2] [(0, [(0, 0)])] [0] [(0, 0, 0)])] TTok hmo ?_
  repeat' (first | refine And.intro ?_ ?_ | exact tf | exact ft | refine tt ?_ | refine ff ?_ | exact ⟨trivial⟩ | exact sAll rfl | exact sF1 rfl | exact sBld (by repeat' (first | exact trivial | rfl | exact Nat.le_of_ble_eq_true rfl | refine And.intro ?_ ?_)) rfl | exact sBS (by repeat' (first | exact trivial | rfl | exact Nat.le_of_ble_eq_true rfl | refine And.intro ?_ ?_)) rfl rfl rfl rfl | exact sBSF (by repeat' (first | exact trivial | rfl | exact Nat.le_of_ble_eq_true rfl | refine And.intro ?_ ?_)) rfl rfl rfl rfl | exact sLe rfl | exact Chk.mk (by kernel_rfl) | exact ⟨Chk.mk (by kernel_rfl)⟩ | exact sLeEq rfl rfl | refine fun h => ?_)
  all_goals try (exact ⟨apart_one⟩)
  all_goals try (exact Side.mk q2)
  all_goals try (exact trivial)
  all_goals try (exact Side.mk (.ptr _ _ _))
  all_goals try (repeat' (first | exact trivial | exact Side.mk (.sc _) | exact Side.mk (.mk _ _ _ _ (List.Mem.head _)) | exact Side.mk (.tr _ _ _ _ fun y h1 h2 => absurd (hB _ _ y h1 h2) (by decide)) | refine And.intro ?_ ?_); done)
  refine W.sub ⟨14, 1, [(0, .agg [.tr true (B 0).B (B 0).u ((mkTwos x.reads (k)).map Two.cells), .tr true (B 1).B (B 1).u (x.puts.map Two.cells), i6 x.c, i6 x.d]), (1, oi (k + 2 * (x.reads.length : Int))), (2, .one (.ptr 0 0 0))], [(0, .box [.tr true (B 0).B (B 0).u ((mkTwos x.reads (k)).map Two.cells), .tr true (B 1).B (B 1).u (x.puts.map Two.cells), i6 x.c, i6 x.d])]⟩ [] ?_ ?_
  · repeat' (first | exact trivial | exact Side.mk rfl | exact Chk.mk (by kernel_rfl) | exact ⟨Chk.mk (by kernel_rfl)⟩ | exact ⟨by omega⟩ | refine And.intro ?_ ?_ | rfl)
  have q1 := k_markPutS x.puts (k + 2 * (x.reads.length : Int)) (by omega) (by omega) hx.2
  have q2 := tmark_eq (k2 := k + 2 * (x.reads.length : Int) + 2 * (x.puts.length : Int)) q1 (by have := ctTwos x.puts; omega)
  refine W.go [(12, .mark (fun _ _ => (.one (.fz ((mkTwos x.puts (k + 2 * (x.reads.length : Int))).map Two.cells)), k + 2 * (x.reads.length : Int) + 2 * (x.puts.length : Int))) [2] [(0, [(1, 0)])] [0] [(0, 0, 1)])] TTok hmo ?_
  repeat' (first | refine And.intro ?_ ?_ | exact tf | exact ft | refine tt ?_ | refine ff ?_ | exact ⟨trivial⟩ | exact sAll rfl | exact sF1 rfl | exact sBld (by repeat' (first | exact trivial | rfl | exact Nat.le_of_ble_eq_true rfl | refine And.intro ?_ ?_)) rfl | exact sBS (by repeat' (first | exact trivial | rfl | exact Nat.le_of_ble_eq_true rfl | refine And.intro ?_ ?_)) rfl rfl rfl rfl | exact sBSF (by repeat' (first | exact trivial | rfl | exact Nat.le_of_ble_eq_true rfl | refine And.intro ?_ ?_)) rfl rfl rfl rfl | exact sLe rfl | exact Chk.mk (by kernel_rfl) | exact ⟨Chk.mk (by kernel_rfl)⟩ | exact sLeEq rfl rfl | refine fun h => ?_)
  all_goals try (exact ⟨apart_one⟩)
  all_goals try (exact Side.mk q2)
  all_goals try (exact trivial)
  all_goals try (exact Side.mk (.ptr _ _ _))
  all_goals try (repeat' (first | exact trivial | exact Side.mk (.sc _) | exact Side.mk (.mk _ _ _ _ (List.Mem.head _)) | exact Side.mk (.tr _ _ _ _ fun y h1 h2 => absurd (hB _ _ y h1 h2) (by decide)) | refine And.intro ?_ ?_); done)
  all_goals first | exact ⟨⟨trivial, trivial⟩⟩ | exact ⟨rfl⟩ | exact ⟨trivial⟩ | exact ⟨by repeat' constructor⟩

theorem k_markEntry (x : Entry) (k : Int) (hk0 : 0 ≤ k) (hk1 : k ≤ 2000000000000000000) (hx : x.ok lim) : TMark PP 33 (.agg x.cells) k (.agg (mkRunE x k).cells) (k + 2 * (x.run.reads.length : Int) + 2 * (x.run.puts.length : Int)) := by
  refine TMark.vcS (fun B => [(800001, .row [])]) TTok hmo Go.Proofs.Try.func33 (by kernel_rfl) rfl (by kernel_rfl) rfl (fun B hB => ?_)
  repeat' (first | refine And.intro ?_ ?_ | exact tf | exact ft | refine tt ?_ | refine ff ?_ | exact ⟨trivial⟩ | exact sAll rfl | exact sF1 rfl | exact sBld (by repeat' (first | exact trivial | rfl | exact Nat.le_of_ble_eq_true rfl | refine And.intro ?_ ?_)) rfl | exact sBS (by repeat' (first | exact trivial | rfl | exact Nat.le_of_ble_eq_true rfl | refine And.intro ?_ ?_)) rfl rfl rfl rfl | exact sBSF (by repeat' (first | exact trivial | rfl | exact Nat.le_of_ble_eq_true rfl | refine And.intro ?_ ?_)) rfl rfl rfl rfl | exact sLe rfl | exact Chk.mk (by kernel_rfl) | exact ⟨Chk.mk (by kernel_rfl)⟩ | exact sLeEq rfl rfl | refine fun h => ?_)
  refine W.sub ⟨10, 1, [(0, .agg [bo x.none, i6 x.q.a, i6 x.q.b, .tr true (B 3).B (B 3).u (x.run.reads.map Two.cells), .tr true (B 4).B (B 4).u (x.run.puts.map Two.cells), i6 x.run.c, i6 x.run.d]), (1, oi k), (2, .one (.ptr 0 0 0))], [(0, .box [bo x.none, i6 x.q.a, i6 x.q.b, .tr true (B 3).B (B 3).u (x.run.reads.map Two.cells), .tr true (B 4).B (B 4).u (x.run.puts.map Two.cells), i6 x.run.c, i6 x.run.d])]⟩ [] ?_ ?_
  · repeat' (first | exact trivial | exact Side.mk rfl | exact Chk.mk (by kernel_rfl) | exact ⟨Chk.mk (by kernel_rfl)⟩ | refine And.intro ?_ ?_ | rfl)
  have q1 := k_markRun x.run (k) (by omega) (by omega) hx
  have q2 := tmark_eq (k2 := k + 2 * (x.run.reads.length : Int) + 2 * (x.run.puts.length : Int)) q1 (by omega)
  refine W.go [(8, .mark (fun _ _ => (.agg [.fz ((mkTwos x.run.reads (k)).map Two.cells), .fz ((mkTwos x.run.puts (k + 2 * (x.run.reads.length : Int))).map Two.cells), i6 x.run.c, i6 x.run.d], k + 2 * (x.run.reads.length : Int) + 2 * (x.run.puts.length : Int))) [2] [(0, [(3, 0), (4, 1)])] [0] [(0, 0, 3), (0, 1, 4)])] TTok hmo ?_
  repeat' (first | refine And.intro ?_ ?_ | exact tf | exact ft | refine tt ?_ | refine ff ?_ | exact ⟨trivial⟩ | exact sAll rfl | exact sF1 rfl | exact sBld (by repeat' (first | exact trivial | rfl | exact Nat.le_of_ble_eq_true rfl | refine And.intro ?_ ?_)) rfl | exact sBS (by repeat' (first | exact trivial | rfl | exact Nat.le_of_ble_eq_true rfl | refine And.intro ?_ ?_)) rfl rfl rfl rfl | exact sBSF (by repeat' (first | exact trivial | rfl | exact Nat.le_of_ble_eq_true rfl | refine And.intro ?_ ?_)) rfl rfl rfl rfl | exact sLe rfl | exact Chk.mk (by kernel_rfl) | exact ⟨Chk.mk (by kernel_rfl)⟩ | exact sLeEq rfl rfl | refine fun h => ?_)
  all_goals try (exact ⟨apart_row (B := B) (o := 3) hB (cs0 := [.fz (x.run.reads.map Two.cells), .fz (x.run.puts.map Two.cells), i6 x.run.c, i6 x.run.d])⟩)
  all_goals try (exact Side.mk q2)
  all_goals try (exact trivial)
  all_goals try (exact Side.mk (.ptr _ _ _))
  all_goals try (repeat' (first | exact trivial | exact Side.mk (.sc _) | exact Side.mk (.mk _ _ _ _ (List.Mem.head _)) | exact Side.mk (.mk _ _ _ _ (List.Mem.tail _ (List.Mem.head _))) | exact Side.mk (.tr _ _ _ _ fun y h1 h2 => nin_row (o := 3) hB h1 rfl (cs0 := [.fz (x.run.reads.map Two.cells), .fz (x.run.puts.map Two.cells), i6 x.run.c, i6 x.run.d]) h2) | refine And.intro ?_ ?_); done)
  all_goals first | exact ⟨⟨trivial, trivial⟩⟩ | exact ⟨rfl⟩ | exact ⟨trivial⟩ | exact ⟨by repeat' constructor⟩

theorem k_markAcc (x : Acc) (k : Int) (hk0 : 0 ≤ k) (hk1 : k ≤ 2000000000000000000) (hx : x.ok lim) : TMark PP 26 (.agg x.cells) k (.agg (mkAcc x k).cells) (k + ctVotes x.votes) := by
  refine TMark.vcS (fun B => [(800001, .row [])]) TTok hmo Go.Proofs.Try.func26 (by kernel_rfl) rfl (by kernel_rfl) rfl (fun B hB => ?_)
  repeat' (first | refine And.intro ?_ ?_ | exact tf | exact ft | refine tt ?_ | refine ff ?_ | exact ⟨trivial⟩ | exact sAll rfl | exact sF1 rfl | exact sBld (by repeat' (first | exact trivial | rfl | exact Nat.le_of_ble_eq_true rfl | refine And.intro ?_ ?_)) rfl | exact sBS (by repeat' (first | exact trivial | rfl | exact Nat.le_of_ble_eq_true rfl | refine And.intro ?_ ?_)) rfl rfl rfl rfl | exact sBSF (by repeat' (first | exact trivial | rfl | exact Nat.le_of_ble_eq_true rfl | refine And.intro ?_ ?_)) rfl rfl rfl rfl | exact sLe rfl | exact Chk.mk (by kernel_rfl) | exact ⟨Chk.mk (by kernel_rfl)⟩ | exact sLeEq rfl rfl | refine fun h => ?_)
  refine W.sub ⟨10, 1, [(0, .agg [i6 x.p, .tr true (B 1).B (B 1).u (x.votes.map Vote.cells)]), (1, oi k), (2, .one (.ptr 0 0 0))], [(0, .box [i6 x.p, .tr true (B 1).B (B 1).u (x.votes.map Vote.cells)])]⟩ [] ?_ ?_
  · repeat' (first | exact trivial | exact Side.mk rfl | exact Chk.mk (by kernel_rfl) | exact ⟨Chk.mk (by kernel_rfl)⟩ | refine And.intro ?_ ?_ | rfl)
  have q1 := k_markVoteS x.votes (k) (by omega) (by omega) hx.1 hx.2
  have q2 := tmark_eq (k2 := k + ctVotes x.votes) q1 (by rfl)
  refine W.go [(8, .mark (fun _ _ => (.one (.fz ((mkVotes x.votes (k)).map Vote.cells)), k + ctVotes x.votes)) [2] [(0, [(1, 0)])] [0] [(0, 0, 1)])] TTok hmo ?_
  repeat' (first | refine And.intro ?_ ?_ | exact tf | exact ft | refine tt ?_ | refine ff ?_ | exact ⟨trivial⟩ | exact sAll rfl | exact sF1 rfl | exact sBld (by repeat' (first | exact trivial | rfl | exact Nat.le_of_ble_eq_true rfl | refine And.intro ?_ ?_)) rfl | exact sBS (by repeat' (first | exact trivial | rfl | exact Nat.le_of_ble_eq_true rfl | refine And.intro ?_ ?_)) rfl rfl rfl rfl | exact sBSF (by repeat' (first | exact trivial | rfl | exact Nat.le_of_ble_eq_true rfl | refine And.intro ?_ ?_)) rfl rfl rfl rfl | exact sLe rfl | exact Chk.mk (by kernel_rfl) | exact ⟨Chk.mk (by kernel_rfl)⟩ | exact sLeEq rfl rfl | refine fun h => ?_)
  all_goals try (exact ⟨apart_one⟩)
  all_goals try (exact Side.mk q2)
  all_goals try (exact trivial)
  all_goals try (exact Side.mk (.ptr _ _ _))
  all_goals try (repeat' (first | exact trivial | exact Side.mk (.sc _) | exact Side.mk (.mk _ _ _ _ (List.Mem.head _)) | exact Side.mk (.tr _ _ _ _ fun y h1 h2 => absurd (hB _ _ y h1 h2) (by decide)) | refine And.intro ?_ ?_); done)
  all_goals first | exact ⟨⟨trivial, trivial⟩⟩ | exact ⟨rfl⟩ | exact ⟨trivial⟩ | exact ⟨by repeat' constructor⟩

theorem h_heldRun (x : Run) (k : Int) (hk0 : 0 ≤ k) (hk1 : k ≤ 2000000000000000000) (hx : x.ok lim) : Pure PP false 102 [.agg (mkRun x k).cells, oi k] (oi (k + 2 * (x.reads.length : Int) + 2 * (x.puts.length : Int))) := by
  have hr : x.reads.length ≤ 1048576 := hx.1
  have hp : x.puts.length ≤ 1048576 := hx.2
  have q0 := pure_eq (k2 := k + 2 * (x.reads.length : Int)) (h_heldReadS x.reads k (by omega) (by omega) hx.1) (by have := ctTwos x.reads; omega)
  have q1 := pure_eq (k2 := k + 2 * (x.reads.length : Int) + 2 * (x.puts.length : Int)) (h_heldPutS x.puts (k + 2 * (x.reads.length : Int)) (by omega) (by omega) hx.2) (by have := ctTwos x.puts; omega)
  refine Pure.vc [(8, .res (oi (k + 2 * (x.reads.length : Int)))), (14, .res (oi (k + 2 * (x.reads.length : Int) + 2 * (x.puts.length : Int))))] TTok hmo Go.Proofs.Try.func102 (by kernel_rfl) rfl (by kernel_rfl) ?_
  repeat' (first | refine And.intro ?_ ?_ | exact tf | exact ft | refine tt ?_ | refine ff ?_ | exact ⟨trivial⟩ | exact sAll rfl | exact sF1 rfl | exact sBld (by repeat' (first | exact trivial | rfl | exact Nat.le_of_ble_eq_true rfl | refine And.intro ?_ ?_)) rfl | exact sBS (by repeat' (first | exact trivial | rfl | exact Nat.le_of_ble_eq_true rfl | refine And.intro ?_ ?_)) rfl rfl rfl rfl | exact sBSF (by repeat' (first | exact trivial | rfl | exact Nat.le_of_ble_eq_true rfl | refine And.intro ?_ ?_)) rfl rfl rfl rfl | exact sLe rfl | exact Chk.mk (by kernel_rfl) | exact ⟨Chk.mk (by kernel_rfl)⟩ | exact sLeEq rfl rfl | exact sAnd (by repeat' constructor) (q0) | exact sAnd (by repeat' constructor) (q1) | refine fun h => ?_)
  all_goals try (exfalso; have h3 := of_decide_eq_true h; omega)
  all_goals exact ⟨by repeat' constructor, rfl, trivial⟩

theorem h_heldEntry (x : Entry) (k : Int) (hk0 : 0 ≤ k) (hk1 : k ≤ 2000000000000000000) (hx : x.ok lim) : Pure PP false 52 [.agg (mkRunE x k).cells, oi k] (oi (k + 2 * (x.run.reads.length : Int) + 2 * (x.run.puts.length : Int))) := by
  have hr : x.run.reads.length ≤ 1048576 := hx.1
  have hp : x.run.puts.length ≤ 1048576 := hx.2
  have q0 := pure_eq (k2 := k + 2 * (x.run.reads.length : Int) + 2 * (x.run.puts.length : Int)) (h_heldRun x.run k (by omega) (by omega) hx) (by rfl)
  refine Pure.vc [(8, .res (oi (k + 2 * (x.run.reads.length : Int) + 2 * (x.run.puts.length : Int))))] TTok hmo Go.Proofs.Try.func52 (by kernel_rfl) rfl (by kernel_rfl) ?_
  repeat' (first | refine And.intro ?_ ?_ | exact tf | exact ft | refine tt ?_ | refine ff ?_ | exact ⟨trivial⟩ | exact sAll rfl | exact sF1 rfl | exact sBld (by repeat' (first | exact trivial | rfl | exact Nat.le_of_ble_eq_true rfl | refine And.intro ?_ ?_)) rfl | exact sBS (by repeat' (first | exact trivial | rfl | exact Nat.le_of_ble_eq_true rfl | refine And.intro ?_ ?_)) rfl rfl rfl rfl | exact sBSF (by repeat' (first | exact trivial | rfl | exact Nat.le_of_ble_eq_true rfl | refine And.intro ?_ ?_)) rfl rfl rfl rfl | exact sLe rfl | exact Chk.mk (by kernel_rfl) | exact ⟨Chk.mk (by kernel_rfl)⟩ | exact sLeEq rfl rfl | exact sAnd (by repeat' constructor) (q0) | refine fun h => ?_)
  all_goals try (exfalso; have h3 := of_decide_eq_true h; omega)
  all_goals exact ⟨by repeat' constructor, rfl, trivial⟩

theorem h_heldAcc (x : Acc) (k : Int) (hk0 : 0 ≤ k) (hk1 : k ≤ 2000000000000000000) (hx : x.ok lim) : Pure PP false 27 [.agg (mkAcc x k).cells, oi k] (oi (k + ctVotes x.votes)) := by
  have h0 := ctL_bd (fun v hv => ctVote_bd (hx.2 v hv)) |>.1
  have h1 : 0 ≤ ctVotes x.votes := h0
  have q0 := pure_eq (k2 := k + ctVotes x.votes) (h_heldVoteS x.votes k (by omega) (by omega) hx.1 hx.2) (by rfl)
  refine Pure.vc [(8, .res (oi (k + ctVotes x.votes)))] TTok hmo Go.Proofs.Try.func27 (by kernel_rfl) rfl (by kernel_rfl) ?_
  repeat' (first | refine And.intro ?_ ?_ | exact tf | exact ft | refine tt ?_ | refine ff ?_ | exact ⟨trivial⟩ | exact sAll rfl | exact sF1 rfl | exact sBld (by repeat' (first | exact trivial | rfl | exact Nat.le_of_ble_eq_true rfl | refine And.intro ?_ ?_)) rfl | exact sBS (by repeat' (first | exact trivial | rfl | exact Nat.le_of_ble_eq_true rfl | refine And.intro ?_ ?_)) rfl rfl rfl rfl | exact sBSF (by repeat' (first | exact trivial | rfl | exact Nat.le_of_ble_eq_true rfl | refine And.intro ?_ ?_)) rfl rfl rfl rfl | exact sLe rfl | exact Chk.mk (by kernel_rfl) | exact ⟨Chk.mk (by kernel_rfl)⟩ | exact sLeEq rfl rfl | exact sAnd (by repeat' constructor) (q0) | refine fun h => ?_)
  all_goals try (exfalso; have h3 := of_decide_eq_true h; omega)
  all_goals exact ⟨by repeat' constructor, rfl, trivial⟩

end Mg

/- How much there is to number; blocks apart. No condition. -/
namespace Mg
open Go Go.RowKit
set_option linter.unusedVariables false
theorem ctVotes_bd {vs : List Vote} (hl : vs.length ≤ lim) (h : ∀ v ∈ vs, v.ok lim) : 0 ≤ ctVotes vs ∧ ctVotes vs ≤ 6000000000000 := by
  have hl : vs.length ≤ 1048576 := hl
  have := ctL_bd (ct := ctVote) (M := 5000001) (xs := vs) fun x hx => ctVote_bd (h x hx)
  unfold ctVotes
  omega
theorem ctEntries_bd {vs : List Entry} (h : EntriesOk lim vs) : 0 ≤ ctEntries vs ∧ ctEntries vs ≤ 6000000000000 := by
  have hl : vs.length ≤ 1048576 := h.1
  have := ctL_bd (ct := ctEntry) (M := 5000000) (xs := vs) fun x hx => ctEntry_bd (h.2 x hx)
  unfold ctEntries
  omega
theorem in_any {T : Nat → Nat → Tk} {y : Nat} {i o : Nat} {cs0 : List MC} (h : in1 y (.agg (labRow true (T i) o cs0))) (hp : cs0.all plainC = true := by rfl) : Any T y := by
  obtain ⟨c, hc, h2⟩ := h
  obtain ⟨j, hj⟩ := List.getElem?_of_mem hc
  rw [labRow_get] at hj
  obtain ⟨d, hd, rfl⟩ := Option.map_eq_some_iff.1 hj
  have hpc := List.all_eq_true.1 hp d (List.mem_of_getElem? hd)
  refine ⟨i, o + j, ?_⟩
  cases d <;> first | exact h2.elim | exact h2 | cases hpc
theorem in_dis {N : Bk} {y : Nat} {cs : List MC} (hd : ∀ c ∈ cs, disC N c) (h : in1 y (.agg cs)) : ¬ N y := by
  obtain ⟨c, hc, h2⟩ := h
  have := hd c hc
  cases c <;> first | exact h2.elim | exact this y h2
theorem disAt {N : Bk} {cs : List MC} (hd : ∀ c ∈ cs, disC N c) (j : Nat) {o : Bool} {B : Bk} {u : Value} {rows : List (List MC)} (h : cs[j]? = some (.tr o B u rows)) : ∀ x, B x → ¬ N x := hd _ (List.mem_of_getElem? h)
def ctRun (r : Run) : Int := 2 * (r.reads.length : Int) + 2 * (r.puts.length : Int)
theorem ctRun_bd {e : Entry} (h : e.ok lim) : 0 ≤ ctRun e.run ∧ ctRun e.run ≤ 6000000000000 := by
  have h1 : e.run.reads.length ≤ 1048576 := h.1
  have h2 : e.run.puts.length ≤ 1048576 := h.2
  unfold ctRun; omega
end Mg

/- The law of promises, walked. No condition. -/
namespace Mg
open Go Go.RowKit
set_option maxRecDepth 100000
set_option linter.unusedVariables false
set_option linter.unusedSimpArgs false
attribute [local irreducible] W Pure Con TPure TMark
set_option maxHeartbeats 4000000 in
theorem c_FnExactAccPromise (a : Acc) (ha : a.ok maxLen) (b : Int) : Pure PP false 5 [.agg a.cells, oi b] (ob true) := by
  by_cases h1 : szAcc a 1048576 < 0
  · refine Pure.vc [(18, .res (oi (szAcc a 1048576)))] TTok hmo Go.Proofs.Try.func5 (by kernel_rfl) rfl (by kernel_rfl) ?_
    repeat' (first | refine And.intro ?_ ?_ | exact tf | exact ft | refine tt ?_ | refine ff ?_ | exact fun h => absurd h1 (of_decide_eq_false h) | exact ⟨trivial⟩ | exact sAll rfl | exact sF1 rfl | exact sBld (by repeat' (first | exact trivial | rfl | exact Nat.le_of_ble_eq_true rfl | refine And.intro ?_ ?_)) rfl | exact sBS (by repeat' (first | exact trivial | rfl | exact Nat.le_of_ble_eq_true rfl | refine And.intro ?_ ?_)) rfl rfl rfl rfl | exact sBSF (by repeat' (first | exact trivial | rfl | exact Nat.le_of_ble_eq_true rfl | refine And.intro ?_ ?_)) rfl rfl rfl rfl | exact sLe rfl | exact Chk.mk (by kernel_rfl) | exact ⟨Chk.mk (by kernel_rfl)⟩ | exact sLeEq rfl rfl | exact sAnd (by repeat' constructor) (c_szAcc _ _ (by decide) (by decide) ha) | refine fun h => ?_)
    all_goals (refine ⟨?_⟩; simp)
  have oa : a.ok lim := szAcc_ok (l := 1048576) (by decide) (by omega)
  have op : (accPromise a b).1.ok lim := accPromise_ok oa
  have cS := q_spec_AccPromise a oa b
  have cT := t_AccPromise a oa b
  have cQ := c_AccPromiseQ a oa b
  generalize accPromise a b = pr at *
  obtain ⟨r, ok⟩ := pr
  have ha0 := ctVotes_bd oa.1 oa.2
  dsimp only at op
  have hr0 := ctVotes_bd op.1 op.2
  refine Law.vc [(18, .res (oi (szAcc a 1048576))), (23, .res (.agg a.cells)), (25, .con false [] [] [] (fun _ _ => fAcc r ok)), (800006, .row [])] TTok hmo Go.Proofs.Try.func5 (by kernel_rfl) rfl (by kernel_rfl) rfl (fun A U => ?_)
  repeat' (first | refine And.intro ?_ ?_ | exact tf | exact ft | refine tt ?_ | refine ff ?_ | exact ⟨trivial⟩ | exact sAll rfl | exact sF1 rfl | exact sBld (by repeat' (first | exact trivial | rfl | exact Nat.le_of_ble_eq_true rfl | refine And.intro ?_ ?_)) rfl | exact sBS (by repeat' (first | exact trivial | rfl | exact Nat.le_of_ble_eq_true rfl | refine And.intro ?_ ?_)) rfl rfl rfl rfl | exact sBSF (by repeat' (first | exact trivial | rfl | exact Nat.le_of_ble_eq_true rfl | refine And.intro ?_ ?_)) rfl rfl rfl rfl | exact sLe rfl | exact Chk.mk (by kernel_rfl) | exact ⟨Chk.mk (by kernel_rfl)⟩ | exact sLeEq rfl rfl | exact sAnd (by repeat' constructor) (c_szAcc _ _ (by decide) (by decide) ha) | exact sAnd (by repeat' constructor) (c_toAcc _ oa) | refine fun h => ?_)
  all_goals try (exfalso; exact h1 (of_decide_eq_true h))
  all_goals try (exact Side.mk cS)
  all_goals try (exact Side.mk fun _ _ => trivial)
  refine W.tellB 1 1 rfl (fun B w => ?_)
  refine W.go [(29, .tre true (fun _ => .agg a.cells)), (33, .tre true (fun _ => qAcc (r, ok))), (38, .res (ob (decide (r = r)))), (47, .res (.agg a.cells)), (48, .res (ob (decide (a = a)))), (800012, .row [])] TTok hmo ?_
  repeat' (first | refine And.intro ?_ ?_ | exact tf | exact ft | refine tt ?_ | refine ff ?_ | exact ⟨trivial⟩ | exact sAll rfl | exact sF1 rfl | exact sBld (by repeat' (first | exact trivial | rfl | exact Nat.le_of_ble_eq_true rfl | refine And.intro ?_ ?_)) rfl | exact sBS (by repeat' (first | exact trivial | rfl | exact Nat.le_of_ble_eq_true rfl | refine And.intro ?_ ?_)) rfl rfl rfl rfl | exact sBSF (by repeat' (first | exact trivial | rfl | exact Nat.le_of_ble_eq_true rfl | refine And.intro ?_ ?_)) rfl rfl rfl rfl | exact sLe rfl | exact Chk.mk (by kernel_rfl) | exact ⟨Chk.mk (by kernel_rfl)⟩ | exact sLeEq rfl rfl | exact sAnd (by repeat' constructor) (c_toAcc _ oa) | exact sAnd (by repeat' constructor) (c_eqAcc _ _ oa oa) | exact sAnd (by repeat' constructor) (c_eqAcc _ _ op op) | refine fun h => ?_)
  all_goals try (exfalso; simp_all; done)
  all_goals try (exact Side.mk (t_toAcc a oa))
  all_goals try (exact Side.mk cT)
  all_goals try (exact Side.mk (by repeat' constructor))
  rename_i T1 hT1 D1 T2 hT2 D2 e1 e2
  refine W.sub ⟨101, 4, [(1, oi b), (2, .one (.ptr 0 0 0)), (6, .one (.ptr 1 0 0)), (7, ob ok), (8, .one (.ptr 2 0 0)), (9, .one (.ptr 3 0 0)), (10, ob ok)],
    [(0, .box [i6 a.p, .tr false A (U 0 1) (a.votes.map Vote.cells)]), (1, .box [i6 r.p, .tr false B w (r.votes.map Vote.cells)]), (2, .box [i6 a.p, .tr true (T1 0 1).B (T1 0 1).u (a.votes.map Vote.cells)]), (3, .box [i6 r.p, .tr true (T2 0 1).B (T2 0 1).u (r.votes.map Vote.cells)])]⟩ [] ?_ ?_
  · repeat' (first | exact trivial | exact ⟨trivial⟩ | exact Side.mk rfl | exact sF1 rfl | exact Chk.mk (by kernel_rfl) | exact ⟨Chk.mk (by kernel_rfl)⟩ | refine And.intro ?_ ?_ | rfl)
  refine W.go [(52, .mark (fun _ _ => (.agg (mkAcc a 1).cells, 1 + ctVotes a.votes)) [1, 2, 6, 7, 8, 9, 10] [] [0, 1, 2, 3] [(2, 1, 1)]), (58, .res (ob (decide (r = r)))), (800016, .row [])] TTok hmo ?_
  repeat' (first | refine And.intro ?_ ?_ | exact tf | exact ft | refine tt ?_ | refine ff ?_ | exact ⟨trivial⟩ | exact sAll rfl | exact sF1 rfl | exact sBld (by repeat' (first | exact trivial | rfl | exact Nat.le_of_ble_eq_true rfl | refine And.intro ?_ ?_)) rfl | exact sBS (by repeat' (first | exact trivial | rfl | exact Nat.le_of_ble_eq_true rfl | refine And.intro ?_ ?_)) rfl rfl rfl rfl | exact sBSF (by repeat' (first | exact trivial | rfl | exact Nat.le_of_ble_eq_true rfl | refine And.intro ?_ ?_)) rfl rfl rfl rfl | exact sLe rfl | exact Chk.mk (by kernel_rfl) | exact ⟨Chk.mk (by kernel_rfl)⟩ | exact sLeEq rfl rfl | exact sAnd (by repeat' constructor) (c_eqAcc _ _ op op) | refine fun h => ?_)
  all_goals try (exfalso; simp_all; done)
  all_goals try (exact ⟨apart_row (B := T1 0) (o := 0) (fun j j' x r1 r2 => (hT1 0 j 0 j' x r1 r2).2) (cs0 := a.cells)⟩)
  all_goals try (exact Side.mk (k_markAcc a 1 (by decide) (by decide) oa))
  all_goals try (exact trivial)
  all_goals try (exact Side.mk (.ptr _ _ _))
  all_goals try (repeat' (first | exact trivial | exact Side.mk (.sc _) | exact Side.mk (.mk _ _ _ _ (List.Mem.tail _ (List.Mem.head _))) | exact Side.mk (.tr _ _ _ _ fun y h1 h2 => (D1.st 0 _ rfl _ (List.Mem.tail _ (List.Mem.head _))) y h1 (in_any (T := T1) (i := 0) (o := 0) (cs0 := a.cells) h2)) | exact Side.mk (.tr _ _ _ _ fun y h1 h2 => (D1.st 1 _ rfl _ (List.Mem.tail _ (List.Mem.head _))) y h1 (in_any (T := T1) (i := 0) (o := 0) (cs0 := a.cells) h2)) | exact Side.mk (.tr _ _ _ _ fun y h1 h2 => absurd (show Any T2 y from ⟨0, 1, h1⟩) (in_dis (D2.st 2 _ rfl) h2)) | refine And.intro ?_ ?_); done)
  all_goals try (exfalso; have h3 := of_decide_eq_true h; (try dsimp only at h3); omega)
  refine W.sub ⟨101, 4, [(1, oi b), (2, .one (.ptr 0 0 0)), (6, .one (.ptr 1 0 0)), (7, ob ok), (9, .one (.ptr 3 0 0)), (10, ob ok)],
    [(0, .box [i6 a.p, .tr false A (U 0 1) (a.votes.map Vote.cells)]), (1, .box [i6 r.p, .tr false B w (r.votes.map Vote.cells)]), (3, .box [i6 r.p, .tr true (T2 0 1).B (T2 0 1).u (r.votes.map Vote.cells)])]⟩ [] ?_ ?_
  · repeat' (first | exact trivial | exact ⟨trivial⟩ | exact Side.mk rfl | exact sF1 rfl | exact Chk.mk (by kernel_rfl) | exact ⟨Chk.mk (by kernel_rfl)⟩ | refine And.intro ?_ ?_ | rfl)
  refine W.go [(68, .mark (fun _ _ => (.agg (mkAcc r 1).cells, 1 + ctVotes r.votes)) [1, 2, 6, 7, 9, 10] [] [0, 1, 3] [(3, 1, 1)]), (71, .res (oi (1 + ctVotes r.votes))), (79, .res (.agg a.cells)), (81, .res (qAcc (r, ok))), (86, .res (ob (decide (r = r)))), (95, .res (oi (1 + ctVotes r.votes)))] TTok hmo ?_
  repeat' (first | refine And.intro ?_ ?_ | exact tf | exact ft | refine tt ?_ | refine ff ?_ | exact ⟨trivial⟩ | exact sAll rfl | exact sF1 rfl | exact sBld (by repeat' (first | exact trivial | rfl | exact Nat.le_of_ble_eq_true rfl | refine And.intro ?_ ?_)) rfl | exact sBS (by repeat' (first | exact trivial | rfl | exact Nat.le_of_ble_eq_true rfl | refine And.intro ?_ ?_)) rfl rfl rfl rfl | exact sBSF (by repeat' (first | exact trivial | rfl | exact Nat.le_of_ble_eq_true rfl | refine And.intro ?_ ?_)) rfl rfl rfl rfl | exact sLe rfl | exact Chk.mk (by kernel_rfl) | exact ⟨Chk.mk (by kernel_rfl)⟩ | exact sLeEq rfl rfl | exact sAnd (by repeat' constructor) (c_toAcc _ oa) | exact sAnd (by repeat' constructor) (c_eqAcc _ _ op op) | exact sAnd (by repeat' constructor) (cQ) | exact sAnd (by repeat' constructor) (h_heldAcc r 1 (by decide) (by decide) op) | refine fun h => ?_)
  all_goals try (exfalso; simp_all; done)
  all_goals try (exact ⟨apart_row (B := T2 0) (o := 0) (fun j j' x r1 r2 => (hT2 0 j 0 j' x r1 r2).2) (cs0 := r.cells)⟩)
  all_goals try (exact Side.mk (k_markAcc r 1 (by decide) (by decide) op))
  all_goals try (exact trivial)
  all_goals try (exact Side.mk (.ptr _ _ _))
  all_goals try (repeat' (first | exact trivial | exact Side.mk (.sc _) | exact Side.mk (.mk _ _ _ _ (List.Mem.tail _ (List.Mem.head _))) | exact Side.mk (.tr _ _ _ _ fun y h1 h2 => (D2.st 0 _ rfl _ (List.Mem.tail _ (List.Mem.head _))) y h1 (in_any (T := T2) (i := 0) (o := 0) (cs0 := r.cells) h2)) | exact Side.mk (.tr _ _ _ _ fun y h1 h2 => (D2.st 1 _ rfl _ (List.Mem.tail _ (List.Mem.head _))) y h1 (in_any (T := T2) (i := 0) (o := 0) (cs0 := r.cells) h2)) | refine And.intro ?_ ?_); done)
  all_goals try (exfalso; have h3 := of_decide_eq_true h; (try dsimp only at h3); omega)
  all_goals (refine ⟨?_⟩; simp)
end Mg

/- The law of votes, walked. No condition. -/
namespace Mg
open Go Go.RowKit
set_option maxRecDepth 100000
set_option linter.unusedVariables false
set_option linter.unusedSimpArgs false
attribute [local irreducible] W Pure Con TPure TMark
set_option maxHeartbeats 8000000 in
theorem c_FnExactAccVote (a : Acc) (ha : a.ok maxLen) (b sl : Int) (e : Entry) (he : e.ok maxLen) : Pure PP false 6 [.agg a.cells, oi b, oi sl, .agg e.cells] (ob true) := by
  by_cases h1 : szAcc a 1048576 < 0
  · refine Pure.vc [(23, .res (oi (szAcc a 1048576)))] TTok hmo Go.Proofs.Try.func6 (by kernel_rfl) rfl (by kernel_rfl) ?_
    repeat' (first | refine And.intro ?_ ?_ | exact tf | exact ft | refine tt ?_ | refine ff ?_ | exact fun h => absurd h1 (of_decide_eq_false h) | exact ⟨trivial⟩ | exact sAll rfl | exact sF1 rfl | exact sBld (by repeat' (first | exact trivial | rfl | exact Nat.le_of_ble_eq_true rfl | refine And.intro ?_ ?_)) rfl | exact sBS (by repeat' (first | exact trivial | rfl | exact Nat.le_of_ble_eq_true rfl | refine And.intro ?_ ?_)) rfl rfl rfl rfl | exact sBSF (by repeat' (first | exact trivial | rfl | exact Nat.le_of_ble_eq_true rfl | refine And.intro ?_ ?_)) rfl rfl rfl rfl | exact sLe rfl | exact Chk.mk (by kernel_rfl) | exact ⟨Chk.mk (by kernel_rfl)⟩ | exact sLeEq rfl rfl | exact sAnd (by repeat' constructor) (c_szAcc _ _ (by decide) (by decide) ha) | refine fun h => ?_)
    all_goals (refine ⟨?_⟩; simp)
  have oa : a.ok lim := szAcc_ok (l := 1048576) (by decide) (by omega)
  have hl : szAcc a 1048576 ≤ lim := szAcc_le (by decide)
  have cs := c_szAcc a 1048576 (by decide) (by decide) ha
  generalize szAcc a 1048576 = l at *
  have cz := c_szEntry e l (by omega) hl he
  by_cases h2 : szEntry e l < 0
  · refine Pure.vc [(23, .res (oi l)), (28, .res (oi (szEntry e l)))] TTok hmo Go.Proofs.Try.func6 (by kernel_rfl) rfl (by kernel_rfl) ?_
    repeat' (first | refine And.intro ?_ ?_ | exact tf | exact ft | refine tt ?_ | refine ff ?_ | exact fun h => absurd (of_decide_eq_true h) h1 | exact fun h => absurd h2 (of_decide_eq_false h) | exact ⟨trivial⟩ | exact sAll rfl | exact sF1 rfl | exact sBld (by repeat' (first | exact trivial | rfl | exact Nat.le_of_ble_eq_true rfl | refine And.intro ?_ ?_)) rfl | exact sBS (by repeat' (first | exact trivial | rfl | exact Nat.le_of_ble_eq_true rfl | refine And.intro ?_ ?_)) rfl rfl rfl rfl | exact sBSF (by repeat' (first | exact trivial | rfl | exact Nat.le_of_ble_eq_true rfl | refine And.intro ?_ ?_)) rfl rfl rfl rfl | exact sLe rfl | exact Chk.mk (by kernel_rfl) | exact ⟨Chk.mk (by kernel_rfl)⟩ | exact sLeEq rfl rfl | exact sAnd (by repeat' constructor) (cs) | exact sAnd (by repeat' constructor) (cz) | refine fun h => ?_)
    all_goals (refine ⟨?_⟩; simp)
  have oe : e.ok lim := (szOk_entry e).2 l (by omega) hl (by omega)
  have op : (accVote a b sl e).1.ok lim := accVote_ok oa oe
  have cS := p_spec_AccVote a oa b sl e oe
  have cT := t_AccVote a oa b sl e oe
  have cQ := c_AccVoteQ a oa b sl e oe
  generalize accVote a b sl e = pr at *
  obtain ⟨r, ok⟩ := pr
  have ha0 := ctVotes_bd oa.1 oa.2
  have he0 := ctRun_bd oe
  dsimp only at op
  have hr0 := ctVotes_bd op.1 op.2
  have kE := tmark_eq (k2 := 1 + ctVotes a.votes + ctRun e.run) (k_markEntry e (1 + ctVotes a.votes) (by omega) (by omega) oe) (by unfold ctRun; omega)
  refine Law.vc [(23, .res (oi l)), (28, .res (oi (szEntry e l))), (33, .res (.agg a.cells)), (37, .res (.agg e.cells)), (38, .res (qAcc (r, ok))), (900008, .row [i6 0, i6 1, i6 2, i6 3, i6 4, i6 5, i6 6, i6 7, i6 8, i6 9, i6 10, i6 11, i6 12]), (800009, .row [])] TTok hmo Go.Proofs.Try.func6 (by kernel_rfl) rfl (by kernel_rfl) rfl (fun A U => ?_)
  repeat' (first | refine And.intro ?_ ?_ | exact tf | exact ft | refine tt ?_ | refine ff ?_ | exact ⟨trivial⟩ | exact sAll rfl | exact sF1 rfl | exact sBld (by repeat' (first | exact trivial | rfl | exact Nat.le_of_ble_eq_true rfl | refine And.intro ?_ ?_)) rfl | exact sBS (by repeat' (first | exact trivial | rfl | exact Nat.le_of_ble_eq_true rfl | refine And.intro ?_ ?_)) rfl rfl rfl rfl | exact sBSF (by repeat' (first | exact trivial | rfl | exact Nat.le_of_ble_eq_true rfl | refine And.intro ?_ ?_)) rfl rfl rfl rfl | exact sLe rfl | exact Chk.mk (by kernel_rfl) | exact ⟨Chk.mk (by kernel_rfl)⟩ | exact sLeEq rfl rfl | exact sAnd (by repeat' constructor) (cs) | exact sAnd (by repeat' constructor) (cz) | exact sAnd (by repeat' constructor) (c_toAcc _ oa) | exact sAnd (by repeat' constructor) (c_toEntry _ oe) | exact sAnd (by repeat' constructor) (cS) | refine fun h => ?_)
  all_goals try (exfalso; exact h1 (of_decide_eq_true h))
  all_goals try (exfalso; exact h2 (of_decide_eq_true h))
  all_goals try (exact Side.mk cS)
  all_goals try (exact Side.mk fun _ _ => trivial)
  all_goals try (exact ⟨rfl⟩)
  all_goals try (exact trivial)
  refine W.tellB 2 1 rfl (fun B w => ?_)
  refine W.go [(42, .tre true (fun _ => .agg a.cells)), (44, .tre true (fun _ => .agg e.cells)), (50, .tre true (fun _ => qAcc (r, ok))), (55, .res (ob (decide (r = r)))), (64, .res (.agg a.cells)), (65, .res (ob (decide (a = a)))), (69, .res (.agg e.cells)), (70, .res (ob (decide (e = e)))), (800018, .row [])] TTok hmo ?_
  repeat' (first | refine And.intro ?_ ?_ | exact tf | exact ft | refine tt ?_ | refine ff ?_ | exact ⟨trivial⟩ | exact sAll rfl | exact sF1 rfl | exact sBld (by repeat' (first | exact trivial | rfl | exact Nat.le_of_ble_eq_true rfl | refine And.intro ?_ ?_)) rfl | exact sBS (by repeat' (first | exact trivial | rfl | exact Nat.le_of_ble_eq_true rfl | refine And.intro ?_ ?_)) rfl rfl rfl rfl | exact sBSF (by repeat' (first | exact trivial | rfl | exact Nat.le_of_ble_eq_true rfl | refine And.intro ?_ ?_)) rfl rfl rfl rfl | exact sLe rfl | exact Chk.mk (by kernel_rfl) | exact ⟨Chk.mk (by kernel_rfl)⟩ | exact sLeEq rfl rfl | exact sAnd (by repeat' constructor) (c_toAcc _ oa) | exact sAnd (by repeat' constructor) (c_toEntry _ oe) | exact sAnd (by repeat' constructor) (c_eqAcc _ _ oa oa) | exact sAnd (by repeat' constructor) (c_eqAcc _ _ op op) | exact sAnd (by repeat' constructor) (c_eqEntry _ _ oe oe) | refine fun h => ?_)
  all_goals try (exfalso; simp_all; done)
  all_goals try (exact Side.mk (t_toAcc a oa))
  all_goals try (exact Side.mk (t_toEntry e oe))
  all_goals try (exact Side.mk (cT))
  all_goals try (refine Side.mk ?_; (repeat' constructor); done)
  rename_i T1 hT1 D1 T2 hT2 D2 T3 hT3 D3 e1 e2 e3
  refine W.sub ⟨129, 6, [(1, oi b), (2, oi sl), (4, .one (.ptr 0 0 0)), (7, .one (.ptr 1 0 0)), (10, .one (.ptr 2 0 0)), (11, ob ok), (12, .one (.ptr 3 0 0)), (13, .one (.ptr 4 0 0)), (14, .one (.ptr 5 0 0)), (15, ob ok)],
    [(0, .box [i6 a.p, .tr false A (U 0 1) (a.votes.map Vote.cells)]), (1, .box [bo e.none, i6 e.q.a, i6 e.q.b, .tr false A (U 3 3) (e.run.reads.map Two.cells), .tr false A (U 3 4) (e.run.puts.map Two.cells), i6 e.run.c, i6 e.run.d]), (2, .box [i6 r.p, .tr false B w (r.votes.map Vote.cells)]), (3, .box [i6 a.p, .tr true (T1 0 1).B (T1 0 1).u (a.votes.map Vote.cells)]),
    (4, .box [bo e.none, i6 e.q.a, i6 e.q.b, .tr true (T2 0 3).B (T2 0 3).u (e.run.reads.map Two.cells), .tr true (T2 0 4).B (T2 0 4).u (e.run.puts.map Two.cells), i6 e.run.c, i6 e.run.d]), (5, .box [i6 r.p, .tr true (T3 0 1).B (T3 0 1).u (r.votes.map Vote.cells)])]⟩ [] ?_ ?_
  · repeat' (first | exact trivial | exact ⟨trivial⟩ | exact Side.mk rfl | exact sF1 rfl | exact Chk.mk (by kernel_rfl) | exact ⟨Chk.mk (by kernel_rfl)⟩ | refine And.intro ?_ ?_ | rfl)
  refine W.go [(74, .mark (fun _ _ => (.agg (mkAcc a 1).cells, 1 + ctVotes a.votes)) [1, 2, 4, 7, 10, 11, 12, 13, 14, 15] [] [0, 1, 2, 3, 4, 5] [(3, 1, 1)]), (77, .mark (fun _ _ => (.agg (mkRunE e (1 + ctVotes a.votes)).cells, 1 + ctVotes a.votes + ctRun e.run)) [1, 2, 4, 7, 10, 11, 12, 13, 14, 15] [] [0, 1, 2, 3, 4, 5] [(4, 3, 3), (4, 4, 4)]), (83, .res (ob (decide (r = r)))), (800023, .row [])] TTok hmo ?_
  repeat' (first | refine And.intro ?_ ?_ | exact tf | exact ft | refine tt ?_ | refine ff ?_ | exact ⟨trivial⟩ | exact sAll rfl | exact sF1 rfl | exact sBld (by repeat' (first | exact trivial | rfl | exact Nat.le_of_ble_eq_true rfl | refine And.intro ?_ ?_)) rfl | exact sBS (by repeat' (first | exact trivial | rfl | exact Nat.le_of_ble_eq_true rfl | refine And.intro ?_ ?_)) rfl rfl rfl rfl | exact sBSF (by repeat' (first | exact trivial | rfl | exact Nat.le_of_ble_eq_true rfl | refine And.intro ?_ ?_)) rfl rfl rfl rfl | exact sLe rfl | exact Chk.mk (by kernel_rfl) | exact ⟨Chk.mk (by kernel_rfl)⟩ | exact sLeEq rfl rfl | exact sAnd (by repeat' constructor) (c_eqAcc _ _ op op) | refine fun h => ?_)
  all_goals try (exfalso; simp_all; done)
  all_goals try (exact ⟨apart_row (B := T1 0) (o := 0) (fun j j' x r1 r2 => (hT1 0 j 0 j' x r1 r2).2) (cs0 := a.cells)⟩)
  all_goals try (exact ⟨apart_row (B := T2 0) (o := 0) (fun j j' x r1 r2 => (hT2 0 j 0 j' x r1 r2).2) (cs0 := e.cells)⟩)
  all_goals try (exact Side.mk (k_markAcc a 1 (by decide) (by decide) oa))
  all_goals try (exact Side.mk (kE))
  all_goals try (exact trivial)
  all_goals try (repeat' (first | exact trivial | exact Side.mk (.sc _) | exact Side.mk (.ptr _ _ _) | exact Side.mk (.mk _ _ _ _ (List.Mem.tail _ (List.Mem.head _))) | exact Side.mk (.mk _ _ _ _ (List.Mem.tail _ (List.Mem.tail _ (List.Mem.tail _ (List.Mem.head _))))) | exact Side.mk (.mk _ _ _ _ (List.Mem.tail _ (List.Mem.tail _ (List.Mem.tail _ (List.Mem.tail _ (List.Mem.head _)))))) | exact Side.mk (.tr _ _ _ _ fun y h1 h2 => disAt (D1.st 0 _ rfl) 1 rfl y h1 (in_any (T := T1) (i := 0) (o := 0) (cs0 := a.cells) h2)) | exact Side.mk (.tr _ _ _ _ fun y h1 h2 => disAt (D1.st 1 _ rfl) 3 rfl y h1 (in_any (T := T1) (i := 0) (o := 0) (cs0 := a.cells) h2)) | exact Side.mk (.tr _ _ _ _ fun y h1 h2 => disAt (D1.st 1 _ rfl) 4 rfl y h1 (in_any (T := T1) (i := 0) (o := 0) (cs0 := a.cells) h2)) | exact Side.mk (.tr _ _ _ _ fun y h1 h2 => disAt (D1.st 2 _ rfl) 1 rfl y h1 (in_any (T := T1) (i := 0) (o := 0) (cs0 := a.cells) h2)) | exact Side.mk (.tr _ _ _ _ fun y h1 h2 => absurd (show Any T2 y from ⟨0, 3, h1⟩) (in_dis (D2.st 3 _ rfl) h2)) | exact Side.mk (.tr _ _ _ _ fun y h1 h2 => absurd (show Any T2 y from ⟨0, 4, h1⟩) (in_dis (D2.st 3 _ rfl) h2)) | exact Side.mk (.tr _ _ _ _ fun y h1 h2 => absurd (show Any T3 y from ⟨0, 1, h1⟩) (in_dis (D3.st 3 _ rfl) h2)) | exact Side.mk (.tr _ _ _ _ fun y h1 h2 => disAt (D2.st 0 _ rfl) 1 rfl y h1 (in_any (T := T2) (i := 0) (o := 0) (cs0 := e.cells) h2)) | exact Side.mk (.tr _ _ _ _ fun y h1 h2 => disAt (D2.st 1 _ rfl) 3 rfl y h1 (in_any (T := T2) (i := 0) (o := 0) (cs0 := e.cells) h2)) | exact Side.mk (.tr _ _ _ _ fun y h1 h2 => disAt (D2.st 1 _ rfl) 4 rfl y h1 (in_any (T := T2) (i := 0) (o := 0) (cs0 := e.cells) h2)) | exact Side.mk (.tr _ _ _ _ fun y h1 h2 => disAt (D2.st 2 _ rfl) 1 rfl y h1 (in_any (T := T2) (i := 0) (o := 0) (cs0 := e.cells) h2)) | exact Side.mk (.tr _ _ _ _ fun y h1 h2 => disAt (D2.st 3 _ rfl) 1 rfl y h1 (in_any (T := T2) (i := 0) (o := 0) (cs0 := e.cells) h2)) | exact Side.mk (.tr _ _ _ _ fun y h1 h2 => absurd (show Any T3 y from ⟨0, 1, h1⟩) (in_dis (D3.st 4 _ rfl) h2)) | refine And.intro ?_ ?_); done)
  all_goals try (exfalso; have h3 := of_decide_eq_true h; (try dsimp only at h3); omega)
  refine W.sub ⟨129, 6, [(1, oi b), (2, oi sl), (4, .one (.ptr 0 0 0)), (7, .one (.ptr 1 0 0)), (10, .one (.ptr 2 0 0)), (11, ob ok), (14, .one (.ptr 5 0 0)), (15, ob ok)],
    [(0, .box [i6 a.p, .tr false A (U 0 1) (a.votes.map Vote.cells)]), (1, .box [bo e.none, i6 e.q.a, i6 e.q.b, .tr false A (U 3 3) (e.run.reads.map Two.cells), .tr false A (U 3 4) (e.run.puts.map Two.cells), i6 e.run.c, i6 e.run.d]), (2, .box [i6 r.p, .tr false B w (r.votes.map Vote.cells)]), (5, .box [i6 r.p, .tr true (T3 0 1).B (T3 0 1).u (r.votes.map Vote.cells)])]⟩ [] ?_ ?_
  · repeat' (first | exact trivial | exact ⟨trivial⟩ | exact Side.mk rfl | exact sF1 rfl | exact Chk.mk (by kernel_rfl) | exact ⟨Chk.mk (by kernel_rfl)⟩ | refine And.intro ?_ ?_ | rfl)
  refine W.go [(93, .mark (fun _ _ => (.agg (mkAcc r 1).cells, 1 + ctVotes r.votes)) [1, 2, 4, 7, 10, 11, 14, 15] [] [0, 1, 2, 5] [(5, 1, 1)]), (96, .res (oi (1 + ctVotes r.votes))), (104, .res (.agg a.cells)), (108, .res (.agg e.cells)), (109, .res (qAcc (r, ok))), (900031, .row [i6 0, i6 1, i6 2, i6 3, i6 4, i6 5, i6 6, i6 7, i6 8, i6 9, i6 10, i6 11, i6 12]), (114, .res (ob (decide (r = r)))), (123, .res (oi (1 + ctVotes r.votes)))] TTok hmo ?_
  repeat' (first | refine And.intro ?_ ?_ | exact tf | exact ft | refine tt ?_ | refine ff ?_ | exact ⟨trivial⟩ | exact sAll rfl | exact sF1 rfl | exact sBld (by repeat' (first | exact trivial | rfl | exact Nat.le_of_ble_eq_true rfl | refine And.intro ?_ ?_)) rfl | exact sBS (by repeat' (first | exact trivial | rfl | exact Nat.le_of_ble_eq_true rfl | refine And.intro ?_ ?_)) rfl rfl rfl rfl | exact sBSF (by repeat' (first | exact trivial | rfl | exact Nat.le_of_ble_eq_true rfl | refine And.intro ?_ ?_)) rfl rfl rfl rfl | exact sLe rfl | exact Chk.mk (by kernel_rfl) | exact ⟨Chk.mk (by kernel_rfl)⟩ | exact sLeEq rfl rfl | exact sAnd (by repeat' constructor) (c_toAcc _ oa) | exact sAnd (by repeat' constructor) (c_toEntry _ oe) | exact sAnd (by repeat' constructor) (c_eqAcc _ _ op op) | exact sAnd (by repeat' constructor) (cQ) | exact sAnd (by repeat' constructor) (h_heldAcc r 1 (by decide) (by decide) op) | refine fun h => ?_)
  all_goals try (exfalso; simp_all; done)
  all_goals try (exact ⟨apart_row (B := T3 0) (o := 0) (fun j j' x r1 r2 => (hT3 0 j 0 j' x r1 r2).2) (cs0 := r.cells)⟩)
  all_goals try (exact Side.mk (k_markAcc r 1 (by decide) (by decide) op))
  all_goals try (exact trivial)
  all_goals try (exact ⟨rfl⟩)
  all_goals try (repeat' (first | exact trivial | exact Side.mk (.sc _) | exact Side.mk (.ptr _ _ _) | exact Side.mk (.mk _ _ _ _ (List.Mem.tail _ (List.Mem.head _))) | exact Side.mk (.tr _ _ _ _ fun y h1 h2 => disAt (D3.st 0 _ rfl) 1 rfl y h1 (in_any (T := T3) (i := 0) (o := 0) (cs0 := r.cells) h2)) | exact Side.mk (.tr _ _ _ _ fun y h1 h2 => disAt (D3.st 1 _ rfl) 3 rfl y h1 (in_any (T := T3) (i := 0) (o := 0) (cs0 := r.cells) h2)) | exact Side.mk (.tr _ _ _ _ fun y h1 h2 => disAt (D3.st 1 _ rfl) 4 rfl y h1 (in_any (T := T3) (i := 0) (o := 0) (cs0 := r.cells) h2)) | exact Side.mk (.tr _ _ _ _ fun y h1 h2 => disAt (D3.st 2 _ rfl) 1 rfl y h1 (in_any (T := T3) (i := 0) (o := 0) (cs0 := r.cells) h2)) | refine And.intro ?_ ?_); done)
  all_goals try (exfalso; have h3 := of_decide_eq_true h; (try dsimp only at h3); omega)
  all_goals (refine ⟨?_⟩; simp)
end Mg

/- What the row's arguments read as. No condition. -/
namespace Mg
open Go Go.RowKit
set_option maxRecDepth 100000
set_option linter.unusedVariables false

theorem TTlay : LOk TT := fun t i h => by
  have h1 : (tyL.all fun q => q.2.lay TT) = true := by kernel_rfl
  have h2 : (t, i) ∈ tyL := look_mem h
  exact List.all_eq_true.1 h1 _ h2

theorem fit_two {n t : Nat} {cs : List MC} {i : TI} (h : fit TT n t cs) (ht : TT t = some i) (hk : i.k = .struct [(0, 3), (1, 3)]) : ∃ x : Two, cs = x.cells := by
  obtain ⟨n, a, r, rfl, ha, b, r', rfl, hb, rfl⟩ := fit_struct h ht hk
  obtain ⟨x, rfl, _⟩ := fit_int ha (i := ⟨1, 8, .int .i64, [.int .i64]⟩) rfl rfl
  obtain ⟨y, rfl, _⟩ := fit_int hb (i := ⟨1, 8, .int .i64, [.int .i64]⟩) rfl rfl
  exact ⟨⟨x, y⟩, rfl⟩
theorem fit_twos {n t e : Nat} {cs : List MC} {i ie : TI} (h : fit TT n t cs) (ht : TT t = some i) (hk : i.k = .slice e) (he : TT e = some ie) (hke : ie.k = .struct [(0, 3), (1, 3)]) : ∃ xs : List Two, cs = [.fz (xs.map Two.cells)] ∧ xs.length ≤ maxLen := by
  obtain ⟨rows, rfl, hl, hr⟩ := fit_slice h ht hk
  obtain ⟨xs, rfl, _⟩ := rows_data (c := Two.cells) (p := fun _ => True) fun r hr' => by
    obtain ⟨n, hn⟩ := hr r hr'
    obtain ⟨x, hx⟩ := fit_two hn he hke
    exact ⟨x, hx, trivial⟩
  exact ⟨xs, rfl, by simpa using hl⟩
theorem fit_run {n : Nat} {cs : List MC} (h : fit TT n 62 cs) : ∃ x : Run, cs = x.cells ∧ x.ok maxLen := by
  obtain ⟨n, a, r, rfl, ha, b, r', rfl, hb, c, r'', rfl, hc, d, r3, rfl, hd, rfl⟩ := fit_struct h (i := ⟨4, 64, .struct [(0, 59), (1, 60), (2, 3), (3, 3)], [.nil, .nil, .int .i64, .int .i64]⟩) rfl rfl
  obtain ⟨xs, rfl, hx⟩ := fit_twos ha (i := ⟨1, 24, .slice 187, [.nil]⟩) (ie := ⟨2, 16, .struct [(0, 3), (1, 3)], [.int .i64, .int .i64]⟩) rfl rfl rfl rfl
  obtain ⟨ys, rfl, hy⟩ := fit_twos hb (i := ⟨1, 24, .slice 189, [.nil]⟩) (ie := ⟨2, 16, .struct [(0, 3), (1, 3)], [.int .i64, .int .i64]⟩) rfl rfl rfl rfl
  obtain ⟨x, rfl, _⟩ := fit_int hc (i := ⟨1, 8, .int .i64, [.int .i64]⟩) rfl rfl
  obtain ⟨y, rfl, _⟩ := fit_int hd (i := ⟨1, 8, .int .i64, [.int .i64]⟩) rfl rfl
  exact ⟨⟨xs, ys, x, y⟩, rfl, hx, hy⟩
theorem fit_entry {n : Nat} {cs : List MC} (h : fit TT n 64 cs) : ∃ x : Entry, cs = x.cells ∧ x.ok maxLen := by
  obtain ⟨n, a, r, rfl, ha, b, r', rfl, hb, c, r'', rfl, hc, rfl⟩ := fit_struct h (i := ⟨7, 88, .struct [(0, 4), (1, 58), (3, 62)], [.bool, .int .i64, .int .i64, .nil, .nil, .int .i64, .int .i64]⟩) rfl rfl
  obtain ⟨x, rfl⟩ := fit_bool ha (i := ⟨1, 1, .bool, [.bool]⟩) rfl rfl
  obtain ⟨q, rfl⟩ := fit_two hb (i := ⟨2, 16, .struct [(0, 3), (1, 3)], [.int .i64, .int .i64]⟩) rfl rfl
  obtain ⟨y, rfl, hy⟩ := fit_run hc
  exact ⟨⟨x, q, y⟩, by simp [Entry.cells], hy⟩
theorem fit_vote {n : Nat} {cs : List MC} (h : fit TT n 100 cs) : ∃ x : Vote, cs = x.cells ∧ x.ok maxLen := by
  obtain ⟨n, a, r, rfl, ha, b, r', rfl, hb, rfl⟩ := fit_struct h (i := ⟨8, 96, .struct [(0, 3), (1, 64)], [.int .i64, .bool, .int .i64, .int .i64, .nil, .nil, .int .i64, .int .i64]⟩) rfl rfl
  obtain ⟨x, rfl, _⟩ := fit_int ha (i := ⟨1, 8, .int .i64, [.int .i64]⟩) rfl rfl
  obtain ⟨y, rfl, hy⟩ := fit_entry hb
  exact ⟨⟨x, y⟩, by simp [Vote.cells], hy⟩
theorem fit_votes {n : Nat} {cs : List MC} (h : fit TT n 42 cs) : ∃ xs : List Vote, cs = [.fz (xs.map Vote.cells)] ∧ VotesOk maxLen xs := by
  obtain ⟨rows, rfl, hl, hr⟩ := fit_slice h (i := ⟨1, 24, .slice 100, [.nil]⟩) rfl rfl
  obtain ⟨xs, rfl, hv⟩ := rows_data (c := Vote.cells) (p := fun v => v.ok maxLen) fun r hr' => by
    obtain ⟨n, hn⟩ := hr r hr'
    exact fit_vote hn
  exact ⟨xs, rfl, by simpa using hl, hv⟩
theorem fit_acc {n : Nat} {cs : List MC} (h : fit TT n 50 cs) : ∃ x : Acc, cs = x.cells ∧ x.ok maxLen := by
  obtain ⟨n, a, r, rfl, ha, b, r', rfl, hb, rfl⟩ := fit_struct h (i := ⟨2, 32, .struct [(0, 3), (1, 42)], [.int .i64, .nil]⟩) rfl rfl
  obtain ⟨x, rfl, _⟩ := fit_int ha (i := ⟨1, 8, .int .i64, [.int .i64]⟩) rfl rfl
  obtain ⟨xs, rfl, hx⟩ := fit_votes hb
  exact ⟨⟨x, xs⟩, rfl, hx⟩
end Mg
