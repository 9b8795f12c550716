/- Parts of the abstract state logic and of the walks, one behind the other: R1R, R1S, R2R, NS9. No condition. -/
import Derived.Test.YtedgmfmhilihoaaGreatP15
import Derived.Test.YtedgmfmhilihoaaGreatP14
import Derived.Test.YtedgmfmhilihoaaGreatP27
import Derived.Test.YtedgmfmhilihoaaGreatP29
/- What the row's arguments read as. No condition. -/
namespace Mg
open Go Go.RowKit
set_option maxRecDepth 100000
set_option linter.unusedVariables false

theorem TTlay : LOk TT := fun t i h => by
  have h1 : (tyL.all fun q => q.2.lay TT) = true := by kernel_rfl
  have h2 : (t, i) ∈ tyL := look_mem h
  exact List.all_eq_true.1 h1 _ h2

theorem fit_two {n t : Nat} {cs : List MC} {i : TI} (h : fit TT n t cs) (ht : TT t = some i) (hk : i.k = .struct [(0, 3), (1, 3)]) : ∃ x : Two, cs = x.cells := by
  obtain ⟨n, a, r, rfl, ha, b, r', rfl, hb, rfl⟩ := fit_struct h ht hk
  obtain ⟨x, rfl, _⟩ := fit_int ha (i := ⟨1, 8, .int .i64, [.int .i64]⟩) rfl rfl
  obtain ⟨y, rfl, _⟩ := fit_int hb (i := ⟨1, 8, .int .i64, [.int .i64]⟩) rfl rfl
  exact ⟨⟨x, y⟩, rfl⟩
theorem fit_twos {n t e : Nat} {cs : List MC} {i ie : TI} (h : fit TT n t cs) (ht : TT t = some i) (hk : i.k = .slice e) (he : TT e = some ie) (hke : ie.k = .struct [(0, 3), (1, 3)]) : ∃ xs : List Two, cs = [.fz (xs.map Two.cells)] ∧ xs.length ≤ maxLen := by
  obtain ⟨rows, rfl, hl, hr⟩ := fit_slice h ht hk
  obtain ⟨xs, rfl, _⟩ := rows_data (c := Two.cells) (p := fun _ => True) fun r hr' => by
    obtain ⟨n, hn⟩ := hr r hr'
    obtain ⟨x, hx⟩ := fit_two hn he hke
    exact ⟨x, hx, trivial⟩
  exact ⟨xs, rfl, by simpa using hl⟩
theorem fit_run {n : Nat} {cs : List MC} (h : fit TT n 32 cs) : ∃ x : Run, cs = x.cells ∧ x.ok maxLen := by
  obtain ⟨n, a, r, rfl, ha, b, r', rfl, hb, c, r'', rfl, hc, d, r3, rfl, hd, rfl⟩ := fit_struct h (i := ⟨4, 64, .struct [(0, 29), (1, 30), (2, 3), (3, 3)], [.nil, .nil, .int .i64, .int .i64]⟩) rfl rfl
  obtain ⟨xs, rfl, hx⟩ := fit_twos ha (i := ⟨1, 24, .slice 190, [.nil]⟩) (ie := ⟨2, 16, .struct [(0, 3), (1, 3)], [.int .i64, .int .i64]⟩) rfl rfl rfl rfl
  obtain ⟨ys, rfl, hy⟩ := fit_twos hb (i := ⟨1, 24, .slice 192, [.nil]⟩) (ie := ⟨2, 16, .struct [(0, 3), (1, 3)], [.int .i64, .int .i64]⟩) rfl rfl rfl rfl
  obtain ⟨x, rfl, _⟩ := fit_int hc (i := ⟨1, 8, .int .i64, [.int .i64]⟩) rfl rfl
  obtain ⟨y, rfl, _⟩ := fit_int hd (i := ⟨1, 8, .int .i64, [.int .i64]⟩) rfl rfl
  exact ⟨⟨xs, ys, x, y⟩, rfl, hx, hy⟩
theorem fit_entry {n : Nat} {cs : List MC} (h : fit TT n 34 cs) : ∃ x : Entry, cs = x.cells ∧ x.ok maxLen := by
  obtain ⟨n, a, r, rfl, ha, b, r', rfl, hb, c, r'', rfl, hc, rfl⟩ := fit_struct h (i := ⟨7, 88, .struct [(0, 4), (1, 28), (3, 32)], [.bool, .int .i64, .int .i64, .nil, .nil, .int .i64, .int .i64]⟩) rfl rfl
  obtain ⟨x, rfl⟩ := fit_bool ha (i := ⟨1, 1, .bool, [.bool]⟩) rfl rfl
  obtain ⟨q, rfl⟩ := fit_two hb (i := ⟨2, 16, .struct [(0, 3), (1, 3)], [.int .i64, .int .i64]⟩) rfl rfl
  obtain ⟨y, rfl, hy⟩ := fit_run hc
  exact ⟨⟨x, q, y⟩, by simp [Entry.cells], hy⟩
theorem fit_vote {n : Nat} {cs : List MC} (h : fit TT n 120 cs) : ∃ x : Vote, cs = x.cells ∧ x.ok maxLen := by
  obtain ⟨n, a, r, rfl, ha, b, r', rfl, hb, rfl⟩ := fit_struct h (i := ⟨8, 96, .struct [(0, 3), (1, 34)], [.int .i64, .bool, .int .i64, .int .i64, .nil, .nil, .int .i64, .int .i64]⟩) rfl rfl
  obtain ⟨x, rfl, _⟩ := fit_int ha (i := ⟨1, 8, .int .i64, [.int .i64]⟩) rfl rfl
  obtain ⟨y, rfl, hy⟩ := fit_entry hb
  exact ⟨⟨x, y⟩, by simp [Vote.cells], hy⟩
theorem fit_votes {n : Nat} {cs : List MC} (h : fit TT n 22 cs) : ∃ xs : List Vote, cs = [.fz (xs.map Vote.cells)] ∧ VotesOk maxLen xs := by
  obtain ⟨rows, rfl, hl, hr⟩ := fit_slice h (i := ⟨1, 24, .slice 120, [.nil]⟩) rfl rfl
  obtain ⟨xs, rfl, hv⟩ := rows_data (c := Vote.cells) (p := fun v => v.ok maxLen) fun r hr' => by
    obtain ⟨n, hn⟩ := hr r hr'
    exact fit_vote hn
  exact ⟨xs, rfl, by simpa using hl, hv⟩
theorem fit_acc {n : Nat} {cs : List MC} (h : fit TT n 24 cs) : ∃ x : Acc, cs = x.cells ∧ x.ok maxLen := by
  obtain ⟨n, a, r, rfl, ha, b, r', rfl, hb, rfl⟩ := fit_struct h (i := ⟨2, 32, .struct [(0, 3), (1, 22)], [.int .i64, .nil]⟩) rfl rfl
  obtain ⟨x, rfl, _⟩ := fit_int ha (i := ⟨1, 8, .int .i64, [.int .i64]⟩) rfl rfl
  obtain ⟨xs, rfl, hx⟩ := fit_votes hb
  exact ⟨⟨x, xs⟩, rfl, hx⟩
end Mg

/- What a message reads as. No condition. -/
namespace Mg
open Go Go.RowKit
set_option maxRecDepth 100000
set_option linter.unusedVariables false
end Mg

/- What nodes and worlds read as. No condition. -/
namespace Mg
open Go Go.RowKit
set_option maxRecDepth 100000
set_option linter.unusedVariables false
set_option linter.unusedSimpArgs false
theorem fit_ins {n : Nat} {cs : List MC} (h : fit TT n 136 cs) : ∃ x : Ins, cs = x.cells := by
  obtain ⟨n, f0, r0, rfl, h0, f1, r1, rfl, h1, f2, r2, rfl, h2, f3, r3, rfl, h3, rfl⟩ := fit_struct h (i := ⟨4, 32, .struct [(0, 3), (1, 3), (2, 3), (3, 3)], [.int .i64, .int .i64, .int .i64, .int .i64]⟩) rfl rfl
  obtain ⟨x0, rfl, _⟩ := fit_int h0 (i := ⟨1, 8, .int .i64, [.int .i64]⟩) rfl rfl
  obtain ⟨x1, rfl, _⟩ := fit_int h1 (i := ⟨1, 8, .int .i64, [.int .i64]⟩) rfl rfl
  obtain ⟨x2, rfl, _⟩ := fit_int h2 (i := ⟨1, 8, .int .i64, [.int .i64]⟩) rfl rfl
  obtain ⟨x3, rfl, _⟩ := fit_int h3 (i := ⟨1, 8, .int .i64, [.int .i64]⟩) rfl rfl
  exact ⟨⟨x0, x1, x2, x3⟩, by simp [Ins.cells]⟩
theorem fit_inss {n : Nat} {cs : List MC} (h : fit TT n 35 cs) : ∃ xs : List Ins, cs = [.fz (xs.map Ins.cells)] ∧ xs.length ≤ maxLen := by
  obtain ⟨rows, rfl, hl, hr⟩ := fit_slice h (i := ⟨1, 24, .slice 136, [.nil]⟩) rfl rfl
  obtain ⟨xs, rfl, hv⟩ := rows_data (c := Ins.cells) (p := fun v => True) fun r hr' => by
    obtain ⟨n, hn⟩ := hr r hr'
    obtain ⟨x, hx⟩ := fit_ins hn; exact ⟨x, hx, trivial⟩
  exact ⟨xs, rfl, by simpa using hl⟩
theorem fit_bools {n : Nat} {cs : List MC} (h : fit TT n 26 cs) : ∃ xs : List Bool, cs = [.fz (xs.map Bool.cells)] ∧ xs.length ≤ maxLen := by
  obtain ⟨rows, rfl, hl, hr⟩ := fit_slice h (i := ⟨1, 24, .slice 4, [.nil]⟩) rfl rfl
  obtain ⟨xs, rfl, hv⟩ := rows_data (c := Bool.cells) (p := fun v => True) fun r hr' => by
    obtain ⟨n, hn⟩ := hr r hr'
    obtain ⟨x, hx⟩ := fit_bool hn (i := ⟨1, 1, .bool, [.bool]⟩) rfl rfl; exact ⟨x, hx, trivial⟩
  exact ⟨xs, rfl, by simpa using hl⟩
theorem fit_entries {n : Nat} {cs : List MC} (h : fit TT n 25 cs) : ∃ xs : List Entry, cs = [.fz (xs.map Entry.cells)] ∧ xs.length ≤ maxLen ∧ ∀ v ∈ xs, v.ok maxLen := by
  obtain ⟨rows, rfl, hl, hr⟩ := fit_slice h (i := ⟨1, 24, .slice 34, [.nil]⟩) rfl rfl
  obtain ⟨xs, rfl, hv⟩ := rows_data (c := Entry.cells) (p := fun v => v.ok maxLen) fun r hr' => by
    obtain ⟨n, hn⟩ := hr r hr'
    exact fit_entry hn
  exact ⟨xs, rfl, by simpa using hl, hv⟩
theorem fit_node {n : Nat} {cs : List MC} (h : fit TT n 37 cs) : ∃ x : Node, cs = x.cells ∧ x.ok maxLen := by
  obtain ⟨n, f0, r0, rfl, h0, f1, r1, rfl, h1, f2, r2, rfl, h2, f3, r3, rfl, h3, f4, r4, rfl, h4, f5, r5, rfl, h5, f6, r6, rfl, h6, f7, r7, rfl, h7, f8, r8, rfl, h8, f9, r9, rfl, h9, f10, r10, rfl, h10, f11, r11, rfl, h11, f12, r12, rfl, h12, f13, r13, rfl, h13, rfl⟩ := fit_struct h (i := ⟨27, 392, .struct [(0, 3), (1, 24), (3, 25), (4, 3), (5, 3), (6, 3), (7, 26), (8, 22), (9, 34), (16, 26), (17, 4), (18, 35), (19, 34), (26, 25)], [.int .i64, .int .i64, .nil, .nil, .int .i64, .int .i64, .int .i64, .nil, .nil, .bool, .int .i64, .int .i64, .nil, .nil, .int .i64, .int .i64, .nil, .bool, .nil, .bool, .int .i64, .int .i64, .nil, .nil, .int .i64, .int .i64, .nil]⟩) rfl rfl
  obtain ⟨x0, rfl, _⟩ := fit_int h0 (i := ⟨1, 8, .int .i64, [.int .i64]⟩) rfl rfl
  obtain ⟨x1, rfl, o1⟩ := fit_acc h1
  obtain ⟨x2, rfl, o2⟩ := fit_entries h2
  obtain ⟨x3, rfl, _⟩ := fit_int h3 (i := ⟨1, 8, .int .i64, [.int .i64]⟩) rfl rfl
  obtain ⟨x4, rfl, _⟩ := fit_int h4 (i := ⟨1, 8, .int .i64, [.int .i64]⟩) rfl rfl
  obtain ⟨x5, rfl, _⟩ := fit_int h5 (i := ⟨1, 8, .int .i64, [.int .i64]⟩) rfl rfl
  obtain ⟨x6, rfl, o6⟩ := fit_bools h6
  obtain ⟨x7, rfl, o7⟩ := fit_votes h7
  obtain ⟨x8, rfl, o8⟩ := fit_entry h8
  obtain ⟨x9, rfl, o9⟩ := fit_bools h9
  obtain ⟨x10, rfl⟩ := fit_bool h10 (i := ⟨1, 1, .bool, [.bool]⟩) rfl rfl
  obtain ⟨x11, rfl, o11⟩ := fit_inss h11
  obtain ⟨x12, rfl, o12⟩ := fit_entry h12
  obtain ⟨x13, rfl, o13⟩ := fit_entries h13
  exact ⟨⟨x0, x1, x2, x3, x4, x5, x6, x7, x8, x9, x10, x11, x12, x13⟩, by simp [Node.cells], ⟨o1, o2, o6, o7, o8, o9, o11, o12, o13⟩⟩
end Mg

/- The law of a node's state, walked. No condition. -/
namespace Mg
open Go Go.RowKit
set_option maxRecDepth 100000
set_option linter.unusedVariables false
set_option linter.unusedSimpArgs false
attribute [local irreducible] W Pure Con TPure TMark
theorem stateOf_ok (n : Node) : (stateOf n).ok lim := by
  unfold stateOf
  split
  · rename_i h
    have b := nodeOk_bd h
    obtain ⟨h1, h2⟩ := foldS_ok (l := n.known) stOpen_ok b.knownOk (by have := b.known; simp [stOpen]; omega)
    have h3 := boxOk_len' h1.box
    have h4 := h1.len
    have h5 := h1.at0
    exact ⟨by rw [h3]; decide, by show _ ≤ 1048576; omega⟩
  · exact ⟨Nat.zero_le _, Nat.zero_le _⟩
set_option maxHeartbeats 16000000 in
theorem c_FnExactNodeState (n : Node) (hn : n.ok maxLen) : Pure PP false 4 [.agg n.cells] (ob true) := by
  by_cases h1 : szNode n 1048576 < 0
  · refine Pure.vc [(13, .res (oi (szNode n 1048576)))] TTok hmo Go.Proofs.Tryz.func4 (by kernel_rfl) rfl (by kernel_rfl) ?_
    repeat' (first | refine And.intro ?_ ?_ | exact tf | exact ft | refine tt ?_ | refine ff ?_ | exact fun h => absurd h1 (of_decide_eq_false h) | exact ⟨trivial⟩ | exact sAll rfl | exact sF1 rfl | exact sBld (by repeat' (first | exact trivial | rfl | exact Nat.le_of_ble_eq_true rfl | refine And.intro ?_ ?_)) rfl | exact sBS (by repeat' (first | exact trivial | rfl | exact Nat.le_of_ble_eq_true rfl | refine And.intro ?_ ?_)) rfl rfl rfl rfl | exact sBSF (by repeat' (first | exact trivial | rfl | exact Nat.le_of_ble_eq_true rfl | refine And.intro ?_ ?_)) rfl rfl rfl rfl | exact sLe rfl | exact Chk.mk (by kernel_rfl) | exact ⟨Chk.mk (by kernel_rfl)⟩ | exact sLeEq rfl rfl | exact sAnd (by repeat' constructor) (c_szNode _ _ (by decide) (by decide) hn) | refine fun h => ?_)
    all_goals (refine ⟨?_⟩; simp)
  have oa : n.ok lim := (szOk_node n).ok 1048576 (by decide) (by decide) (by omega)
  have op := stateOf_ok n
  have cS := c_spec_NodeState n oa
  have cT := t_NodeState n oa
  generalize stateOf n = r at *
  have ha0 := ctNode_bd oa
  have hr1 : r.boxes.length ≤ 1048576 := op.1
  have hr2 : r.dones.length ≤ 1048576 := op.2
  have kN := tmark_eq (k2 := 1 + ctNode n) (k_markNode n 1 (by decide) (by decide) oa) (ctNode_eq n 1)
  have kR := k_markState r 1 (by decide) (by decide) op
  have hR := h_heldState r 1 (by decide) (by decide) op
  refine Law.vc [(13, .res (oi (szNode n 1048576))), (17, .res (.agg n.cells)), (18, .con false [] [] [] (fun _ _ => tSt r)), (800006, .row [])] TTok hmo Go.Proofs.Tryz.func4 (by kernel_rfl) rfl (by kernel_rfl) rfl (fun A U => ?_)
  repeat' (first | refine And.intro ?_ ?_ | exact tf | exact ft | refine tt ?_ | refine ff ?_ | exact ⟨trivial⟩ | exact sAll rfl | exact sF1 rfl | exact sBld (by repeat' (first | exact trivial | rfl | exact Nat.le_of_ble_eq_true rfl | refine And.intro ?_ ?_)) rfl | exact sBS (by repeat' (first | exact trivial | rfl | exact Nat.le_of_ble_eq_true rfl | refine And.intro ?_ ?_)) rfl rfl rfl rfl | exact sBSF (by repeat' (first | exact trivial | rfl | exact Nat.le_of_ble_eq_true rfl | refine And.intro ?_ ?_)) rfl rfl rfl rfl | exact sLe rfl | exact Chk.mk (by kernel_rfl) | exact ⟨Chk.mk (by kernel_rfl)⟩ | exact sLeEq rfl rfl | exact sAnd (by repeat' constructor) (c_szNode _ _ (by decide) (by decide) hn) | exact sAnd (by repeat' constructor) (c_toNode _ oa) | refine fun h => ?_)
  all_goals try (exfalso; exact h1 (of_decide_eq_true h))
  all_goals try (exact Side.mk cS)
  all_goals try (exact Side.mk fun _ _ => trivial)
  refine W.tellB 1 1 rfl (fun B1 w1 => ?_)
  refine W.tellB 1 2 rfl (fun B2 w2 => ?_)
  refine W.go [(20, .tre true (fun _ => .agg n.cells)), (22, .tre true (fun _ => .agg r.cells)), (25, .res (ob (decide (r = r)))), (29, .res (.agg n.cells)), (30, .res (ob (decide (n = n)))), (800012, .row [])] TTok hmo ?_
  repeat' (first | refine And.intro ?_ ?_ | exact tf | exact ft | refine tt ?_ | refine ff ?_ | exact ⟨trivial⟩ | exact sAll rfl | exact sF1 rfl | exact sBld (by repeat' (first | exact trivial | rfl | exact Nat.le_of_ble_eq_true rfl | refine And.intro ?_ ?_)) rfl | exact sBS (by repeat' (first | exact trivial | rfl | exact Nat.le_of_ble_eq_true rfl | refine And.intro ?_ ?_)) rfl rfl rfl rfl | exact sBSF (by repeat' (first | exact trivial | rfl | exact Nat.le_of_ble_eq_true rfl | refine And.intro ?_ ?_)) rfl rfl rfl rfl | exact sLe rfl | exact Chk.mk (by kernel_rfl) | exact ⟨Chk.mk (by kernel_rfl)⟩ | exact sLeEq rfl rfl | exact sAnd (by repeat' constructor) (c_toNode _ oa) | exact sAnd (by repeat' constructor) (c_eqState _ _ op op) | exact sAnd (by repeat' constructor) (c_eqNode _ _ oa oa) | refine fun h => ?_)
  all_goals try (exfalso; simp_all; done)
  all_goals try (exact Side.mk (cT))
  all_goals try (exact Side.mk (t_toNode n oa))
  all_goals try (refine Side.mk ?_; (repeat' constructor); done)
  rename_i T1 hT1 D1 T2 hT2 D2 e1
  refine W.sub ⟨69, 4, [(1, .one (.ptr 0 0 0)), (4, .one (.ptr 1 0 0)), (5, .one (.ptr 2 0 0)), (6, .one (.ptr 3 0 0))],
    [(0, .box [i6 n.id, i6 n.acc.p, .tr false A (U 0 2) (n.acc.votes.map Vote.cells), .tr false A (U 0 3) (n.known.map Entry.cells), i6 n.seq, i6 n.phase, i6 n.bal, .tr false A (U 0 7) (n.fro.map Bool.cells), .tr false A (U 0 8) (n.best.map Vote.cells), bo n.cur.none, i6 n.cur.q.a, i6 n.cur.q.b, .tr false A (U 0 12) (n.cur.run.reads.map Two.cells), .tr false A (U 0 13) (n.cur.run.puts.map Two.cells), i6 n.cur.run.c, i6 n.cur.run.d, .tr false A (U 0 16) (n.votes.map Bool.cells), bo n.busy, .tr false A (U 0 18) (n.prog.map Ins.cells), bo n.want.none, i6 n.want.q.a, i6 n.want.q.b, .tr false A (U 0 22) (n.want.run.reads.map Two.cells), .tr false A (U 0 23) (n.want.run.puts.map Two.cells), i6 n.want.run.c, i6 n.want.run.d, .tr false A (U 0 26) (n.queue.map Entry.cells)]), (1, .box [i6 r.at_, .tr false B1 w1 (r.boxes.map Two.cells), .tr false B2 w2 (r.dones.map Done.cells)]), (2, .box [i6 n.id, i6 n.acc.p, .tr true (T1 0 2).B (T1 0 2).u (n.acc.votes.map Vote.cells), .tr true (T1 0 3).B (T1 0 3).u (n.known.map Entry.cells), i6 n.seq, i6 n.phase, i6 n.bal, .tr true (T1 0 7).B (T1 0 7).u (n.fro.map Bool.cells), .tr true (T1 0 8).B (T1 0 8).u (n.best.map Vote.cells), bo n.cur.none, i6 n.cur.q.a, i6 n.cur.q.b, .tr true (T1 0 12).B (T1 0 12).u (n.cur.run.reads.map Two.cells), .tr true (T1 0 13).B (T1 0 13).u (n.cur.run.puts.map Two.cells), i6 n.cur.run.c, i6 n.cur.run.d, .tr true (T1 0 16).B (T1 0 16).u (n.votes.map Bool.cells), bo n.busy, .tr true (T1 0 18).B (T1 0 18).u (n.prog.map Ins.cells), bo n.want.none, i6 n.want.q.a, i6 n.want.q.b, .tr true (T1 0 22).B (T1 0 22).u (n.want.run.reads.map Two.cells), .tr true (T1 0 23).B (T1 0 23).u (n.want.run.puts.map Two.cells), i6 n.want.run.c, i6 n.want.run.d, .tr true (T1 0 26).B (T1 0 26).u (n.queue.map Entry.cells)]), (3, .box [i6 r.at_, .tr true (T2 0 1).B (T2 0 1).u (r.boxes.map Two.cells), .tr true (T2 0 2).B (T2 0 2).u (r.dones.map Done.cells)])]⟩ [] ?_ ?_
  · repeat' (first | exact trivial | exact ⟨trivial⟩ | exact Side.mk rfl | exact sF1 rfl | exact Chk.mk (by kernel_rfl) | exact ⟨Chk.mk (by kernel_rfl)⟩ | refine And.intro ?_ ?_ | rfl)
  refine W.go [(34, .mark (fun _ _ => (.agg (mkNode n 1).cells, 1 + ctNode n)) [1, 4, 5, 6] [] [0, 1, 2, 3] [(2, 2, 2), (2, 3, 3), (2, 7, 7), (2, 8, 8), (2, 12, 12), (2, 13, 13), (2, 16, 16), (2, 18, 18), (2, 22, 22), (2, 23, 23), (2, 26, 26)]), (40, .res (ob (decide (r = r)))), (800016, .row [])] TTok hmo ?_
  repeat' (first | refine And.intro ?_ ?_ | exact tf | exact ft | refine tt ?_ | refine ff ?_ | exact ⟨trivial⟩ | exact sAll rfl | exact sF1 rfl | exact sBld (by repeat' (first | exact trivial | rfl | exact Nat.le_of_ble_eq_true rfl | refine And.intro ?_ ?_)) rfl | exact sBS (by repeat' (first | exact trivial | rfl | exact Nat.le_of_ble_eq_true rfl | refine And.intro ?_ ?_)) rfl rfl rfl rfl | exact sBSF (by repeat' (first | exact trivial | rfl | exact Nat.le_of_ble_eq_true rfl | refine And.intro ?_ ?_)) rfl rfl rfl rfl | exact sLe rfl | exact Chk.mk (by kernel_rfl) | exact ⟨Chk.mk (by kernel_rfl)⟩ | exact sLeEq rfl rfl | exact sAnd (by repeat' constructor) (c_eqState _ _ op op) | refine fun h => ?_)
  all_goals try (exfalso; simp_all; done)
  all_goals try (exact ⟨apart_row (B := T1 0) (o := 0) (fun j j' x r1 r2 => (hT1 0 j 0 j' x r1 r2).2) (cs0 := n.cells)⟩)
  all_goals try (exact Side.mk (kN))
  all_goals try (exact trivial)
  all_goals try (repeat' (first | exact trivial | exact Side.mk (.sc _) | exact Side.mk (.ptr _ _ _) | exact Side.mk (.mk _ _ _ _ (List.Mem.tail _ (List.Mem.tail _ (List.Mem.head _)))) | exact Side.mk (.mk _ _ _ _ (List.Mem.tail _ (List.Mem.tail _ (List.Mem.tail _ (List.Mem.head _))))) | exact Side.mk (.mk _ _ _ _ (List.Mem.tail _ (List.Mem.tail _ (List.Mem.tail _ (List.Mem.tail _ (List.Mem.tail _ (List.Mem.tail _ (List.Mem.tail _ (List.Mem.head _))))))))) | exact Side.mk (.mk _ _ _ _ (List.Mem.tail _ (List.Mem.tail _ (List.Mem.tail _ (List.Mem.tail _ (List.Mem.tail _ (List.Mem.tail _ (List.Mem.tail _ (List.Mem.tail _ (List.Mem.head _)))))))))) | exact Side.mk (.mk _ _ _ _ (List.Mem.tail _ (List.Mem.tail _ (List.Mem.tail _ (List.Mem.tail _ (List.Mem.tail _ (List.Mem.tail _ (List.Mem.tail _ (List.Mem.tail _ (List.Mem.tail _ (List.Mem.tail _ (List.Mem.tail _ (List.Mem.tail _ (List.Mem.head _)))))))))))))) | exact Side.mk (.mk _ _ _ _ (List.Mem.tail _ (List.Mem.tail _ (List.Mem.tail _ (List.Mem.tail _ (List.Mem.tail _ (List.Mem.tail _ (List.Mem.tail _ (List.Mem.tail _ (List.Mem.tail _ (List.Mem.tail _ (List.Mem.tail _ (List.Mem.tail _ (List.Mem.tail _ (List.Mem.head _))))))))))))))) | exact Side.mk (.mk _ _ _ _ (List.Mem.tail _ (List.Mem.tail _ (List.Mem.tail _ (List.Mem.tail _ (List.Mem.tail _ (List.Mem.tail _ (List.Mem.tail _ (List.Mem.tail _ (List.Mem.tail _ (List.Mem.tail _ (List.Mem.tail _ (List.Mem.tail _ (List.Mem.tail _ (List.Mem.tail _ (List.Mem.tail _ (List.Mem.tail _ (List.Mem.head _)))))))))))))))))) | exact Side.mk (.mk _ _ _ _ (List.Mem.tail _ (List.Mem.tail _ (List.Mem.tail _ (List.Mem.tail _ (List.Mem.tail _ (List.Mem.tail _ (List.Mem.tail _ (List.Mem.tail _ (List.Mem.tail _ (List.Mem.tail _ (List.Mem.tail _ (List.Mem.tail _ (List.Mem.tail _ (List.Mem.tail _ (List.Mem.tail _ (List.Mem.tail _ (List.Mem.tail _ (List.Mem.tail _ (List.Mem.head _)))))))))))))))))))) | exact Side.mk (.mk _ _ _ _ (List.Mem.tail _ (List.Mem.tail _ (List.Mem.tail _ (List.Mem.tail _ (List.Mem.tail _ (List.Mem.tail _ (List.Mem.tail _ (List.Mem.tail _ (List.Mem.tail _ (List.Mem.tail _ (List.Mem.tail _ (List.Mem.tail _ (List.Mem.tail _ (List.Mem.tail _ (List.Mem.tail _ (List.Mem.tail _ (List.Mem.tail _ (List.Mem.tail _ (List.Mem.tail _ (List.Mem.tail _ (List.Mem.tail _ (List.Mem.tail _ (List.Mem.head _)))))))))))))))))))))))) | exact Side.mk (.mk _ _ _ _ (List.Mem.tail _ (List.Mem.tail _ (List.Mem.tail _ (List.Mem.tail _ (List.Mem.tail _ (List.Mem.tail _ (List.Mem.tail _ (List.Mem.tail _ (List.Mem.tail _ (List.Mem.tail _ (List.Mem.tail _ (List.Mem.tail _ (List.Mem.tail _ (List.Mem.tail _ (List.Mem.tail _ (List.Mem.tail _ (List.Mem.tail _ (List.Mem.tail _ (List.Mem.tail _ (List.Mem.tail _ (List.Mem.tail _ (List.Mem.tail _ (List.Mem.tail _ (List.Mem.head _))))))))))))))))))))))))) | exact Side.mk (.mk _ _ _ _ (List.Mem.tail _ (List.Mem.tail _ (List.Mem.tail _ (List.Mem.tail _ (List.Mem.tail _ (List.Mem.tail _ (List.Mem.tail _ (List.Mem.tail _ (List.Mem.tail _ (List.Mem.tail _ (List.Mem.tail _ (List.Mem.tail _ (List.Mem.tail _ (List.Mem.tail _ (List.Mem.tail _ (List.Mem.tail _ (List.Mem.tail _ (List.Mem.tail _ (List.Mem.tail _ (List.Mem.tail _ (List.Mem.tail _ (List.Mem.tail _ (List.Mem.tail _ (List.Mem.tail _ (List.Mem.tail _ (List.Mem.tail _ (List.Mem.head _)))))))))))))))))))))))))))) | exact Side.mk (.tr _ _ _ _ fun y h1 h2 => disAt (D1.st 0 _ rfl) 2 rfl y h1 (in_any (T := T1) (i := 0) (o := 0) (cs0 := n.cells) h2)) | exact Side.mk (.tr _ _ _ _ fun y h1 h2 => disAt (D1.st 0 _ rfl) 3 rfl y h1 (in_any (T := T1) (i := 0) (o := 0) (cs0 := n.cells) h2)) | exact Side.mk (.tr _ _ _ _ fun y h1 h2 => disAt (D1.st 0 _ rfl) 7 rfl y h1 (in_any (T := T1) (i := 0) (o := 0) (cs0 := n.cells) h2)) | exact Side.mk (.tr _ _ _ _ fun y h1 h2 => disAt (D1.st 0 _ rfl) 8 rfl y h1 (in_any (T := T1) (i := 0) (o := 0) (cs0 := n.cells) h2)) | exact Side.mk (.tr _ _ _ _ fun y h1 h2 => disAt (D1.st 0 _ rfl) 12 rfl y h1 (in_any (T := T1) (i := 0) (o := 0) (cs0 := n.cells) h2)) | exact Side.mk (.tr _ _ _ _ fun y h1 h2 => disAt (D1.st 0 _ rfl) 13 rfl y h1 (in_any (T := T1) (i := 0) (o := 0) (cs0 := n.cells) h2)) | exact Side.mk (.tr _ _ _ _ fun y h1 h2 => disAt (D1.st 0 _ rfl) 16 rfl y h1 (in_any (T := T1) (i := 0) (o := 0) (cs0 := n.cells) h2)) | exact Side.mk (.tr _ _ _ _ fun y h1 h2 => disAt (D1.st 0 _ rfl) 18 rfl y h1 (in_any (T := T1) (i := 0) (o := 0) (cs0 := n.cells) h2)) | exact Side.mk (.tr _ _ _ _ fun y h1 h2 => disAt (D1.st 0 _ rfl) 22 rfl y h1 (in_any (T := T1) (i := 0) (o := 0) (cs0 := n.cells) h2)) | exact Side.mk (.tr _ _ _ _ fun y h1 h2 => disAt (D1.st 0 _ rfl) 23 rfl y h1 (in_any (T := T1) (i := 0) (o := 0) (cs0 := n.cells) h2)) | exact Side.mk (.tr _ _ _ _ fun y h1 h2 => disAt (D1.st 0 _ rfl) 26 rfl y h1 (in_any (T := T1) (i := 0) (o := 0) (cs0 := n.cells) h2)) | exact Side.mk (.tr _ _ _ _ fun y h1 h2 => disAt (D1.st 1 _ rfl) 1 rfl y h1 (in_any (T := T1) (i := 0) (o := 0) (cs0 := n.cells) h2)) | exact Side.mk (.tr _ _ _ _ fun y h1 h2 => disAt (D1.st 1 _ rfl) 2 rfl y h1 (in_any (T := T1) (i := 0) (o := 0) (cs0 := n.cells) h2)) | exact Side.mk (.tr _ _ _ _ fun y h1 h2 => absurd (show Any T2 y from ⟨0, 1, h1⟩) (in_dis (D2.st 2 _ rfl) h2)) | exact Side.mk (.tr _ _ _ _ fun y h1 h2 => absurd (show Any T2 y from ⟨0, 2, h1⟩) (in_dis (D2.st 2 _ rfl) h2)) | refine And.intro ?_ ?_); done)
  all_goals try (exfalso; have h3 := of_decide_eq_true h; (try dsimp only at h3); omega)
  refine W.sub ⟨69, 4, [(1, .one (.ptr 0 0 0)), (4, .one (.ptr 1 0 0)), (6, .one (.ptr 3 0 0))],
    [(0, .box [i6 n.id, i6 n.acc.p, .tr false A (U 0 2) (n.acc.votes.map Vote.cells), .tr false A (U 0 3) (n.known.map Entry.cells), i6 n.seq, i6 n.phase, i6 n.bal, .tr false A (U 0 7) (n.fro.map Bool.cells), .tr false A (U 0 8) (n.best.map Vote.cells), bo n.cur.none, i6 n.cur.q.a, i6 n.cur.q.b, .tr false A (U 0 12) (n.cur.run.reads.map Two.cells), .tr false A (U 0 13) (n.cur.run.puts.map Two.cells), i6 n.cur.run.c, i6 n.cur.run.d, .tr false A (U 0 16) (n.votes.map Bool.cells), bo n.busy, .tr false A (U 0 18) (n.prog.map Ins.cells), bo n.want.none, i6 n.want.q.a, i6 n.want.q.b, .tr false A (U 0 22) (n.want.run.reads.map Two.cells), .tr false A (U 0 23) (n.want.run.puts.map Two.cells), i6 n.want.run.c, i6 n.want.run.d, .tr false A (U 0 26) (n.queue.map Entry.cells)]), (1, .box [i6 r.at_, .tr false B1 w1 (r.boxes.map Two.cells), .tr false B2 w2 (r.dones.map Done.cells)]), (3, .box [i6 r.at_, .tr true (T2 0 1).B (T2 0 1).u (r.boxes.map Two.cells), .tr true (T2 0 2).B (T2 0 2).u (r.dones.map Done.cells)])]⟩ [] ?_ ?_
  · repeat' (first | exact trivial | exact ⟨trivial⟩ | exact Side.mk rfl | exact sF1 rfl | exact Chk.mk (by kernel_rfl) | exact ⟨Chk.mk (by kernel_rfl)⟩ | refine And.intro ?_ ?_ | rfl)
  refine W.go [(45, .mark (fun _ _ => (.agg (mkSt r 1).cells, 1 + 2 * (r.boxes.length : Int) + 4 * (r.dones.length : Int))) [1, 4, 6] [] [0, 1, 3] [(3, 1, 1), (3, 2, 2)]), (48, .res (oi (1 + 2 * (r.boxes.length : Int) + 4 * (r.dones.length : Int)))), (55, .res (.agg n.cells)), (56, .tre true (fun _ => .agg r.cells)), (59, .res (ob (decide (r = r)))), (63, .res (oi (1 + 2 * (r.boxes.length : Int) + 4 * (r.dones.length : Int))))] TTok hmo ?_
  repeat' (first | refine And.intro ?_ ?_ | exact tf | exact ft | refine tt ?_ | refine ff ?_ | exact ⟨trivial⟩ | exact sAll rfl | exact sF1 rfl | exact sBld (by repeat' (first | exact trivial | rfl | exact Nat.le_of_ble_eq_true rfl | refine And.intro ?_ ?_)) rfl | exact sBS (by repeat' (first | exact trivial | rfl | exact Nat.le_of_ble_eq_true rfl | refine And.intro ?_ ?_)) rfl rfl rfl rfl | exact sBSF (by repeat' (first | exact trivial | rfl | exact Nat.le_of_ble_eq_true rfl | refine And.intro ?_ ?_)) rfl rfl rfl rfl | exact sLe rfl | exact Chk.mk (by kernel_rfl) | exact ⟨Chk.mk (by kernel_rfl)⟩ | exact sLeEq rfl rfl | exact sAnd (by repeat' constructor) (c_toNode _ oa) | exact sAnd (by repeat' constructor) (c_eqState _ _ op op) | exact sAnd (by repeat' constructor) (hR) | refine fun h => ?_)
  all_goals try (exfalso; simp_all; done)
  all_goals try (exact ⟨apart_row (B := T2 0) (o := 0) (fun j j' x r1 r2 => (hT2 0 j 0 j' x r1 r2).2) (cs0 := r.cells)⟩)
  all_goals try (exact Side.mk (kR))
  all_goals try (exact Side.mk (cT))
  all_goals try (exact trivial)
  all_goals try (repeat' (first | exact trivial | exact Side.mk (.sc _) | exact Side.mk (.ptr _ _ _) | exact Side.mk (.mk _ _ _ _ (List.Mem.tail _ (List.Mem.head _))) | exact Side.mk (.mk _ _ _ _ (List.Mem.tail _ (List.Mem.tail _ (List.Mem.head _)))) | exact Side.mk (.tr _ _ _ _ fun y h1 h2 => disAt (D2.st 0 _ rfl) 2 rfl y h1 (in_any (T := T2) (i := 0) (o := 0) (cs0 := r.cells) h2)) | exact Side.mk (.tr _ _ _ _ fun y h1 h2 => disAt (D2.st 0 _ rfl) 3 rfl y h1 (in_any (T := T2) (i := 0) (o := 0) (cs0 := r.cells) h2)) | exact Side.mk (.tr _ _ _ _ fun y h1 h2 => disAt (D2.st 0 _ rfl) 7 rfl y h1 (in_any (T := T2) (i := 0) (o := 0) (cs0 := r.cells) h2)) | exact Side.mk (.tr _ _ _ _ fun y h1 h2 => disAt (D2.st 0 _ rfl) 8 rfl y h1 (in_any (T := T2) (i := 0) (o := 0) (cs0 := r.cells) h2)) | exact Side.mk (.tr _ _ _ _ fun y h1 h2 => disAt (D2.st 0 _ rfl) 12 rfl y h1 (in_any (T := T2) (i := 0) (o := 0) (cs0 := r.cells) h2)) | exact Side.mk (.tr _ _ _ _ fun y h1 h2 => disAt (D2.st 0 _ rfl) 13 rfl y h1 (in_any (T := T2) (i := 0) (o := 0) (cs0 := r.cells) h2)) | exact Side.mk (.tr _ _ _ _ fun y h1 h2 => disAt (D2.st 0 _ rfl) 16 rfl y h1 (in_any (T := T2) (i := 0) (o := 0) (cs0 := r.cells) h2)) | exact Side.mk (.tr _ _ _ _ fun y h1 h2 => disAt (D2.st 0 _ rfl) 18 rfl y h1 (in_any (T := T2) (i := 0) (o := 0) (cs0 := r.cells) h2)) | exact Side.mk (.tr _ _ _ _ fun y h1 h2 => disAt (D2.st 0 _ rfl) 22 rfl y h1 (in_any (T := T2) (i := 0) (o := 0) (cs0 := r.cells) h2)) | exact Side.mk (.tr _ _ _ _ fun y h1 h2 => disAt (D2.st 0 _ rfl) 23 rfl y h1 (in_any (T := T2) (i := 0) (o := 0) (cs0 := r.cells) h2)) | exact Side.mk (.tr _ _ _ _ fun y h1 h2 => disAt (D2.st 0 _ rfl) 26 rfl y h1 (in_any (T := T2) (i := 0) (o := 0) (cs0 := r.cells) h2)) | exact Side.mk (.tr _ _ _ _ fun y h1 h2 => disAt (D2.st 1 _ rfl) 1 rfl y h1 (in_any (T := T2) (i := 0) (o := 0) (cs0 := r.cells) h2)) | exact Side.mk (.tr _ _ _ _ fun y h1 h2 => disAt (D2.st 1 _ rfl) 2 rfl y h1 (in_any (T := T2) (i := 0) (o := 0) (cs0 := r.cells) h2)) | exact Side.mk (.tr _ _ _ _ fun y h1 h2 => disAt (D2.st 2 _ rfl) 2 rfl y h1 (in_any (T := T2) (i := 0) (o := 0) (cs0 := r.cells) h2)) | exact Side.mk (.tr _ _ _ _ fun y h1 h2 => disAt (D2.st 2 _ rfl) 3 rfl y h1 (in_any (T := T2) (i := 0) (o := 0) (cs0 := r.cells) h2)) | exact Side.mk (.tr _ _ _ _ fun y h1 h2 => disAt (D2.st 2 _ rfl) 7 rfl y h1 (in_any (T := T2) (i := 0) (o := 0) (cs0 := r.cells) h2)) | exact Side.mk (.tr _ _ _ _ fun y h1 h2 => disAt (D2.st 2 _ rfl) 8 rfl y h1 (in_any (T := T2) (i := 0) (o := 0) (cs0 := r.cells) h2)) | exact Side.mk (.tr _ _ _ _ fun y h1 h2 => disAt (D2.st 2 _ rfl) 12 rfl y h1 (in_any (T := T2) (i := 0) (o := 0) (cs0 := r.cells) h2)) | exact Side.mk (.tr _ _ _ _ fun y h1 h2 => disAt (D2.st 2 _ rfl) 13 rfl y h1 (in_any (T := T2) (i := 0) (o := 0) (cs0 := r.cells) h2)) | exact Side.mk (.tr _ _ _ _ fun y h1 h2 => disAt (D2.st 2 _ rfl) 16 rfl y h1 (in_any (T := T2) (i := 0) (o := 0) (cs0 := r.cells) h2)) | exact Side.mk (.tr _ _ _ _ fun y h1 h2 => disAt (D2.st 2 _ rfl) 18 rfl y h1 (in_any (T := T2) (i := 0) (o := 0) (cs0 := r.cells) h2)) | exact Side.mk (.tr _ _ _ _ fun y h1 h2 => disAt (D2.st 2 _ rfl) 22 rfl y h1 (in_any (T := T2) (i := 0) (o := 0) (cs0 := r.cells) h2)) | exact Side.mk (.tr _ _ _ _ fun y h1 h2 => disAt (D2.st 2 _ rfl) 23 rfl y h1 (in_any (T := T2) (i := 0) (o := 0) (cs0 := r.cells) h2)) | exact Side.mk (.tr _ _ _ _ fun y h1 h2 => disAt (D2.st 2 _ rfl) 26 rfl y h1 (in_any (T := T2) (i := 0) (o := 0) (cs0 := r.cells) h2)) | refine And.intro ?_ ?_); done)
  all_goals try (exfalso; have h3 := of_decide_eq_true h; (try dsimp only at h3); omega)
  all_goals try (exact Side.mk (cT))
  all_goals try (refine ⟨?_⟩; simp; done)
  all_goals skip
end Mg
