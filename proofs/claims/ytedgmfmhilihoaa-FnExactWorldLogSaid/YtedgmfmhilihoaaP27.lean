/- Parts of the abstract state logic and of the walks, one behind the other: R2R, NW3. No condition. -/
import Derived.Test.YtedgmfmhilihoaaP26
import Derived.Test.YtedgmfmhilihoaaP15
import Derived.Test.YtedgmfmhilihoaaP21
/- What nodes and worlds read as. No condition. -/
namespace Mg
open Go Go.RowKit
set_option maxRecDepth 100000
set_option linter.unusedVariables false
set_option linter.unusedSimpArgs false
theorem fit_ins {n : Nat} {cs : List MC} (h : fit TT n 171 cs) : ∃ x : Ins, cs = x.cells := by
  obtain ⟨n, f0, r0, rfl, h0, f1, r1, rfl, h1, f2, r2, rfl, h2, f3, r3, rfl, h3, rfl⟩ := fit_struct h (i := ⟨4, 32, .struct [(0, 3), (1, 3), (2, 3), (3, 3)], [.int .i64, .int .i64, .int .i64, .int .i64]⟩) rfl rfl
  obtain ⟨x0, rfl, _⟩ := fit_int h0 (i := ⟨1, 8, .int .i64, [.int .i64]⟩) rfl rfl
  obtain ⟨x1, rfl, _⟩ := fit_int h1 (i := ⟨1, 8, .int .i64, [.int .i64]⟩) rfl rfl
  obtain ⟨x2, rfl, _⟩ := fit_int h2 (i := ⟨1, 8, .int .i64, [.int .i64]⟩) rfl rfl
  obtain ⟨x3, rfl, _⟩ := fit_int h3 (i := ⟨1, 8, .int .i64, [.int .i64]⟩) rfl rfl
  exact ⟨⟨x0, x1, x2, x3⟩, by simp [Ins.cells]⟩
theorem fit_inss {n : Nat} {cs : List MC} (h : fit TT n 116 cs) : ∃ xs : List Ins, cs = [.fz (xs.map Ins.cells)] ∧ xs.length ≤ maxLen := by
  obtain ⟨rows, rfl, hl, hr⟩ := fit_slice h (i := ⟨1, 24, .slice 171, [.nil]⟩) rfl rfl
  obtain ⟨xs, rfl, hv⟩ := rows_data (c := Ins.cells) (p := fun v => True) fun r hr' => by
    obtain ⟨n, hn⟩ := hr r hr'
    obtain ⟨x, hx⟩ := fit_ins hn; exact ⟨x, hx, trivial⟩
  exact ⟨xs, rfl, by simpa using hl⟩
theorem fit_bools {n : Nat} {cs : List MC} (h : fit TT n 48 cs) : ∃ xs : List Bool, cs = [.fz (xs.map Bool.cells)] ∧ xs.length ≤ maxLen := by
  obtain ⟨rows, rfl, hl, hr⟩ := fit_slice h (i := ⟨1, 24, .slice 4, [.nil]⟩) rfl rfl
  obtain ⟨xs, rfl, hv⟩ := rows_data (c := Bool.cells) (p := fun v => True) fun r hr' => by
    obtain ⟨n, hn⟩ := hr r hr'
    obtain ⟨x, hx⟩ := fit_bool hn (i := ⟨1, 1, .bool, [.bool]⟩) rfl rfl; exact ⟨x, hx, trivial⟩
  exact ⟨xs, rfl, by simpa using hl⟩
theorem fit_entries {n : Nat} {cs : List MC} (h : fit TT n 108 cs) : ∃ xs : List Entry, cs = [.fz (xs.map Entry.cells)] ∧ xs.length ≤ maxLen ∧ ∀ v ∈ xs, v.ok maxLen := by
  obtain ⟨rows, rfl, hl, hr⟩ := fit_slice h (i := ⟨1, 24, .slice 115, [.nil]⟩) rfl rfl
  obtain ⟨xs, rfl, hv⟩ := rows_data (c := Entry.cells) (p := fun v => v.ok maxLen) fun r hr' => by
    obtain ⟨n, hn⟩ := hr r hr'
    exact fit_entry hn
  exact ⟨xs, rfl, by simpa using hl, hv⟩
theorem fit_msgs {n : Nat} {cs : List MC} (h : fit TT n 33 cs) : ∃ xs : List Msg, cs = [.fz (xs.map Msg.cells)] ∧ xs.length ≤ maxLen ∧ ∀ v ∈ xs, v.ok maxLen := by
  obtain ⟨rows, rfl, hl, hr⟩ := fit_slice h (i := ⟨1, 24, .slice 121, [.nil]⟩) rfl rfl
  obtain ⟨xs, rfl, hv⟩ := rows_data (c := Msg.cells) (p := fun v => v.ok maxLen) fun r hr' => by
    obtain ⟨n, hn⟩ := hr r hr'
    exact fit_msg hn
  exact ⟨xs, rfl, by simpa using hl, hv⟩
theorem fit_node {n : Nat} {cs : List MC} (h : fit TT n 118 cs) : ∃ x : Node, cs = x.cells ∧ x.ok maxLen := by
  obtain ⟨n, f0, r0, rfl, h0, f1, r1, rfl, h1, f2, r2, rfl, h2, f3, r3, rfl, h3, f4, r4, rfl, h4, f5, r5, rfl, h5, f6, r6, rfl, h6, f7, r7, rfl, h7, f8, r8, rfl, h8, f9, r9, rfl, h9, f10, r10, rfl, h10, f11, r11, rfl, h11, f12, r12, rfl, h12, f13, r13, rfl, h13, rfl⟩ := fit_struct h (i := ⟨27, 392, .struct [(0, 3), (1, 107), (3, 108), (4, 3), (5, 3), (6, 3), (7, 48), (8, 105), (9, 115), (16, 48), (17, 4), (18, 116), (19, 115), (26, 108)], [.int .i64, .int .i64, .nil, .nil, .int .i64, .int .i64, .int .i64, .nil, .nil, .bool, .int .i64, .int .i64, .nil, .nil, .int .i64, .int .i64, .nil, .bool, .nil, .bool, .int .i64, .int .i64, .nil, .nil, .int .i64, .int .i64, .nil]⟩) rfl rfl
  obtain ⟨x0, rfl, _⟩ := fit_int h0 (i := ⟨1, 8, .int .i64, [.int .i64]⟩) rfl rfl
  obtain ⟨x1, rfl, o1⟩ := fit_acc h1
  obtain ⟨x2, rfl, o2⟩ := fit_entries h2
  obtain ⟨x3, rfl, _⟩ := fit_int h3 (i := ⟨1, 8, .int .i64, [.int .i64]⟩) rfl rfl
  obtain ⟨x4, rfl, _⟩ := fit_int h4 (i := ⟨1, 8, .int .i64, [.int .i64]⟩) rfl rfl
  obtain ⟨x5, rfl, _⟩ := fit_int h5 (i := ⟨1, 8, .int .i64, [.int .i64]⟩) rfl rfl
  obtain ⟨x6, rfl, o6⟩ := fit_bools h6
  obtain ⟨x7, rfl, o7⟩ := fit_votes h7
  obtain ⟨x8, rfl, o8⟩ := fit_entry h8
  obtain ⟨x9, rfl, o9⟩ := fit_bools h9
  obtain ⟨x10, rfl⟩ := fit_bool h10 (i := ⟨1, 1, .bool, [.bool]⟩) rfl rfl
  obtain ⟨x11, rfl, o11⟩ := fit_inss h11
  obtain ⟨x12, rfl, o12⟩ := fit_entry h12
  obtain ⟨x13, rfl, o13⟩ := fit_entries h13
  exact ⟨⟨x0, x1, x2, x3, x4, x5, x6, x7, x8, x9, x10, x11, x12, x13⟩, by simp [Node.cells], ⟨o1, o2, o6, o7, o8, o9, o11, o12, o13⟩⟩
theorem fit_nodes {n : Nat} {cs : List MC} (h : fit TT n 32 cs) : ∃ xs : List Node, cs = [.fz (xs.map Node.cells)] ∧ xs.length ≤ maxLen ∧ ∀ v ∈ xs, v.ok maxLen := by
  obtain ⟨rows, rfl, hl, hr⟩ := fit_slice h (i := ⟨1, 24, .slice 118, [.nil]⟩) rfl rfl
  obtain ⟨xs, rfl, hv⟩ := rows_data (c := Node.cells) (p := fun v => v.ok maxLen) fun r hr' => by
    obtain ⟨n, hn⟩ := hr r hr'
    exact fit_node hn
  exact ⟨xs, rfl, by simpa using hl, hv⟩
theorem fit_asked {n : Nat} {cs : List MC} (h : fit TT n 124 cs) : ∃ x : Asked, cs = x.cells ∧ x.ok maxLen := by
  obtain ⟨n, f0, r0, rfl, h0, f1, r1, rfl, h1, rfl⟩ := fit_struct h (i := ⟨3, 40, .struct [(0, 109), (2, 116)], [.int .i64, .int .i64, .nil]⟩) rfl rfl
  obtain ⟨x0, rfl⟩ := fit_two h0 (i := ⟨2, 16, .struct [(0, 3), (1, 3)], [.int .i64, .int .i64]⟩) rfl rfl
  obtain ⟨x1, rfl, o1⟩ := fit_inss h1
  exact ⟨⟨x0, x1⟩, by simp [Asked.cells], o1⟩
theorem fit_askeds {n : Nat} {cs : List MC} (h : fit TT n 34 cs) : ∃ xs : List Asked, cs = [.fz (xs.map Asked.cells)] ∧ xs.length ≤ maxLen ∧ ∀ v ∈ xs, v.ok maxLen := by
  obtain ⟨rows, rfl, hl, hr⟩ := fit_slice h (i := ⟨1, 24, .slice 124, [.nil]⟩) rfl rfl
  obtain ⟨xs, rfl, hv⟩ := rows_data (c := Asked.cells) (p := fun v => v.ok maxLen) fun r hr' => by
    obtain ⟨n, hn⟩ := hr r hr'
    exact fit_asked hn
  exact ⟨xs, rfl, by simpa using hl, hv⟩
theorem fit_told {n : Nat} {cs : List MC} (h : fit TT n 131 cs) : ∃ x : Told, cs = x.cells := by
  obtain ⟨n, f0, r0, rfl, h0, f1, r1, rfl, h1, f2, r2, rfl, h2, f3, r3, rfl, h3, rfl⟩ := fit_struct h (i := ⟨5, 40, .struct [(0, 3), (1, 109), (3, 3), (4, 3)], [.int .i64, .int .i64, .int .i64, .int .i64, .int .i64]⟩) rfl rfl
  obtain ⟨x0, rfl, _⟩ := fit_int h0 (i := ⟨1, 8, .int .i64, [.int .i64]⟩) rfl rfl
  obtain ⟨x1, rfl⟩ := fit_two h1 (i := ⟨2, 16, .struct [(0, 3), (1, 3)], [.int .i64, .int .i64]⟩) rfl rfl
  obtain ⟨x2, rfl, _⟩ := fit_int h2 (i := ⟨1, 8, .int .i64, [.int .i64]⟩) rfl rfl
  obtain ⟨x3, rfl, _⟩ := fit_int h3 (i := ⟨1, 8, .int .i64, [.int .i64]⟩) rfl rfl
  exact ⟨⟨x0, x1, x2, x3⟩, by simp [Told.cells]⟩
theorem fit_tolds {n : Nat} {cs : List MC} (h : fit TT n 35 cs) : ∃ xs : List Told, cs = [.fz (xs.map Told.cells)] ∧ xs.length ≤ maxLen := by
  obtain ⟨rows, rfl, hl, hr⟩ := fit_slice h (i := ⟨1, 24, .slice 131, [.nil]⟩) rfl rfl
  obtain ⟨xs, rfl, hv⟩ := rows_data (c := Told.cells) (p := fun v => True) fun r hr' => by
    obtain ⟨n, hn⟩ := hr r hr'
    obtain ⟨x, hx⟩ := fit_told hn; exact ⟨x, hx, trivial⟩
  exact ⟨xs, rfl, by simpa using hl⟩
theorem fit_world {n : Nat} {cs : List MC} (h : fit TT n 37 cs) : ∃ x : World, cs = x.cells ∧ x.ok maxLen := by
  obtain ⟨n, f0, r0, rfl, h0, f1, r1, rfl, h1, f2, r2, rfl, h2, f3, r3, rfl, h3, rfl⟩ := fit_struct h (i := ⟨4, 96, .struct [(0, 32), (1, 33), (2, 34), (3, 35)], [.nil, .nil, .nil, .nil]⟩) rfl rfl
  obtain ⟨x0, rfl, o0⟩ := fit_nodes h0
  obtain ⟨x1, rfl, o1⟩ := fit_msgs h1
  obtain ⟨x2, rfl, o2⟩ := fit_askeds h2
  obtain ⟨x3, rfl, o3⟩ := fit_tolds h3
  exact ⟨⟨x0, x1, x2, x3⟩, by simp [World.cells], ⟨o0, o1, o2, o3⟩⟩
end Mg

/- The law of the longest list, walked. No condition. -/
namespace Mg
open Go Go.RowKit
set_option maxRecDepth 100000
set_option linter.unusedVariables false
set_option linter.unusedSimpArgs false
attribute [local irreducible] W Pure Con TPure TMark
set_option maxHeartbeats 16000000 in
theorem c_FnExactWorldLog (w : World) (hw : w.ok maxLen) : Pure PP false 4 [.agg w.cells] (ob true) := by
  by_cases h1 : szWorld w 1048576 < 0
  · refine Pure.vc [(13, .res (oi (szWorld w 1048576)))] TTok hmo Go.Proofs.Try.func4 (by kernel_rfl) rfl (by kernel_rfl) ?_
    repeat' (first | refine And.intro ?_ ?_ | exact tf | exact ft | refine tt ?_ | refine ff ?_ | exact fun h => absurd h1 (of_decide_eq_false h) | exact ⟨trivial⟩ | exact sAll rfl | exact sF1 rfl | exact sBld (by repeat' (first | exact trivial | rfl | exact Nat.le_of_ble_eq_true rfl | refine And.intro ?_ ?_)) rfl | exact sBS (by repeat' (first | exact trivial | rfl | exact Nat.le_of_ble_eq_true rfl | refine And.intro ?_ ?_)) rfl rfl rfl rfl | exact sBSF (by repeat' (first | exact trivial | rfl | exact Nat.le_of_ble_eq_true rfl | refine And.intro ?_ ?_)) rfl rfl rfl rfl | exact sLe rfl | exact Chk.mk (by kernel_rfl) | exact ⟨Chk.mk (by kernel_rfl)⟩ | exact sLeEq rfl rfl | exact sAnd (by repeat' constructor) (c_szWorld _ _ (by decide) (by decide) hw) | refine fun h => ?_)
    all_goals (refine ⟨?_⟩; simp)
  have oa : w.ok lim := (szOk_world w).ok 1048576 (by decide) (by decide) (by omega)
  have ow := szWorld_bdd (x := w) (l := 1048576) (by decide) (by decide) (by omega) oa
  have op := wLog_ok oa
  have cS := c_spec_WorldLog w oa
  have cT := t_WorldLog w oa
  generalize wLog w = r at *
  have n1 := nodes_nn oa
  have n2 := net_nn oa
  have n3 := asked_nn oa
  have n4 : w.told.length ≤ 1048576 := oa.told
  have hr0 := ctEntries_bd op
  have hmr : r.length ≤ maxLen := Nat.le_trans op.1 (by decide)
  have eR := c_eqEntryS r r hmr hmr op.2 op.2
  have kW := k_markWorld w 1 (by decide) (by decide) oa ow
  have kR := k_markEntryS r 1 (by decide) (by decide) op.1 op.2
  have hR := h_heldEntryS r 1 (by decide) (by decide) op.1 op.2
  refine Law.vc [(13, .res (oi (szWorld w 1048576))), (17, .res (.agg w.cells)), (18, .told (fun _ => .one (.fz (r.map Entry.cells)))), (20, .tre true (fun _ => .agg w.cells)), (22, .tre true (fun _ => .one (.fz (r.map Entry.cells)))), (25, .res (ob (decide (r = r)))), (29, .res (.agg w.cells)), (30, .res (ob (decide (w = w)))), (800012, .row [])] TTok hmo Go.Proofs.Try.func4 (by kernel_rfl) rfl (by kernel_rfl) rfl (fun A U => ?_)
  repeat' (first | refine And.intro ?_ ?_ | exact tf | exact ft | refine tt ?_ | refine ff ?_ | exact ⟨trivial⟩ | exact sAll rfl | exact sF1 rfl | exact sBld (by repeat' (first | exact trivial | rfl | exact Nat.le_of_ble_eq_true rfl | refine And.intro ?_ ?_)) rfl | exact sBS (by repeat' (first | exact trivial | rfl | exact Nat.le_of_ble_eq_true rfl | refine And.intro ?_ ?_)) rfl rfl rfl rfl | exact sBSF (by repeat' (first | exact trivial | rfl | exact Nat.le_of_ble_eq_true rfl | refine And.intro ?_ ?_)) rfl rfl rfl rfl | exact sLe rfl | exact Chk.mk (by kernel_rfl) | exact ⟨Chk.mk (by kernel_rfl)⟩ | exact sLeEq rfl rfl | exact sAnd (by repeat' constructor) (c_szWorld _ _ (by decide) (by decide) hw) | exact sAnd (by repeat' constructor) (c_toWorld _ oa) | exact sAnd (by repeat' constructor) (eR) | exact sAnd (by repeat' constructor) (c_eqWorld _ _ oa oa) | refine fun h => ?_)
  all_goals try (exfalso; exact h1 (of_decide_eq_true h))
  all_goals try (exfalso; simp_all; done)
  all_goals try (exact Side.mk (cS))
  all_goals try (exact Side.mk (cT))
  all_goals try (exact Side.mk (t_toWorld w oa))
  all_goals try (refine Side.mk ?_; (repeat' constructor); done)
  rename_i B W0 DB T1 hT1 D1 T2 hT2 D2 e1
  refine W.sub ⟨69, 2, [(1, .one (.ptr 0 0 0)), (4, .one (.tr false B (W0 0 0) (r.map Entry.cells))), (5, .one (.ptr 1 0 0)), (6, .one (.tr true (T2 0 0).B (T2 0 0).u (r.map Entry.cells)))],
    [(0, .box [.tr false A (U 0 0) (w.nodes.map Node.cells), .tr false A (U 0 1) (w.net.map Msg.cells), .tr false A (U 0 2) (w.asked.map Asked.cells), .tr false A (U 0 3) (w.told.map Told.cells)]), (1, .box [.tr true (T1 0 0).B (T1 0 0).u (w.nodes.map Node.cells), .tr true (T1 0 1).B (T1 0 1).u (w.net.map Msg.cells), .tr true (T1 0 2).B (T1 0 2).u (w.asked.map Asked.cells), .tr true (T1 0 3).B (T1 0 3).u (w.told.map Told.cells)])]⟩ [] ?_ ?_
  · repeat' (first | exact trivial | exact ⟨trivial⟩ | exact Side.mk rfl | exact sF1 rfl | exact Chk.mk (by kernel_rfl) | exact ⟨Chk.mk (by kernel_rfl)⟩ | refine And.intro ?_ ?_ | rfl)
  refine W.go [(34, .mark (fun _ _ => (.agg (mkWorld w 1).cells, 1 + ctL ctNodeL w.nodes + ctL ctMsgL w.net + ctL ctAskL w.asked + 5 * (w.told.length : Int))) [1, 4, 5, 6] [] [0, 1] [(1, 0, 0), (1, 1, 1), (1, 2, 2), (1, 3, 3)]), (40, .res (ob (decide (r = r)))), (800016, .row [])] TTok hmo ?_
  repeat' (first | refine And.intro ?_ ?_ | exact tf | exact ft | refine tt ?_ | refine ff ?_ | exact ⟨trivial⟩ | exact sAll rfl | exact sF1 rfl | exact sBld (by repeat' (first | exact trivial | rfl | exact Nat.le_of_ble_eq_true rfl | refine And.intro ?_ ?_)) rfl | exact sBS (by repeat' (first | exact trivial | rfl | exact Nat.le_of_ble_eq_true rfl | refine And.intro ?_ ?_)) rfl rfl rfl rfl | exact sBSF (by repeat' (first | exact trivial | rfl | exact Nat.le_of_ble_eq_true rfl | refine And.intro ?_ ?_)) rfl rfl rfl rfl | exact sLe rfl | exact Chk.mk (by kernel_rfl) | exact ⟨Chk.mk (by kernel_rfl)⟩ | exact sLeEq rfl rfl | exact sAnd (by repeat' constructor) (eR) | refine fun h => ?_)
  all_goals try (exfalso; simp_all; done)
  all_goals try (exact ⟨apart_row (B := T1 0) (o := 0) (fun j j' x r1 r2 => (hT1 0 j 0 j' x r1 r2).2) (cs0 := w.cells)⟩)
  all_goals try (exact Side.mk (kW))
  all_goals try (exact trivial)
  all_goals try (repeat' (first | exact trivial | exact Side.mk (.sc _) | exact Side.mk (.ptr _ _ _) | exact Side.mk (.mk _ _ _ _ (List.Mem.head _)) | exact Side.mk (.mk _ _ _ _ (List.Mem.tail _ (List.Mem.head _))) | exact Side.mk (.mk _ _ _ _ (List.Mem.tail _ (List.Mem.tail _ (List.Mem.head _)))) | exact Side.mk (.mk _ _ _ _ (List.Mem.tail _ (List.Mem.tail _ (List.Mem.tail _ (List.Mem.head _))))) | exact Side.mk (.tr _ _ _ _ fun y h1 h2 => disAt (D1.st 0 _ rfl) 0 rfl y h1 (in_any (T := T1) (i := 0) (o := 0) (cs0 := w.cells) h2)) | exact Side.mk (.tr _ _ _ _ fun y h1 h2 => disAt (D1.st 0 _ rfl) 1 rfl y h1 (in_any (T := T1) (i := 0) (o := 0) (cs0 := w.cells) h2)) | exact Side.mk (.tr _ _ _ _ fun y h1 h2 => disAt (D1.st 0 _ rfl) 2 rfl y h1 (in_any (T := T1) (i := 0) (o := 0) (cs0 := w.cells) h2)) | exact Side.mk (.tr _ _ _ _ fun y h1 h2 => disAt (D1.st 0 _ rfl) 3 rfl y h1 (in_any (T := T1) (i := 0) (o := 0) (cs0 := w.cells) h2)) | exact Side.mk (.tr _ _ _ _ fun y h1 h2 => (show ∀ x, _ from D1.env 4 _ rfl) y h1 (in_any (T := T1) (i := 0) (o := 0) (cs0 := w.cells) h2)) | exact Side.mk (.tr _ _ _ _ fun y h1 h2 => absurd (show Any T2 y from ⟨0, 0, h1⟩) (in_dis (D2.st 1 _ rfl) h2)) | refine And.intro ?_ ?_); done)
  all_goals try (exfalso; have h3 := of_decide_eq_true h; (try dsimp only at h3); omega)
  refine W.sub ⟨69, 2, [(1, .one (.ptr 0 0 0)), (4, .one (.tr false B (W0 0 0) (r.map Entry.cells))), (6, .one (.tr true (T2 0 0).B (T2 0 0).u (r.map Entry.cells)))],
    [(0, .box [.tr false A (U 0 0) (w.nodes.map Node.cells), .tr false A (U 0 1) (w.net.map Msg.cells), .tr false A (U 0 2) (w.asked.map Asked.cells), .tr false A (U 0 3) (w.told.map Told.cells)])]⟩ [] ?_ ?_
  · repeat' (first | exact trivial | exact ⟨trivial⟩ | exact Side.mk rfl | exact sF1 rfl | exact Chk.mk (by kernel_rfl) | exact ⟨Chk.mk (by kernel_rfl)⟩ | refine And.intro ?_ ?_ | rfl)
  refine W.go [(45, .mark (fun _ _ => (.one (.fz ((mkEntries r 1).map Entry.cells)), 1 + ctEntries r)) [1, 4] [(6, [(0, 0)])] [0] []), (48, .res (oi (1 + ctEntries r))), (55, .res (.agg w.cells)), (56, .tre true (fun _ => .one (.fz (r.map Entry.cells)))), (59, .res (ob (decide (r = r)))), (63, .res (oi (1 + ctEntries r)))] TTok hmo ?_
  repeat' (first | refine And.intro ?_ ?_ | exact tf | exact ft | refine tt ?_ | refine ff ?_ | exact ⟨trivial⟩ | exact sAll rfl | exact sF1 rfl | exact sBld (by repeat' (first | exact trivial | rfl | exact Nat.le_of_ble_eq_true rfl | refine And.intro ?_ ?_)) rfl | exact sBS (by repeat' (first | exact trivial | rfl | exact Nat.le_of_ble_eq_true rfl | refine And.intro ?_ ?_)) rfl rfl rfl rfl | exact sBSF (by repeat' (first | exact trivial | rfl | exact Nat.le_of_ble_eq_true rfl | refine And.intro ?_ ?_)) rfl rfl rfl rfl | exact sLe rfl | exact Chk.mk (by kernel_rfl) | exact ⟨Chk.mk (by kernel_rfl)⟩ | exact sLeEq rfl rfl | exact sAnd (by repeat' constructor) (c_toWorld _ oa) | exact sAnd (by repeat' constructor) (eR) | exact sAnd (by repeat' constructor) (hR) | refine fun h => ?_)
  all_goals try (exfalso; simp_all; done)
  all_goals try (exact ⟨apart_one⟩)
  all_goals try (exact Side.mk (kR))
  all_goals try (exact Side.mk (cT))
  all_goals try (exact trivial)
  all_goals try (repeat' (first | exact trivial | exact Side.mk (.sc _) | exact Side.mk (.ptr _ _ _) | exact Side.mk (.mk _ _ _ _ (List.Mem.head _)) | exact Side.mk (.tr _ _ _ _ fun y h1 h2 => disAt (D2.st 0 _ rfl) 0 rfl y h1 ⟨0, 0, h2⟩) | exact Side.mk (.tr _ _ _ _ fun y h1 h2 => disAt (D2.st 0 _ rfl) 1 rfl y h1 ⟨0, 0, h2⟩) | exact Side.mk (.tr _ _ _ _ fun y h1 h2 => disAt (D2.st 0 _ rfl) 2 rfl y h1 ⟨0, 0, h2⟩) | exact Side.mk (.tr _ _ _ _ fun y h1 h2 => disAt (D2.st 0 _ rfl) 3 rfl y h1 ⟨0, 0, h2⟩) | exact Side.mk (.tr _ _ _ _ fun y h1 h2 => (show ∀ x, _ from D2.env 4 _ rfl) y h1 ⟨0, 0, h2⟩) | exact Side.mk (.tr _ _ _ _ fun y h1 h2 => disAt (D2.st 1 _ rfl) 0 rfl y h1 ⟨0, 0, h2⟩) | exact Side.mk (.tr _ _ _ _ fun y h1 h2 => disAt (D2.st 1 _ rfl) 1 rfl y h1 ⟨0, 0, h2⟩) | exact Side.mk (.tr _ _ _ _ fun y h1 h2 => disAt (D2.st 1 _ rfl) 2 rfl y h1 ⟨0, 0, h2⟩) | exact Side.mk (.tr _ _ _ _ fun y h1 h2 => disAt (D2.st 1 _ rfl) 3 rfl y h1 ⟨0, 0, h2⟩) | refine And.intro ?_ ?_); done)
  all_goals try (exfalso; have h3 := of_decide_eq_true h; (try dsimp only at h3); omega)
  all_goals try (exact Side.mk (cT))
  all_goals try (refine ⟨?_⟩; simp; done)
  all_goals skip
end Mg
