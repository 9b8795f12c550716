/- Parts of the abstract state logic and of the walks, one behind the other: TXC, R1R, R1B, TXB, TXD. No condition. -/
import Derived.Test.YtedgmfmhilihoaaDoorP18
import Derived.Test.YtedgmfmhilihoaaDoorP15
import Derived.Test.YtedgmfmhilihoaaDoorP12
import Derived.Test.YtedgmfmhilihoaaDoorP16
/- The law of malformed messages, walked. No condition. -/
namespace Mg
open Go Go.RowKit Go.Lib
set_option maxRecDepth 100000
set_option linter.unusedVariables false
set_option linter.unusedSimpArgs false
attribute [local irreducible] W Pure Con
def noneK (m : Msg) : Bool := m.kind == 5 || m.kind == 7 || m.kind == 8
theorem kinds8 {k : Int} (h : 1 ≤ k ∧ k ≤ 8) : k = 1 ∨ k = 2 ∨ k = 3 ∨ k = 4 ∨ k = 5 ∨ k = 6 ∨ k = 7 ∨ k = 8 := by omega
theorem bor (a b c d x y z w : Bool) : (a || b || c || d || x || y || z || w) = (c || d || a || b || x || y || z || w) := by
  cases a <;> cases b <;> cases c <;> cases d <;> simp
theorem swap_ok {m : Msg} (h : mOk m = true) : mOk ⟨m.kind, m.dst, m.src, m.bal, m.slot, m.e, m.votes⟩ = true := by
  have e : (decide (m.dst < 0) || decide (m.dst ≥ 3) || decide (m.src < 0) || decide (m.src ≥ 3) || m.dst == m.src || decide (m.slot < 0) || decide (m.slot > 40) || ((m.kind != 2) && decide (((m.votes.map Vote.cells).length : Int) > 0))) =
      (decide (m.src < 0) || decide (m.src ≥ 3) || decide (m.dst < 0) || decide (m.dst ≥ 3) || m.src == m.dst || decide (m.slot < 0) || decide (m.slot > 40) || ((m.kind != 2) && decide (((m.votes.map Vote.cells).length : Int) > 0))) := by
    have e1 : (m.dst == m.src) = (m.src == m.dst) := decide_eq_decide.2 eq_comm
    rw [e1]
    exact bor _ _ _ _ _ _ _ _
  unfold mOk msgOkS at h ⊢
  dsimp only
  rw [e]
  exact h
theorem bal_ok {m : Msg} (h : mOk m = true) : mOk ⟨m.kind, m.src, m.dst, 0, m.slot, m.e, m.votes⟩ = noneK m ∧ mOk ⟨m.kind, m.src, m.dst, 3001, m.slot, m.e, m.votes⟩ = false := by
  have F := mOk_f h
  obtain ⟨k, f, t, b, s, e, vs⟩ := m
  have hk := kinds8 F.kind
  dsimp only at hk
  unfold mOk msgOkS at h ⊢
  dsimp only at h ⊢
  split at h
  · cases h
  rename_i hc
  rw [if_neg hc, if_neg hc]
  clear hc
  rcases hk with rfl | rfl | rfl | rfl | rfl | rfl | rfl | rfl
  all_goals simp [noneK, inr] at h ⊢
  all_goals try simp_all
theorem swap_ne {m : Msg} (h : mOk m = true) : (str (msgText ⟨m.kind, m.dst, m.src, m.bal, m.slot, m.e, m.votes⟩)).toList ≠ (str (msgText m)).toList := by
  rw [toList_str, toList_str]
  intro e
  have := (msg_inj (swap_ok h) h).1 e
  have hs := congrArg Msg.src this
  exact (mOk_f h).ne hs.symm
set_option maxHeartbeats 16000000 in
theorem c_FnMsgVotes (bs : List Int) (hb : Code8 bs) : Con PP 6 [.one (.fz (bs.map u8))] [] 0 (fun _ : Unit => True) (fun _ => ob true) (fun _ => []) := by
  refine Con.vc [(12, .con false [] [] [] sMsgD), (800004, .row [])] TTok hmo Go.Proofs.Tryd.func6 rfl (by kernel_rfl) rfl (by kernel_rfl) ?_
  repeat' (first | refine And.intro ?_ ?_ | exact tf | exact ft | refine tt ?_ | refine ff ?_ | exact ⟨trivial⟩ | exact sAll rfl | exact sF1 rfl | exact sBld (by repeat' (first | exact trivial | rfl | exact Nat.le_of_ble_eq_true rfl | refine And.intro ?_ ?_)) rfl | exact sBS (by repeat' (first | exact trivial | rfl | exact Nat.le_of_ble_eq_true rfl | refine And.intro ?_ ?_)) rfl rfl rfl rfl | exact sBSF (by repeat' (first | exact trivial | rfl | exact Nat.le_of_ble_eq_true rfl | refine And.intro ?_ ?_)) rfl rfl rfl rfl | exact sLe rfl | exact Chk.mk (by kernel_rfl) | exact ⟨Chk.mk (by kernel_rfl)⟩ | exact sLeEq rfl rfl | refine fun h => ?_)
  all_goals try dsimp only [sMsgD] at *
  all_goals try (exact ⟨fun _ _ => trivial⟩)
  all_goals try (exact ⟨c_DrawMsgText bs hb⟩)
  all_goals try (first | exact ⟨trivial, trivial⟩ | exact ⟨Nat.le_of_ble_eq_true rfl, trivial⟩ | exact ⟨trivial, Nat.le_of_ble_eq_true rfl, trivial⟩ | exact ⟨Nat.le_of_ble_eq_true rfl, trivial, trivial⟩)
  all_goals try (apply exU2; refine ⟨[], [], trivial, ?_⟩; focus (repeat' (first | exact trivial | exact ⟨trivial⟩ | exact Side.mk rfl | exact sF1 rfl | exact Chk.mk (by kernel_rfl) | exact ⟨Chk.mk (by kernel_rfl)⟩ | refine And.intro ?_ ?_ | rfl)))
  rename_i d
  revert h
  revert d
  show ∀ d : Msg, DM d → _
  intro d hd
  have ho := DM.lim hd
  by_cases hok : mOk d = false
  · refine W.go [(14, .res (ob false)), (16, .res (ob false)), (20, .res (ob false)), (24, .res (ob false)), (26, .res (ob false))] TTok hmo ?_
    repeat' (first | refine And.intro ?_ ?_ | exact tf | exact ft | refine tt ?_ | refine ff ?_ | exact ⟨trivial⟩ | exact sAll rfl | exact sF1 rfl | exact sBld (by repeat' (first | exact trivial | rfl | exact Nat.le_of_ble_eq_true rfl | refine And.intro ?_ ?_)) rfl | exact sBS (by repeat' (first | exact trivial | rfl | exact Nat.le_of_ble_eq_true rfl | refine And.intro ?_ ?_)) rfl rfl rfl rfl | exact sBSF (by repeat' (first | exact trivial | rfl | exact Nat.le_of_ble_eq_true rfl | refine And.intro ?_ ?_)) rfl rfl rfl rfl | exact sLe rfl | exact Chk.mk (by kernel_rfl) | exact ⟨Chk.mk (by kernel_rfl)⟩ | exact sLeEq rfl rfl | exact sAnd (by repeat' constructor) (c_iOk d ho hok) | exact sAnd (by repeat' constructor) (c_sOk d ho hok) | refine fun h => ?_)
    all_goals try (exact ⟨trivial, trivial⟩)
    all_goals (apply exU2; refine ⟨[], [], trivial, ?_⟩; focus (repeat' (first | exact trivial | exact ⟨trivial⟩ | exact Side.mk rfl | exact sF1 rfl | exact Chk.mk (by kernel_rfl) | exact ⟨Chk.mk (by kernel_rfl)⟩ | refine And.intro ?_ ?_ | rfl)))
  have hok : mOk d = true := by simpa using hok
  have hx := swap_ok hok
  have hy := (bal_ok hok).1
  have hz := (bal_ok hok).2
  have hne := swap_ne hok
  refine W.go [(14, .res (ob true)), (16, .res (ob true)), (20, .res (ob true)), (53, .res (ob true)), (56, .res (ob (noneK d))), (62, .res (ob false)), (67, .res (os (msgText ⟨d.kind, d.dst, d.src, d.bal, d.slot, d.e, d.votes⟩))), (69, .res (os (msgText d)))] TTok hmo ?_
  repeat' (first | refine And.intro ?_ ?_ | exact tf | exact ft | refine tt ?_ | refine ff ?_ | exact ⟨trivial⟩ | exact sAll rfl | exact sF1 rfl | exact sBld (by repeat' (first | exact trivial | rfl | exact Nat.le_of_ble_eq_true rfl | refine And.intro ?_ ?_)) rfl | exact sBS (by repeat' (first | exact trivial | rfl | exact Nat.le_of_ble_eq_true rfl | refine And.intro ?_ ?_)) rfl rfl rfl rfl | exact sBSF (by repeat' (first | exact trivial | rfl | exact Nat.le_of_ble_eq_true rfl | refine And.intro ?_ ?_)) rfl rfl rfl rfl | exact sLe rfl | exact Chk.mk (by kernel_rfl) | exact ⟨Chk.mk (by kernel_rfl)⟩ | exact sLeEq rfl rfl | exact sAnd (by repeat' constructor) (c_iOk d ho hok) | exact sAnd (by repeat' constructor) (c_sOk d ho hok) | exact sAnd (by repeat' constructor) (c_iOk ⟨d.kind, d.dst, d.src, d.bal, d.slot, d.e, d.votes⟩ ho hx) | exact sAnd (by repeat' constructor) (c_iOk ⟨d.kind, d.src, d.dst, 0, d.slot, d.e, d.votes⟩ ho hy) | exact sAnd (by repeat' constructor) (c_iOk ⟨d.kind, d.src, d.dst, 3001, d.slot, d.e, d.votes⟩ ho hz) | exact sAnd (by repeat' constructor) (c_impl_MsgText d ho) | exact sAnd (by repeat' constructor) (c_impl_MsgText ⟨d.kind, d.dst, d.src, d.bal, d.slot, d.e, d.votes⟩ ho) | refine fun h => ?_)
  all_goals try (exact ⟨trivial, trivial⟩)
  all_goals first
    | (exfalso; simp_all [noneK]; done)
    | (apply exU2; refine ⟨[], [], trivial, ?_⟩; (focus (repeat' (first | exact trivial | exact ⟨trivial⟩ | exact Side.mk rfl | exact sF1 rfl | exact Chk.mk (by kernel_rfl) | exact ⟨Chk.mk (by kernel_rfl)⟩ | exact ⟨by simp [hne]⟩ | refine And.intro ?_ ?_ | rfl))); done)
end Mg

/- What the row's arguments read as. No condition. -/
namespace Mg
open Go Go.RowKit
set_option maxRecDepth 100000
set_option linter.unusedVariables false

theorem TTlay : LOk TT := fun t i h => by
  have h1 : (tyL.all fun q => q.2.lay TT) = true := by kernel_rfl
  have h2 : (t, i) ∈ tyL := look_mem h
  exact List.all_eq_true.1 h1 _ h2

theorem fit_two {n t : Nat} {cs : List MC} {i : TI} (h : fit TT n t cs) (ht : TT t = some i) (hk : i.k = .struct [(0, 3), (1, 3)]) : ∃ x : Two, cs = x.cells := by
  obtain ⟨n, a, r, rfl, ha, b, r', rfl, hb, rfl⟩ := fit_struct h ht hk
  obtain ⟨x, rfl, _⟩ := fit_int ha (i := ⟨1, 8, .int .i64, [.int .i64]⟩) rfl rfl
  obtain ⟨y, rfl, _⟩ := fit_int hb (i := ⟨1, 8, .int .i64, [.int .i64]⟩) rfl rfl
  exact ⟨⟨x, y⟩, rfl⟩
theorem fit_twos {n t e : Nat} {cs : List MC} {i ie : TI} (h : fit TT n t cs) (ht : TT t = some i) (hk : i.k = .slice e) (he : TT e = some ie) (hke : ie.k = .struct [(0, 3), (1, 3)]) : ∃ xs : List Two, cs = [.fz (xs.map Two.cells)] ∧ xs.length ≤ maxLen := by
  obtain ⟨rows, rfl, hl, hr⟩ := fit_slice h ht hk
  obtain ⟨xs, rfl, _⟩ := rows_data (c := Two.cells) (p := fun _ => True) fun r hr' => by
    obtain ⟨n, hn⟩ := hr r hr'
    obtain ⟨x, hx⟩ := fit_two hn he hke
    exact ⟨x, hx, trivial⟩
  exact ⟨xs, rfl, by simpa using hl⟩
theorem fit_run {n : Nat} {cs : List MC} (h : fit TT n 27 cs) : ∃ x : Run, cs = x.cells ∧ x.ok maxLen := by
  obtain ⟨n, a, r, rfl, ha, b, r', rfl, hb, c, r'', rfl, hc, d, r3, rfl, hd, rfl⟩ := fit_struct h (i := ⟨4, 64, .struct [(0, 24), (1, 25), (2, 3), (3, 3)], [.nil, .nil, .int .i64, .int .i64]⟩) rfl rfl
  obtain ⟨xs, rfl, hx⟩ := fit_twos ha (i := ⟨1, 24, .slice 125, [.nil]⟩) (ie := ⟨2, 16, .struct [(0, 3), (1, 3)], [.int .i64, .int .i64]⟩) rfl rfl rfl rfl
  obtain ⟨ys, rfl, hy⟩ := fit_twos hb (i := ⟨1, 24, .slice 127, [.nil]⟩) (ie := ⟨2, 16, .struct [(0, 3), (1, 3)], [.int .i64, .int .i64]⟩) rfl rfl rfl rfl
  obtain ⟨x, rfl, _⟩ := fit_int hc (i := ⟨1, 8, .int .i64, [.int .i64]⟩) rfl rfl
  obtain ⟨y, rfl, _⟩ := fit_int hd (i := ⟨1, 8, .int .i64, [.int .i64]⟩) rfl rfl
  exact ⟨⟨xs, ys, x, y⟩, rfl, hx, hy⟩
theorem fit_entry {n : Nat} {cs : List MC} (h : fit TT n 29 cs) : ∃ x : Entry, cs = x.cells ∧ x.ok maxLen := by
  obtain ⟨n, a, r, rfl, ha, b, r', rfl, hb, c, r'', rfl, hc, rfl⟩ := fit_struct h (i := ⟨7, 88, .struct [(0, 4), (1, 23), (3, 27)], [.bool, .int .i64, .int .i64, .nil, .nil, .int .i64, .int .i64]⟩) rfl rfl
  obtain ⟨x, rfl⟩ := fit_bool ha (i := ⟨1, 1, .bool, [.bool]⟩) rfl rfl
  obtain ⟨q, rfl⟩ := fit_two hb (i := ⟨2, 16, .struct [(0, 3), (1, 3)], [.int .i64, .int .i64]⟩) rfl rfl
  obtain ⟨y, rfl, hy⟩ := fit_run hc
  exact ⟨⟨x, q, y⟩, by simp [Entry.cells], hy⟩
theorem fit_vote {n : Nat} {cs : List MC} (h : fit TT n 121 cs) : ∃ x : Vote, cs = x.cells ∧ x.ok maxLen := by
  obtain ⟨n, a, r, rfl, ha, b, r', rfl, hb, rfl⟩ := fit_struct h (i := ⟨8, 96, .struct [(0, 3), (1, 29)], [.int .i64, .bool, .int .i64, .int .i64, .nil, .nil, .int .i64, .int .i64]⟩) rfl rfl
  obtain ⟨x, rfl, _⟩ := fit_int ha (i := ⟨1, 8, .int .i64, [.int .i64]⟩) rfl rfl
  obtain ⟨y, rfl, hy⟩ := fit_entry hb
  exact ⟨⟨x, y⟩, by simp [Vote.cells], hy⟩
theorem fit_votes {n : Nat} {cs : List MC} (h : fit TT n 55 cs) : ∃ xs : List Vote, cs = [.fz (xs.map Vote.cells)] ∧ VotesOk maxLen xs := by
  obtain ⟨rows, rfl, hl, hr⟩ := fit_slice h (i := ⟨1, 24, .slice 121, [.nil]⟩) rfl rfl
  obtain ⟨xs, rfl, hv⟩ := rows_data (c := Vote.cells) (p := fun v => v.ok maxLen) fun r hr' => by
    obtain ⟨n, hn⟩ := hr r hr'
    exact fit_vote hn
  exact ⟨xs, rfl, by simpa using hl, hv⟩
end Mg

/- What a row's text of bytes reads as. No condition. -/
namespace Mg
open Go Go.RowKit
set_option maxRecDepth 100000
set_option linter.unusedVariables false
theorem fit_code {n : Nat} {c : MC} (h : fit TT n 42 [c]) : ∃ bs : List Int, c = .fz (bs.map u8) ∧ Code8 bs := by
  obtain ⟨rows, e, hl, hr⟩ := fit_slice h (i := ⟨1, 24, .slice 5, [.nil]⟩) rfl rfl
  obtain ⟨bs, rfl, hb⟩ := rows_data (c := u8) (p := fun b : Int => 0 ≤ b ∧ b ≤ 255) fun r hr' => by
    obtain ⟨n, hn⟩ := hr r hr'
    obtain ⟨m, rfl, h1, h2⟩ := fit_int hn (i := ⟨1, 1, .int .u8, [.int .u8]⟩) rfl rfl
    exact ⟨m, rfl, h1, h2⟩
  simp only [List.cons.injEq, and_true] at e
  exact ⟨bs, e, by simpa using hl, hb⟩
end Mg

/- The law of messages' kinds, walked. No condition. -/
namespace Mg
open Go Go.RowKit Go.Lib
set_option maxRecDepth 100000
set_option linter.unusedVariables false
set_option linter.unusedSimpArgs false
attribute [local irreducible] W Pure Con
def kd (d : Msg) (i : Int) : Msg := ⟨i, d.src, d.dst, d.bal, d.slot, d.e, d.votes⟩
theorem kind_ne {d : Msg} (h : mOk d = true) {i : Int} (hi : i ≠ d.kind) : (str (msgText (kd d i))).toList ≠ (str (msgText d)).toList := by
  rw [toList_str, toList_str]
  intro e
  cases ho : mOk (kd d i) with
  | true => exact hi (congrArg Msg.kind ((msg_inj ho h).1 e))
  | false =>
    rw [text_no ho, text_yes h] at e
    have := congrArg List.length e
    simp only [msgHead, List.length_append, List.length_cons, List.length_nil] at this
    omega
theorem self_no {d : Msg} : mOk ⟨d.kind, d.src, d.src, d.bal, d.slot, d.e, d.votes⟩ = false := by
  unfold mOk msgOkS
  simp
set_option maxHeartbeats 16000000 in
theorem c_FnMsgKinds (bs : List Int) (hb : Code8 bs) : Con PP 5 [.one (.fz (bs.map u8))] [] 0 (fun _ : Unit => True) (fun _ => ob true) (fun _ => []) := by
  refine Con.vc [(12, .con false [] [] [] sMsgD), (800004, .row [])] TTok hmo Go.Proofs.Tryd.func5 rfl (by kernel_rfl) rfl (by kernel_rfl) ?_
  repeat' (first | refine And.intro ?_ ?_ | exact tf | exact ft | refine tt ?_ | refine ff ?_ | exact ⟨trivial⟩ | exact sAll rfl | exact sF1 rfl | exact sBld (by repeat' (first | exact trivial | rfl | exact Nat.le_of_ble_eq_true rfl | refine And.intro ?_ ?_)) rfl | exact sBS (by repeat' (first | exact trivial | rfl | exact Nat.le_of_ble_eq_true rfl | refine And.intro ?_ ?_)) rfl rfl rfl rfl | exact sBSF (by repeat' (first | exact trivial | rfl | exact Nat.le_of_ble_eq_true rfl | refine And.intro ?_ ?_)) rfl rfl rfl rfl | exact sLe rfl | exact Chk.mk (by kernel_rfl) | exact ⟨Chk.mk (by kernel_rfl)⟩ | exact sLeEq rfl rfl | refine fun h => ?_)
  all_goals try dsimp only [sMsgD] at *
  all_goals try (exact ⟨fun _ _ => trivial⟩)
  all_goals try (exact ⟨c_DrawMsgOk bs hb⟩)
  all_goals try (first | exact ⟨trivial, trivial⟩ | exact ⟨Nat.le_of_ble_eq_true rfl, trivial⟩ | exact ⟨trivial, Nat.le_of_ble_eq_true rfl, trivial⟩ | exact ⟨Nat.le_of_ble_eq_true rfl, trivial, trivial⟩)
  all_goals try (apply exU2; refine ⟨[], [], trivial, ?_⟩; focus (repeat' (first | exact trivial | exact ⟨trivial⟩ | exact Side.mk rfl | exact sF1 rfl | exact Chk.mk (by kernel_rfl) | exact ⟨Chk.mk (by kernel_rfl)⟩ | refine And.intro ?_ ?_ | rfl)))
  rename_i d
  revert h
  revert d
  show ∀ d : Msg, DM d → _
  intro d hd
  have ho := DM.lim hd
  by_cases hok : mOk d = false
  · refine W.go [(14, .res (ob false)), (17, .res (ob false)), (25, .res (ob false)), (31, .res (os []))] TTok hmo ?_
    repeat' (first | refine And.intro ?_ ?_ | exact tf | exact ft | refine tt ?_ | refine ff ?_ | exact ⟨trivial⟩ | exact sAll rfl | exact sF1 rfl | exact sBld (by repeat' (first | exact trivial | rfl | exact Nat.le_of_ble_eq_true rfl | refine And.intro ?_ ?_)) rfl | exact sBS (by repeat' (first | exact trivial | rfl | exact Nat.le_of_ble_eq_true rfl | refine And.intro ?_ ?_)) rfl rfl rfl rfl | exact sBSF (by repeat' (first | exact trivial | rfl | exact Nat.le_of_ble_eq_true rfl | refine And.intro ?_ ?_)) rfl rfl rfl rfl | exact sLe rfl | exact Chk.mk (by kernel_rfl) | exact ⟨Chk.mk (by kernel_rfl)⟩ | exact sLeEq rfl rfl | exact sAnd (by repeat' constructor) (c_iOk d ho hok) | exact sAnd (by repeat' constructor) (c_sOk d ho hok) | exact sAnd (by repeat' constructor) (text_no hok ▸ c_impl_MsgText d ho) | refine fun h => ?_)
    all_goals try (exact ⟨trivial, trivial⟩)
    all_goals (apply exU2; refine ⟨[], [], trivial, ?_⟩; focus (repeat' (first | exact trivial | exact ⟨trivial⟩ | exact Side.mk rfl | exact sF1 rfl | exact Chk.mk (by kernel_rfl) | exact ⟨Chk.mk (by kernel_rfl)⟩ | exact ⟨by simp only [lit1, lit2, beq_self_eq_true]⟩ | refine And.intro ?_ ?_ | rfl)))
  have hok : mOk d = true := by simpa using hok
  have F := mOk_f hok
  have hne := fun i => kind_ne (d := d) hok (i := i)
  refine W.go [(14, .res (ob true)), (17, .res (ob true)), (58, .res (ob false))] TTok hmo ?_
  repeat' (first | refine And.intro ?_ ?_ | exact tf | exact ft | refine tt ?_ | refine ff ?_ | exact ⟨trivial⟩ | exact sAll rfl | exact sF1 rfl | exact sBld (by repeat' (first | exact trivial | rfl | exact Nat.le_of_ble_eq_true rfl | refine And.intro ?_ ?_)) rfl | exact sBS (by repeat' (first | exact trivial | rfl | exact Nat.le_of_ble_eq_true rfl | refine And.intro ?_ ?_)) rfl rfl rfl rfl | exact sBSF (by repeat' (first | exact trivial | rfl | exact Nat.le_of_ble_eq_true rfl | refine And.intro ?_ ?_)) rfl rfl rfl rfl | exact sLe rfl | exact Chk.mk (by kernel_rfl) | exact ⟨Chk.mk (by kernel_rfl)⟩ | exact sLeEq rfl rfl | exact sAnd (by repeat' constructor) (c_iOk d ho hok) | exact sAnd (by repeat' constructor) (c_sOk d ho hok) | exact sAnd (by repeat' constructor) (c_iOk ⟨d.kind, d.src, d.src, d.bal, d.slot, d.e, d.votes⟩ ho self_no) | refine fun h => ?_)
  refine W.loopC (D := Nat) (fun i => [(48, .res (os (msgText (kd d i)))), (50, .res (os (msgText d)))]) TTok hmo
    (fun i => ⟨70, 1, [(3, .one (.ptr 0 0 0)), (5, oi i)], [(0, .box d.cells)]⟩) (fun i => 10 - i) (fun i => i ≤ 10) 0 [] (Nat.zero_le _) ?_ ?_
  · repeat' (first | exact trivial | exact ⟨trivial⟩ | exact Side.mk rfl | exact sF1 rfl | exact Chk.mk (by kernel_rfl) | exact ⟨Chk.mk (by kernel_rfl)⟩ | refine And.intro ?_ ?_ | rfl)
  · intro i hi
    repeat' (first | refine And.intro ?_ ?_ | exact tf | exact ft | refine tt ?_ | refine ff ?_ | exact ⟨trivial⟩ | exact sAll rfl | exact sF1 rfl | exact sBld (by repeat' (first | exact trivial | rfl | exact Nat.le_of_ble_eq_true rfl | refine And.intro ?_ ?_)) rfl | exact sBS (by repeat' (first | exact trivial | rfl | exact Nat.le_of_ble_eq_true rfl | refine And.intro ?_ ?_)) rfl rfl rfl rfl | exact sBSF (by repeat' (first | exact trivial | rfl | exact Nat.le_of_ble_eq_true rfl | refine And.intro ?_ ?_)) rfl rfl rfl rfl | exact sLe rfl | exact Chk.mk (by kernel_rfl) | exact ⟨Chk.mk (by kernel_rfl)⟩ | exact sLeEq rfl rfl | exact sAnd (by repeat' constructor) (c_impl_MsgText d ho) | exact sAnd (by repeat' constructor) (c_impl_MsgText (kd d i) ho) | exact sAnd (by repeat' constructor) (c_iOk ⟨d.kind, d.src, d.src, d.bal, d.slot, d.e, d.votes⟩ ho self_no) | refine fun h => ?_)
    all_goals try (exact ⟨trivial, trivial⟩)
    all_goals have fk := F.kind
    all_goals simp only [decide_eq_true_eq, decide_eq_false_iff_not, List.length_map, Bool.not_eq_true', Bool.not_eq_false', Bool.not_eq_eq_eq_not, Bool.not_true, Bool.not_false, bne_iff_ne, ne_eq, bne_eq_false_iff_eq, beq_iff_eq, beq_eq_false_iff_ne] at *
    · exact absurd (by assumption) (hne _ (by assumption))
    · refine ⟨i + 1, [], by omega, by omega, ?_⟩
      repeat' (first | exact trivial | exact ⟨trivial⟩ | exact Side.mk rfl | exact sF1 rfl | exact Chk.mk (by kernel_rfl) | exact ⟨Chk.mk (by kernel_rfl)⟩ | exact ⟨by rw [wrapi] <;> omega⟩ | refine And.intro ?_ ?_ | rfl)
    · refine ⟨i + 1, [], by omega, by omega, ?_⟩
      repeat' (first | exact trivial | exact ⟨trivial⟩ | exact Side.mk rfl | exact sF1 rfl | exact Chk.mk (by kernel_rfl) | exact ⟨Chk.mk (by kernel_rfl)⟩ | exact ⟨by rw [wrapi] <;> omega⟩ | refine And.intro ?_ ?_ | rfl)
    · apply exU2; refine ⟨[], [], trivial, ?_⟩
      repeat' (first | exact trivial | exact ⟨trivial⟩ | exact Side.mk rfl | exact sF1 rfl | exact Chk.mk (by kernel_rfl) | exact ⟨Chk.mk (by kernel_rfl)⟩ | exact ⟨by simp; omega⟩ | refine And.intro ?_ ?_ | rfl)
    · exfalso; simp_all
end Mg

/- The law of messages, walked. No condition. -/
namespace Mg
open Go Go.RowKit Go.Lib
set_option maxRecDepth 100000
set_option linter.unusedVariables false
set_option linter.unusedSimpArgs false
attribute [local irreducible] W Pure Con
theorem exMM {Q : Msg × Msg → Prop} (a b : Msg) (h : Q (a, b)) : ∃ d, Q d := ⟨_, h⟩
set_option maxHeartbeats 4000000 in
theorem c_DrawMsgSame (bs : List Int) (hb : Code8 bs) : Con PP 28 [.one (.fz (bs.map u8))] [] 0 (fun d : Msg × Msg => DM d.1 ∧ DM d.2) (fun d => .tup [.agg d.1.cells, .agg d.2.cells]) (fun _ => []) := by
  refine Con.vc [(7, .con false [] [] [] sOpen), (8, .con false [2] [] [] sMsg), (10, .con false [] [] [] sOpen), (11, .con false [4] [] [] sMsg), (17, .row (u8 (bs.getD 0 0))), (900005, .row [i6 0, i6 1, i6 2, i6 3])] TTok hmo Go.Proofs.Tryd.func28 rfl (by kernel_rfl) rfl (by kernel_rfl) ?_
  repeat' (first | refine And.intro ?_ ?_ | exact tf | exact ft | refine tt ?_ | refine ff ?_ | exact ⟨trivial⟩ | exact sAll rfl | exact sF1 rfl | exact sBld (by repeat' (first | exact trivial | rfl | exact Nat.le_of_ble_eq_true rfl | refine And.intro ?_ ?_)) rfl | exact sBS (by repeat' (first | exact trivial | rfl | exact Nat.le_of_ble_eq_true rfl | refine And.intro ?_ ?_)) rfl rfl rfl rfl | exact sBSF (by repeat' (first | exact trivial | rfl | exact Nat.le_of_ble_eq_true rfl | refine And.intro ?_ ?_)) rfl rfl rfl rfl | exact sLe rfl | exact Chk.mk (by kernel_rfl) | exact ⟨Chk.mk (by kernel_rfl)⟩ | exact sLeEq rfl rfl | refine fun h => ?_)
  all_goals dsimp only [sOpen, sMsg] at *
  all_goals try (exact ⟨fun _ _ => trivial⟩)
  all_goals try (exact ⟨fun _ _ => ⟨trivial, trivial⟩⟩)
  all_goals try (exact ⟨c_l15Open bs hb⟩)
  all_goals try (exact ⟨c_l7Msg _ ‹_› _ (by omega) (by omega)⟩)
  all_goals try (first | exact ⟨trivial, trivial⟩ | exact ⟨Nat.le_of_ble_eq_true rfl, trivial⟩ | exact ⟨trivial, Nat.le_of_ble_eq_true rfl, trivial⟩ | exact ⟨Nat.le_of_ble_eq_true rfl, trivial, trivial⟩)
  all_goals try (exact Side.mk ⟨Nat.le_of_ble_eq_true rfl, Nat.le_of_ble_eq_true rfl, trivial⟩)
  all_goals try (exact sRow (by decide) (u8_at (k := 0) (by decide) (by have h := of_decide_eq_true h; rw [List.length_map] at h; exact h)) rfl)
  all_goals try (exact Side.mk (show (2 : Int) ≠ 0 by decide))
  all_goals try (exact ⟨rfl⟩)
  all_goals try (exact ⟨trivial⟩)
  all_goals try (exact trivial)
  all_goals first
    | (rename_i o1 b1 a ha o2 b2 b hb' c; apply exMM a.1 ⟨b.1.kind, b.1.src, b.1.dst, b.1.bal, IntKind.i64.wrap (b.1.slot + 1), b.1.e, b.1.votes⟩; refine ⟨[], [], ⟨ha.1, hb'.1⟩, ?_⟩; (focus (repeat' (first | exact trivial | exact ⟨trivial⟩ | exact Side.mk rfl | exact sF1 rfl | exact Chk.mk (by kernel_rfl) | exact ⟨Chk.mk (by kernel_rfl)⟩ | refine And.intro ?_ ?_ | rfl))); done)
    | (rename_i o1 b1 a ha o2 b2 b hb' c; apply exMM a.1 b.1; refine ⟨[], [], ⟨ha.1, hb'.1⟩, ?_⟩; (focus (repeat' (first | exact trivial | exact ⟨trivial⟩ | exact Side.mk rfl | exact sF1 rfl | exact Chk.mk (by kernel_rfl) | exact ⟨Chk.mk (by kernel_rfl)⟩ | refine And.intro ?_ ?_ | rfl))); done)
    | (rename_i o1 b1 a ha o2 b2 b hb'; apply exMM a.1 b.1; refine ⟨[], [], ⟨ha.1, hb'.1⟩, ?_⟩; (focus (repeat' (first | exact trivial | exact ⟨trivial⟩ | exact Side.mk rfl | exact sF1 rfl | exact Chk.mk (by kernel_rfl) | exact ⟨Chk.mk (by kernel_rfl)⟩ | refine And.intro ?_ ?_ | rfl))); done)
    | skip
theorem c_iSame (a b : Msg) (ha : a.ok lim) (hb : b.ok lim) {c : Bool} (e : decide (a = b) = c) : Pure PP false 29 [.agg a.cells, .agg b.cells] (ob c) := e ▸ c_impl_MsgSame a b ha hb
theorem c_sSame (a b : Msg) (ha : a.ok lim) (hb : b.ok lim) {c : Bool} (e : decide (a = b) = c) : Pure PP false 30 [.agg a.cells, .agg b.cells] (ob c) := e ▸ c_spec_MsgSame a b ha hb
def sMsg2 (ds : List MV) (os : List Ob) : ConT := ⟨Msg × Msg, fun d => DM d.1 ∧ DM d.2, fun d => .tup [.agg d.1.cells, .agg d.2.cells], fun _ => []⟩
theorem text_cmp {a b : Msg} (ha : mOk a = true) (hb : mOk b = true) : ((str (msgText a)).toList == (str (msgText b)).toList) = decide (a = b) := by
  rw [toList_str, toList_str, Bool.eq_iff_iff]
  simp [msg_inj ha hb]
set_option maxHeartbeats 16000000 in
theorem c_FnMsg (bs ms : List Int) (hb : Code8 bs) (hm : Code8 ms) : Con PP 8 [.one (.fz (bs.map u8)), .one (.fz (ms.map u8))] [] 0 (fun _ : Unit => True) (fun _ => ob true) (fun _ => []) := by
  refine Con.vc [(18, .con false [] [] [] sMsg2), (22, .con false [] [] [] sMsgD), (800005, .row [])] TTok hmo Go.Proofs.Tryd.func8 rfl (by kernel_rfl) rfl (by kernel_rfl) ?_
  repeat' (first | refine And.intro ?_ ?_ | exact tf | exact ft | refine tt ?_ | refine ff ?_ | exact ⟨trivial⟩ | exact sAll rfl | exact sF1 rfl | exact sBld (by repeat' (first | exact trivial | rfl | exact Nat.le_of_ble_eq_true rfl | refine And.intro ?_ ?_)) rfl | exact sBS (by repeat' (first | exact trivial | rfl | exact Nat.le_of_ble_eq_true rfl | refine And.intro ?_ ?_)) rfl rfl rfl rfl | exact sBSF (by repeat' (first | exact trivial | rfl | exact Nat.le_of_ble_eq_true rfl | refine And.intro ?_ ?_)) rfl rfl rfl rfl | exact sLe rfl | exact Chk.mk (by kernel_rfl) | exact ⟨Chk.mk (by kernel_rfl)⟩ | exact sLeEq rfl rfl | refine fun h => ?_)
  all_goals try dsimp only [sMsgD, sMsg2] at *
  all_goals try (exact ⟨fun _ _ => trivial⟩)
  all_goals try (exact ⟨c_DrawMsgSame bs hb⟩)
  all_goals try (exact ⟨c_DrawMsgText ms hm⟩)
  all_goals try (first | exact ⟨trivial, trivial⟩ | exact ⟨Nat.le_of_ble_eq_true rfl, trivial⟩ | exact ⟨trivial, Nat.le_of_ble_eq_true rfl, trivial⟩ | exact ⟨Nat.le_of_ble_eq_true rfl, trivial, trivial⟩)
  all_goals try (apply exU2; refine ⟨[], [], trivial, ?_⟩; focus (repeat' (first | exact trivial | exact ⟨trivial⟩ | exact Side.mk rfl | exact sF1 rfl | exact Chk.mk (by kernel_rfl) | exact ⟨Chk.mk (by kernel_rfl)⟩ | refine And.intro ?_ ?_ | rfl)))
  rename_i d hd c
  revert h
  revert c
  revert hd
  revert d
  show ∀ d : Msg × Msg, DM d.1 ∧ DM d.2 → ∀ c : Msg, DM c → _
  rintro ⟨a, b⟩ ⟨da, db⟩ c dc
  dsimp only at da db
  have oa := DM.lim da
  have ob' := DM.lim db
  have oc := DM.lim dc
  have oaa : decide (a = a) = true := by simp
  have hcomm : decide (a = c) = decide (c = a) := decide_eq_decide.2 eq_comm
  cases ha : mOk a with
  | false =>
    refine W.go [(24, .res (os (msgText a))), (26, .res (os (msgText a))), (30, .res (os (msgText c))), (32, .res (os (msgText c))), (37, .res (ob false)), (39, .res (ob false)), (45, .res (ob (decide (a = b)))), (48, .res (ob (decide (a = b)))), (54, .res (ob true)), (58, .res (ob false)), (61, .res (os []))] TTok hmo ?_
    repeat' (first | refine And.intro ?_ ?_ | exact tf | exact ft | refine tt ?_ | refine ff ?_ | exact ⟨trivial⟩ | exact sAll rfl | exact sF1 rfl | exact sBld (by repeat' (first | exact trivial | rfl | exact Nat.le_of_ble_eq_true rfl | refine And.intro ?_ ?_)) rfl | exact sBS (by repeat' (first | exact trivial | rfl | exact Nat.le_of_ble_eq_true rfl | refine And.intro ?_ ?_)) rfl rfl rfl rfl | exact sBSF (by repeat' (first | exact trivial | rfl | exact Nat.le_of_ble_eq_true rfl | refine And.intro ?_ ?_)) rfl rfl rfl rfl | exact sLe rfl | exact Chk.mk (by kernel_rfl) | exact ⟨Chk.mk (by kernel_rfl)⟩ | exact sLeEq rfl rfl | exact sAnd (by repeat' constructor) (c_impl_MsgText a oa) | exact sAnd (by repeat' constructor) (c_spec_MsgText a oa) | exact sAnd (by repeat' constructor) (c_impl_MsgText c oc) | exact sAnd (by repeat' constructor) (c_spec_MsgText c oc) | exact sAnd (by repeat' constructor) (c_iOk a oa ha) | exact sAnd (by repeat' constructor) (c_sOk a oa ha) | exact sAnd (by repeat' constructor) (c_iSame a b oa ob' rfl) | exact sAnd (by repeat' constructor) (c_sSame a b oa ob' rfl) | exact sAnd (by repeat' constructor) (c_iSame a a oa oa oaa) | exact sAnd (by repeat' constructor) (text_no ha ▸ c_impl_MsgText a oa) | refine fun h => ?_)
    all_goals first
      | (exfalso; simp_all; done)
      | exact ⟨trivial, trivial⟩
      | (apply exU2; refine ⟨[], [], trivial, ?_⟩; (focus (repeat' (first | exact trivial | exact ⟨trivial⟩ | exact Side.mk rfl | exact sF1 rfl | exact Chk.mk (by kernel_rfl) | exact ⟨Chk.mk (by kernel_rfl)⟩ | exact ⟨by simp only [lit1, lit2, beq_self_eq_true]⟩ | refine And.intro ?_ ?_ | rfl))); done)
  | true =>
  have aa : ((str (msgText a)).toList == (str (msgText a)).toList) = true := beq_self_eq_true _
  have cc : ((str (msgText c)).toList == (str (msgText c)).toList) = true := beq_self_eq_true _
  cases hb2 : mOk b with
  | false =>
    refine W.go [(24, .res (os (msgText a))), (26, .res (os (msgText a))), (30, .res (os (msgText c))), (32, .res (os (msgText c))), (37, .res (ob true)), (39, .res (ob true)), (45, .res (ob (decide (a = b)))), (48, .res (ob (decide (a = b)))), (54, .res (ob true)), (58, .res (ob true)), (64, .res (ob false))] TTok hmo ?_
    repeat' (first | refine And.intro ?_ ?_ | exact tf | exact ft | refine tt ?_ | refine ff ?_ | exact ⟨trivial⟩ | exact sAll rfl | exact sF1 rfl | exact sBld (by repeat' (first | exact trivial | rfl | exact Nat.le_of_ble_eq_true rfl | refine And.intro ?_ ?_)) rfl | exact sBS (by repeat' (first | exact trivial | rfl | exact Nat.le_of_ble_eq_true rfl | refine And.intro ?_ ?_)) rfl rfl rfl rfl | exact sBSF (by repeat' (first | exact trivial | rfl | exact Nat.le_of_ble_eq_true rfl | refine And.intro ?_ ?_)) rfl rfl rfl rfl | exact sLe rfl | exact Chk.mk (by kernel_rfl) | exact ⟨Chk.mk (by kernel_rfl)⟩ | exact sLeEq rfl rfl | exact sAnd (by repeat' constructor) (c_impl_MsgText a oa) | exact sAnd (by repeat' constructor) (c_spec_MsgText a oa) | exact sAnd (by repeat' constructor) (c_impl_MsgText c oc) | exact sAnd (by repeat' constructor) (c_spec_MsgText c oc) | exact sAnd (by repeat' constructor) (c_iOk a oa ha) | exact sAnd (by repeat' constructor) (c_sOk a oa ha) | exact sAnd (by repeat' constructor) (c_sOk b ob' hb2) | exact sAnd (by repeat' constructor) (c_iSame a b oa ob' rfl) | exact sAnd (by repeat' constructor) (c_sSame a b oa ob' rfl) | exact sAnd (by repeat' constructor) (c_iSame a a oa oa oaa) | refine fun h => ?_)
    all_goals first
      | (exfalso; simp_all; done)
      | exact ⟨trivial, trivial⟩
      | (apply exU2; refine ⟨[], [], trivial, ?_⟩; (focus (repeat' (first | exact trivial | exact ⟨trivial⟩ | exact Side.mk rfl | exact sF1 rfl | exact Chk.mk (by kernel_rfl) | exact ⟨Chk.mk (by kernel_rfl)⟩ | refine And.intro ?_ ?_ | rfl))); done)
  | true =>
  cases hc2 : mOk c with
  | false =>
    refine W.go [(24, .res (os (msgText a))), (26, .res (os (msgText a))), (30, .res (os (msgText c))), (32, .res (os (msgText c))), (37, .res (ob true)), (39, .res (ob true)), (45, .res (ob (decide (a = b)))), (48, .res (ob (decide (a = b)))), (54, .res (ob true)), (58, .res (ob true)), (64, .res (ob true)), (68, .res (ob false))] TTok hmo ?_
    repeat' (first | refine And.intro ?_ ?_ | exact tf | exact ft | refine tt ?_ | refine ff ?_ | exact ⟨trivial⟩ | exact sAll rfl | exact sF1 rfl | exact sBld (by repeat' (first | exact trivial | rfl | exact Nat.le_of_ble_eq_true rfl | refine And.intro ?_ ?_)) rfl | exact sBS (by repeat' (first | exact trivial | rfl | exact Nat.le_of_ble_eq_true rfl | refine And.intro ?_ ?_)) rfl rfl rfl rfl | exact sBSF (by repeat' (first | exact trivial | rfl | exact Nat.le_of_ble_eq_true rfl | refine And.intro ?_ ?_)) rfl rfl rfl rfl | exact sLe rfl | exact Chk.mk (by kernel_rfl) | exact ⟨Chk.mk (by kernel_rfl)⟩ | exact sLeEq rfl rfl | exact sAnd (by repeat' constructor) (c_impl_MsgText a oa) | exact sAnd (by repeat' constructor) (c_spec_MsgText a oa) | exact sAnd (by repeat' constructor) (c_impl_MsgText c oc) | exact sAnd (by repeat' constructor) (c_spec_MsgText c oc) | exact sAnd (by repeat' constructor) (c_iOk a oa ha) | exact sAnd (by repeat' constructor) (c_sOk a oa ha) | exact sAnd (by repeat' constructor) (c_sOk b ob' hb2) | exact sAnd (by repeat' constructor) (c_sOk c oc hc2) | exact sAnd (by repeat' constructor) (c_iSame a b oa ob' rfl) | exact sAnd (by repeat' constructor) (c_sSame a b oa ob' rfl) | exact sAnd (by repeat' constructor) (c_iSame a a oa oa oaa) | refine fun h => ?_)
    all_goals first
      | (exfalso; simp_all; done)
      | exact ⟨trivial, trivial⟩
      | (apply exU2; refine ⟨[], [], trivial, ?_⟩; (focus (repeat' (first | exact trivial | exact ⟨trivial⟩ | exact Side.mk rfl | exact sF1 rfl | exact Chk.mk (by kernel_rfl) | exact ⟨Chk.mk (by kernel_rfl)⟩ | refine And.intro ?_ ?_ | rfl))); done)
  | true =>
    have t1 := text_cmp ha hb2
    have t2 := text_cmp ha hc2
    have hcm : decide (c = a) = decide (a = c) := decide_eq_decide.2 eq_comm
    refine W.go [(24, .res (os (msgText a))), (26, .res (os (msgText a))), (30, .res (os (msgText c))), (32, .res (os (msgText c))), (37, .res (ob true)), (39, .res (ob true)), (45, .res (ob (decide (a = b)))), (48, .res (ob (decide (a = b)))), (54, .res (ob true)), (58, .res (ob true)), (64, .res (ob true)), (68, .res (ob true)),
      (73, .res (ob (decide (a = b)))), (75, .res (os (msgText a))), (77, .res (os (msgText b))), (83, .res (ob (decide (a = c)))), (85, .res (os (msgText a))), (87, .res (os (msgText c))), (94, .res (ob (decide (a = c)))), (97, .res (ob (decide (a = c))))] TTok hmo ?_
    repeat' (first | refine And.intro ?_ ?_ | exact tf | exact ft | refine tt ?_ | refine ff ?_ | exact ⟨trivial⟩ | exact sAll rfl | exact sF1 rfl | exact sBld (by repeat' (first | exact trivial | rfl | exact Nat.le_of_ble_eq_true rfl | refine And.intro ?_ ?_)) rfl | exact sBS (by repeat' (first | exact trivial | rfl | exact Nat.le_of_ble_eq_true rfl | refine And.intro ?_ ?_)) rfl rfl rfl rfl | exact sBSF (by repeat' (first | exact trivial | rfl | exact Nat.le_of_ble_eq_true rfl | refine And.intro ?_ ?_)) rfl rfl rfl rfl | exact sLe rfl | exact Chk.mk (by kernel_rfl) | exact ⟨Chk.mk (by kernel_rfl)⟩ | exact sLeEq rfl rfl | exact sAnd (by repeat' constructor) (c_impl_MsgText a oa) | exact sAnd (by repeat' constructor) (c_spec_MsgText a oa) | exact sAnd (by repeat' constructor) (c_impl_MsgText b ob') | exact sAnd (by repeat' constructor) (c_impl_MsgText c oc) | exact sAnd (by repeat' constructor) (c_spec_MsgText c oc) | exact sAnd (by repeat' constructor) (c_iOk a oa ha) | exact sAnd (by repeat' constructor) (c_sOk a oa ha) | exact sAnd (by repeat' constructor) (c_sOk b ob' hb2) | exact sAnd (by repeat' constructor) (c_sOk c oc hc2) | exact sAnd (by repeat' constructor) (c_iSame a b oa ob' rfl) | exact sAnd (by repeat' constructor) (c_sSame a b oa ob' rfl) | exact sAnd (by repeat' constructor) (c_iSame a a oa oa oaa) | exact sAnd (by repeat' constructor) (c_iSame a c oa oc rfl) | exact sAnd (by repeat' constructor) (c_iSame c a oc oa hcm) | refine fun h => ?_)
    all_goals first
      | (exfalso; simp_all; done)
      | exact ⟨trivial, trivial⟩
      | (apply exU2; refine ⟨[], [], trivial, ?_⟩; (focus (repeat' (first | exact trivial | exact ⟨trivial⟩ | exact Side.mk rfl | exact sF1 rfl | exact Chk.mk (by kernel_rfl) | exact ⟨Chk.mk (by kernel_rfl)⟩ | exact ⟨by simp [t1, t2]⟩ | refine And.intro ?_ ?_ | rfl))); done)
      | skip
end Mg
