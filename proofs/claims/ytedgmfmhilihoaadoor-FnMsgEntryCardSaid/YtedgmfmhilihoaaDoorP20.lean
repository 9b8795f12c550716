/- Parts of the abstract state logic and of the walks, one behind the other: TXA, R1R, R1B. No condition. -/
import Derived.Test.YtedgmfmhilihoaaDoorP19
import Derived.Test.YtedgmfmhilihoaaDoorP15
import Derived.Test.YtedgmfmhilihoaaDoorP12
import Derived.Test.YtedgmfmhilihoaaDoorP18
/- The law of entries' texts, walked. No condition. -/
namespace Mg
open Go Go.RowKit Go.Lib
set_option maxRecDepth 100000
set_option linter.unusedVariables false
set_option linter.unusedSimpArgs false
attribute [local irreducible] W Pure Con
theorem c_iLike (a b : Entry) (ha : a.ok lim) (hb : b.ok lim) {c : Bool} (e : decide (a = b) = c) : Pure PP false 16 [.agg a.cells, .agg b.cells] (ob c) := e ▸ c_impl_CertLike a b ha hb
theorem c_sLike (a b : Entry) (ha : a.ok lim) (hb : b.ok lim) {c : Bool} (e : decide (a = b) = c) : Pure PP false 17 [.agg a.cells, .agg b.cells] (ob c) := e ▸ c_spec_CertLike a b ha hb
theorem c_sEnt (a : Entry) (ha : a.ok lim) {c : Bool} (e : entryOk a = c) : Pure PP false 18 [.agg a.cells] (ob c) := e ▸ c_spec_CertEntry a ha
theorem etext_cmp {a b : Entry} (ha : entryOk a = true) (hb : entryOk b = true) : ((str (entText a)).toList == (str (entText b)).toList) = decide (a = b) := by
  rw [toList_str, toList_str, Bool.eq_iff_iff]
  simp [ent_inj ha hb]
set_option maxHeartbeats 16000000 in
theorem c_FnMsgEntry (bs ms : List Int) (hb : Code8 bs) (hm : Code8 ms) : Con PP 4 [.one (.fz (bs.map u8)), .one (.fz (ms.map u8))] [] 0 (fun _ : Unit => True) (fun _ => ob true) (fun _ => []) := by
  refine Con.vc [(18, .con false [] [] [] sEnt2), (22, .con false [] [] [] sEnt), (800005, .row [])] TTok hmo Go.Proofs.Tryd.func4 rfl (by kernel_rfl) rfl (by kernel_rfl) ?_
  repeat' (first | refine And.intro ?_ ?_ | exact tf | exact ft | refine tt ?_ | refine ff ?_ | exact ⟨trivial⟩ | exact sAll rfl | exact sF1 rfl | exact sBld (by repeat' (first | exact trivial | rfl | exact Nat.le_of_ble_eq_true rfl | refine And.intro ?_ ?_)) rfl | exact sBS (by repeat' (first | exact trivial | rfl | exact Nat.le_of_ble_eq_true rfl | refine And.intro ?_ ?_)) rfl rfl rfl rfl | exact sBSF (by repeat' (first | exact trivial | rfl | exact Nat.le_of_ble_eq_true rfl | refine And.intro ?_ ?_)) rfl rfl rfl rfl | exact sLe rfl | exact Chk.mk (by kernel_rfl) | exact ⟨Chk.mk (by kernel_rfl)⟩ | exact sLeEq rfl rfl | refine fun h => ?_)
  all_goals try dsimp only [sEnt, sEnt2] at *
  all_goals try (exact ⟨fun _ _ => trivial⟩)
  all_goals try (exact ⟨c_DrawCertLike bs hb⟩)
  all_goals try (exact ⟨c_DrawMsgEntry ms hm⟩)
  all_goals try (first | exact ⟨trivial, trivial⟩ | exact ⟨Nat.le_of_ble_eq_true rfl, trivial⟩ | exact ⟨trivial, Nat.le_of_ble_eq_true rfl, trivial⟩ | exact ⟨Nat.le_of_ble_eq_true rfl, trivial, trivial⟩)
  all_goals try (apply exU2; refine ⟨[], [], trivial, ?_⟩; focus (repeat' (first | exact trivial | exact ⟨trivial⟩ | exact Side.mk rfl | exact sF1 rfl | exact Chk.mk (by kernel_rfl) | exact ⟨Chk.mk (by kernel_rfl)⟩ | refine And.intro ?_ ?_ | rfl)))
  rename_i d hd c
  revert h
  revert c
  revert hd
  revert d
  show ∀ d : Entry × Entry, (d.1.ok 30 ∧ d.1.int) ∧ d.2.ok 30 ∧ d.2.int → ∀ c : Entry, c.ok 30 ∧ c.int → _
  rintro ⟨a, b⟩ ⟨⟨da, ia⟩, db, ib⟩ c ⟨dc, ic⟩
  dsimp only at da db ia ib
  have oa := e30 da
  have ob' := e30 db
  have oc := e30 dc
  cases ha : entryOk a with
  | false =>
    refine W.go [(24, .res (os (entText a))), (26, .res (os (entText a))), (31, .res (ob (decide (a = b)))), (34, .res (ob (decide (a = b)))), (38, .res (ob false))] TTok hmo ?_
    repeat' (first | refine And.intro ?_ ?_ | exact tf | exact ft | refine tt ?_ | refine ff ?_ | exact ⟨trivial⟩ | exact sAll rfl | exact sF1 rfl | exact sBld (by repeat' (first | exact trivial | rfl | exact Nat.le_of_ble_eq_true rfl | refine And.intro ?_ ?_)) rfl | exact sBS (by repeat' (first | exact trivial | rfl | exact Nat.le_of_ble_eq_true rfl | refine And.intro ?_ ?_)) rfl rfl rfl rfl | exact sBSF (by repeat' (first | exact trivial | rfl | exact Nat.le_of_ble_eq_true rfl | refine And.intro ?_ ?_)) rfl rfl rfl rfl | exact sLe rfl | exact Chk.mk (by kernel_rfl) | exact ⟨Chk.mk (by kernel_rfl)⟩ | exact sLeEq rfl rfl | exact sAnd (by repeat' constructor) (c_impl_MsgEntry a ia oa) | exact sAnd (by repeat' constructor) (c_spec_MsgEntry a ia oa) | exact sAnd (by repeat' constructor) (c_iLike a b oa ob' rfl) | exact sAnd (by repeat' constructor) (c_sLike a b oa ob' rfl) | exact sAnd (by repeat' constructor) (c_sEnt a oa ha) | refine fun h => ?_)
    all_goals first
      | (exfalso; simp_all; done)
      | exact ⟨trivial, trivial⟩
      | (apply exU2; refine ⟨[], [], trivial, ?_⟩; (focus (repeat' (first | exact trivial | exact ⟨trivial⟩ | exact Side.mk rfl | exact sF1 rfl | exact Chk.mk (by kernel_rfl) | exact ⟨Chk.mk (by kernel_rfl)⟩ | refine And.intro ?_ ?_ | rfl))); done)
      | skip
  | true =>
  cases hb2 : entryOk b with
  | false =>
    refine W.go [(24, .res (os (entText a))), (26, .res (os (entText a))), (31, .res (ob (decide (a = b)))), (34, .res (ob (decide (a = b)))), (38, .res (ob true)), (42, .res (ob false))] TTok hmo ?_
    repeat' (first | refine And.intro ?_ ?_ | exact tf | exact ft | refine tt ?_ | refine ff ?_ | exact ⟨trivial⟩ | exact sAll rfl | exact sF1 rfl | exact sBld (by repeat' (first | exact trivial | rfl | exact Nat.le_of_ble_eq_true rfl | refine And.intro ?_ ?_)) rfl | exact sBS (by repeat' (first | exact trivial | rfl | exact Nat.le_of_ble_eq_true rfl | refine And.intro ?_ ?_)) rfl rfl rfl rfl | exact sBSF (by repeat' (first | exact trivial | rfl | exact Nat.le_of_ble_eq_true rfl | refine And.intro ?_ ?_)) rfl rfl rfl rfl | exact sLe rfl | exact Chk.mk (by kernel_rfl) | exact ⟨Chk.mk (by kernel_rfl)⟩ | exact sLeEq rfl rfl | exact sAnd (by repeat' constructor) (c_impl_MsgEntry a ia oa) | exact sAnd (by repeat' constructor) (c_spec_MsgEntry a ia oa) | exact sAnd (by repeat' constructor) (c_iLike a b oa ob' rfl) | exact sAnd (by repeat' constructor) (c_sLike a b oa ob' rfl) | exact sAnd (by repeat' constructor) (c_sEnt a oa ha) | exact sAnd (by repeat' constructor) (c_sEnt b ob' hb2) | refine fun h => ?_)
    all_goals first
      | (exfalso; simp_all; done)
      | exact ⟨trivial, trivial⟩
      | (apply exU2; refine ⟨[], [], trivial, ?_⟩; (focus (repeat' (first | exact trivial | exact ⟨trivial⟩ | exact Side.mk rfl | exact sF1 rfl | exact Chk.mk (by kernel_rfl) | exact ⟨Chk.mk (by kernel_rfl)⟩ | refine And.intro ?_ ?_ | rfl))); done)
      | skip
  | true =>
  cases hc2 : entryOk c with
  | false =>
    refine W.go [(24, .res (os (entText a))), (26, .res (os (entText a))), (31, .res (ob (decide (a = b)))), (34, .res (ob (decide (a = b)))), (38, .res (ob true)), (42, .res (ob true)), (47, .res (ob false))] TTok hmo ?_
    repeat' (first | refine And.intro ?_ ?_ | exact tf | exact ft | refine tt ?_ | refine ff ?_ | exact ⟨trivial⟩ | exact sAll rfl | exact sF1 rfl | exact sBld (by repeat' (first | exact trivial | rfl | exact Nat.le_of_ble_eq_true rfl | refine And.intro ?_ ?_)) rfl | exact sBS (by repeat' (first | exact trivial | rfl | exact Nat.le_of_ble_eq_true rfl | refine And.intro ?_ ?_)) rfl rfl rfl rfl | exact sBSF (by repeat' (first | exact trivial | rfl | exact Nat.le_of_ble_eq_true rfl | refine And.intro ?_ ?_)) rfl rfl rfl rfl | exact sLe rfl | exact Chk.mk (by kernel_rfl) | exact ⟨Chk.mk (by kernel_rfl)⟩ | exact sLeEq rfl rfl | exact sAnd (by repeat' constructor) (c_impl_MsgEntry a ia oa) | exact sAnd (by repeat' constructor) (c_spec_MsgEntry a ia oa) | exact sAnd (by repeat' constructor) (c_iLike a b oa ob' rfl) | exact sAnd (by repeat' constructor) (c_sLike a b oa ob' rfl) | exact sAnd (by repeat' constructor) (c_sEnt a oa ha) | exact sAnd (by repeat' constructor) (c_sEnt b ob' hb2) | exact sAnd (by repeat' constructor) (c_sEnt c oc hc2) | refine fun h => ?_)
    all_goals first
      | (exfalso; simp_all; done)
      | exact ⟨trivial, trivial⟩
      | (apply exU2; refine ⟨[], [], trivial, ?_⟩; (focus (repeat' (first | exact trivial | exact ⟨trivial⟩ | exact Side.mk rfl | exact sF1 rfl | exact Chk.mk (by kernel_rfl) | exact ⟨Chk.mk (by kernel_rfl)⟩ | refine And.intro ?_ ?_ | rfl))); done)
      | skip
  | true =>
    have t1 := etext_cmp ha hb2
    have t2 := etext_cmp ha hc2
    refine W.go [(24, .res (os (entText a))), (26, .res (os (entText a))), (31, .res (ob (decide (a = b)))), (34, .res (ob (decide (a = b)))), (38, .res (ob true)), (42, .res (ob true)), (47, .res (ob true)),
      (52, .res (ob (decide (a = b)))), (54, .res (os (entText a))), (56, .res (os (entText b))), (62, .res (ob (decide (a = c)))), (64, .res (os (entText a))), (66, .res (os (entText c)))] TTok hmo ?_
    repeat' (first | refine And.intro ?_ ?_ | exact tf | exact ft | refine tt ?_ | refine ff ?_ | exact ⟨trivial⟩ | exact sAll rfl | exact sF1 rfl | exact sBld (by repeat' (first | exact trivial | rfl | exact Nat.le_of_ble_eq_true rfl | refine And.intro ?_ ?_)) rfl | exact sBS (by repeat' (first | exact trivial | rfl | exact Nat.le_of_ble_eq_true rfl | refine And.intro ?_ ?_)) rfl rfl rfl rfl | exact sBSF (by repeat' (first | exact trivial | rfl | exact Nat.le_of_ble_eq_true rfl | refine And.intro ?_ ?_)) rfl rfl rfl rfl | exact sLe rfl | exact Chk.mk (by kernel_rfl) | exact ⟨Chk.mk (by kernel_rfl)⟩ | exact sLeEq rfl rfl | exact sAnd (by repeat' constructor) (c_impl_MsgEntry a ia oa) | exact sAnd (by repeat' constructor) (c_spec_MsgEntry a ia oa) | exact sAnd (by repeat' constructor) (c_impl_MsgEntry b ib ob') | exact sAnd (by repeat' constructor) (c_impl_MsgEntry c ic oc) | exact sAnd (by repeat' constructor) (c_iLike a b oa ob' rfl) | exact sAnd (by repeat' constructor) (c_sLike a b oa ob' rfl) | exact sAnd (by repeat' constructor) (c_sEnt a oa ha) | exact sAnd (by repeat' constructor) (c_sEnt b ob' hb2) | exact sAnd (by repeat' constructor) (c_sEnt c oc hc2) | exact sAnd (by repeat' constructor) (c_iLike a c oa oc rfl) | refine fun h => ?_)
    all_goals first
      | (exfalso; simp_all; done)
      | exact ⟨trivial, trivial⟩
      | (apply exU2; refine ⟨[], [], trivial, ?_⟩; (focus (repeat' (first | exact trivial | exact ⟨trivial⟩ | exact Side.mk rfl | exact sF1 rfl | exact Chk.mk (by kernel_rfl) | exact ⟨Chk.mk (by kernel_rfl)⟩ | exact ⟨by simp [t1, t2]⟩ | refine And.intro ?_ ?_ | rfl))); done)
      | skip
end Mg

/- What the row's arguments read as. No condition. -/
namespace Mg
open Go Go.RowKit
set_option maxRecDepth 100000
set_option linter.unusedVariables false

theorem TTlay : LOk TT := fun t i h => by
  have h1 : (tyL.all fun q => q.2.lay TT) = true := by kernel_rfl
  have h2 : (t, i) ∈ tyL := look_mem h
  exact List.all_eq_true.1 h1 _ h2

theorem fit_two {n t : Nat} {cs : List MC} {i : TI} (h : fit TT n t cs) (ht : TT t = some i) (hk : i.k = .struct [(0, 3), (1, 3)]) : ∃ x : Two, cs = x.cells := by
  obtain ⟨n, a, r, rfl, ha, b, r', rfl, hb, rfl⟩ := fit_struct h ht hk
  obtain ⟨x, rfl, _⟩ := fit_int ha (i := ⟨1, 8, .int .i64, [.int .i64]⟩) rfl rfl
  obtain ⟨y, rfl, _⟩ := fit_int hb (i := ⟨1, 8, .int .i64, [.int .i64]⟩) rfl rfl
  exact ⟨⟨x, y⟩, rfl⟩
theorem fit_twos {n t e : Nat} {cs : List MC} {i ie : TI} (h : fit TT n t cs) (ht : TT t = some i) (hk : i.k = .slice e) (he : TT e = some ie) (hke : ie.k = .struct [(0, 3), (1, 3)]) : ∃ xs : List Two, cs = [.fz (xs.map Two.cells)] ∧ xs.length ≤ maxLen := by
  obtain ⟨rows, rfl, hl, hr⟩ := fit_slice h ht hk
  obtain ⟨xs, rfl, _⟩ := rows_data (c := Two.cells) (p := fun _ => True) fun r hr' => by
    obtain ⟨n, hn⟩ := hr r hr'
    obtain ⟨x, hx⟩ := fit_two hn he hke
    exact ⟨x, hx, trivial⟩
  exact ⟨xs, rfl, by simpa using hl⟩
theorem fit_run {n : Nat} {cs : List MC} (h : fit TT n 27 cs) : ∃ x : Run, cs = x.cells ∧ x.ok maxLen := by
  obtain ⟨n, a, r, rfl, ha, b, r', rfl, hb, c, r'', rfl, hc, d, r3, rfl, hd, rfl⟩ := fit_struct h (i := ⟨4, 64, .struct [(0, 24), (1, 25), (2, 3), (3, 3)], [.nil, .nil, .int .i64, .int .i64]⟩) rfl rfl
  obtain ⟨xs, rfl, hx⟩ := fit_twos ha (i := ⟨1, 24, .slice 125, [.nil]⟩) (ie := ⟨2, 16, .struct [(0, 3), (1, 3)], [.int .i64, .int .i64]⟩) rfl rfl rfl rfl
  obtain ⟨ys, rfl, hy⟩ := fit_twos hb (i := ⟨1, 24, .slice 127, [.nil]⟩) (ie := ⟨2, 16, .struct [(0, 3), (1, 3)], [.int .i64, .int .i64]⟩) rfl rfl rfl rfl
  obtain ⟨x, rfl, _⟩ := fit_int hc (i := ⟨1, 8, .int .i64, [.int .i64]⟩) rfl rfl
  obtain ⟨y, rfl, _⟩ := fit_int hd (i := ⟨1, 8, .int .i64, [.int .i64]⟩) rfl rfl
  exact ⟨⟨xs, ys, x, y⟩, rfl, hx, hy⟩
theorem fit_entry {n : Nat} {cs : List MC} (h : fit TT n 29 cs) : ∃ x : Entry, cs = x.cells ∧ x.ok maxLen := by
  obtain ⟨n, a, r, rfl, ha, b, r', rfl, hb, c, r'', rfl, hc, rfl⟩ := fit_struct h (i := ⟨7, 88, .struct [(0, 4), (1, 23), (3, 27)], [.bool, .int .i64, .int .i64, .nil, .nil, .int .i64, .int .i64]⟩) rfl rfl
  obtain ⟨x, rfl⟩ := fit_bool ha (i := ⟨1, 1, .bool, [.bool]⟩) rfl rfl
  obtain ⟨q, rfl⟩ := fit_two hb (i := ⟨2, 16, .struct [(0, 3), (1, 3)], [.int .i64, .int .i64]⟩) rfl rfl
  obtain ⟨y, rfl, hy⟩ := fit_run hc
  exact ⟨⟨x, q, y⟩, by simp [Entry.cells], hy⟩
theorem fit_vote {n : Nat} {cs : List MC} (h : fit TT n 121 cs) : ∃ x : Vote, cs = x.cells ∧ x.ok maxLen := by
  obtain ⟨n, a, r, rfl, ha, b, r', rfl, hb, rfl⟩ := fit_struct h (i := ⟨8, 96, .struct [(0, 3), (1, 29)], [.int .i64, .bool, .int .i64, .int .i64, .nil, .nil, .int .i64, .int .i64]⟩) rfl rfl
  obtain ⟨x, rfl, _⟩ := fit_int ha (i := ⟨1, 8, .int .i64, [.int .i64]⟩) rfl rfl
  obtain ⟨y, rfl, hy⟩ := fit_entry hb
  exact ⟨⟨x, y⟩, by simp [Vote.cells], hy⟩
theorem fit_votes {n : Nat} {cs : List MC} (h : fit TT n 55 cs) : ∃ xs : List Vote, cs = [.fz (xs.map Vote.cells)] ∧ VotesOk maxLen xs := by
  obtain ⟨rows, rfl, hl, hr⟩ := fit_slice h (i := ⟨1, 24, .slice 121, [.nil]⟩) rfl rfl
  obtain ⟨xs, rfl, hv⟩ := rows_data (c := Vote.cells) (p := fun v => v.ok maxLen) fun r hr' => by
    obtain ⟨n, hn⟩ := hr r hr'
    exact fit_vote hn
  exact ⟨xs, rfl, by simpa using hl, hv⟩
end Mg

/- What a row's text of bytes reads as. No condition. -/
namespace Mg
open Go Go.RowKit
set_option maxRecDepth 100000
set_option linter.unusedVariables false
theorem fit_code {n : Nat} {c : MC} (h : fit TT n 42 [c]) : ∃ bs : List Int, c = .fz (bs.map u8) ∧ Code8 bs := by
  obtain ⟨rows, e, hl, hr⟩ := fit_slice h (i := ⟨1, 24, .slice 5, [.nil]⟩) rfl rfl
  obtain ⟨bs, rfl, hb⟩ := rows_data (c := u8) (p := fun b : Int => 0 ≤ b ∧ b ≤ 255) fun r hr' => by
    obtain ⟨n, hn⟩ := hr r hr'
    obtain ⟨m, rfl, h1, h2⟩ := fit_int hn (i := ⟨1, 1, .int .u8, [.int .u8]⟩) rfl rfl
    exact ⟨m, rfl, h1, h2⟩
  simp only [List.cons.injEq, and_true] at e
  exact ⟨bs, e, by simpa using hl, hb⟩
end Mg
