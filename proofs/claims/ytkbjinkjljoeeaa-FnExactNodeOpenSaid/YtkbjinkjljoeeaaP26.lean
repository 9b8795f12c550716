/- Parts of the abstract state logic and of the walks, one behind the other: R2E, R2H, E16, E17. No condition. -/
import Derived.Test.YtkbjinkjljoeeaaP14
import Derived.Test.YtkbjinkjljoeeaaP25
import Derived.Test.YtkbjinkjljoeeaaP19
import Derived.Test.YtkbjinkjljoeeaaP20
/- Sizes of nodes. No condition. -/
namespace Mg
open Go Go.RowKit
set_option maxRecDepth 100000
set_option linter.unusedVariables false
set_option linter.unusedSimpArgs false
attribute [local irreducible] W Pure
theorem c_szBoolS (xs : List Bool) (l : Int) (h0 : 0 ≤ l) (h1 : l ≤ lim) (hx : xs.length ≤ maxLen) : Pure PP false 151 [.one (.fz (xs.map Bool.cells)), oi l] (oi (szT xs.length l)) := by
  have hw : IntKind.i64.wrap (l - ((xs.map Bool.cells).length : Int)) = l - xs.length := by
    unfold maxLen at hx; unfold lim at h1; rw [List.length_map, wrapi] <;> omega
  refine Pure.vc [] TTok hmo Go.Proofs.Try.func151 (by kernel_rfl) rfl (by kernel_rfl) ?_
  repeat' (first | refine And.intro ?_ ?_ | exact tf | exact ft | refine tt ?_ | refine ff ?_ | exact ⟨trivial⟩ | exact sAll rfl | exact sF1 rfl | exact sBld (by repeat' (first | exact trivial | rfl | exact Nat.le_of_ble_eq_true rfl | refine And.intro ?_ ?_)) rfl | exact sBS (by repeat' (first | exact trivial | rfl | exact Nat.le_of_ble_eq_true rfl | refine And.intro ?_ ?_)) rfl rfl rfl rfl | exact sBSF (by repeat' (first | exact trivial | rfl | exact Nat.le_of_ble_eq_true rfl | refine And.intro ?_ ?_)) rfl rfl rfl rfl | exact sLe rfl | exact Chk.mk (by kernel_rfl) | exact ⟨Chk.mk (by kernel_rfl)⟩ | exact sLeEq rfl rfl | refine fun h => ?_)
  all_goals (rw [hw] at h; refine ⟨?_⟩; simp_all [szT, sg])
  omega

theorem c_szInsS (xs : List Ins) (l : Int) (h0 : 0 ≤ l) (h1 : l ≤ lim) (hx : xs.length ≤ maxLen) : Pure PP false 152 [.one (.fz (xs.map Ins.cells)), oi l] (oi (szT xs.length l)) := by
  have hw : IntKind.i64.wrap (l - ((xs.map Ins.cells).length : Int)) = l - xs.length := by
    unfold maxLen at hx; unfold lim at h1; rw [List.length_map, wrapi] <;> omega
  refine Pure.vc [] TTok hmo Go.Proofs.Try.func152 (by kernel_rfl) rfl (by kernel_rfl) ?_
  repeat' (first | refine And.intro ?_ ?_ | exact tf | exact ft | refine tt ?_ | refine ff ?_ | exact ⟨trivial⟩ | exact sAll rfl | exact sF1 rfl | exact sBld (by repeat' (first | exact trivial | rfl | exact Nat.le_of_ble_eq_true rfl | refine And.intro ?_ ?_)) rfl | exact sBS (by repeat' (first | exact trivial | rfl | exact Nat.le_of_ble_eq_true rfl | refine And.intro ?_ ?_)) rfl rfl rfl rfl | exact sBSF (by repeat' (first | exact trivial | rfl | exact Nat.le_of_ble_eq_true rfl | refine And.intro ?_ ?_)) rfl rfl rfl rfl | exact sLe rfl | exact Chk.mk (by kernel_rfl) | exact ⟨Chk.mk (by kernel_rfl)⟩ | exact sLeEq rfl rfl | refine fun h => ?_)
  all_goals (rw [hw] at h; refine ⟨?_⟩; simp_all [szT, sg])
  omega

theorem c_szEntryS (xs : List Entry) (l : Int) (h0 : 0 ≤ l) (h1 : l ≤ lim) (hx : xs.length ≤ maxLen) (hv : ∀ v ∈ xs, v.ok maxLen) : Pure PP false 150 [.one (.fz (xs.map Entry.cells)), oi l] (oi (szS szEntry xs l)) := by
  have hw : IntKind.i64.wrap (l - ((xs.map Entry.cells).length : Int)) = l - xs.length := by
    unfold maxLen at hx; unfold lim at h1; rw [List.length_map, wrapi] <;> omega
  have hx' : xs.length ≤ 9223372036854775807 := hx
  refine Pure.vc [] TTok hmo Go.Proofs.Try.func150 (by kernel_rfl) rfl (by kernel_rfl) ?_
  repeat' (first | refine And.intro ?_ ?_ | exact tf | exact ft | refine tt ?_ | refine ff ?_ | exact ⟨trivial⟩ | exact sAll rfl | exact sF1 rfl | exact sBld (by repeat' (first | exact trivial | rfl | exact Nat.le_of_ble_eq_true rfl | refine And.intro ?_ ?_)) rfl | exact sBS (by repeat' (first | exact trivial | rfl | exact Nat.le_of_ble_eq_true rfl | refine And.intro ?_ ?_)) rfl rfl rfl rfl | exact sBSF (by repeat' (first | exact trivial | rfl | exact Nat.le_of_ble_eq_true rfl | refine And.intro ?_ ?_)) rfl rfl rfl rfl | exact sLe rfl | exact Chk.mk (by kernel_rfl) | exact ⟨Chk.mk (by kernel_rfl)⟩ | exact sLeEq rfl rfl | refine fun h => ?_)
  · rw [hw] at h; refine ⟨?_⟩; simp_all [szS, thenI]
  · rw [hw] at h
    simp only [decide_eq_false_iff_not] at h
    refine W.loopC (D := Nat × Int) (fun d => [(20, .row (xs.getD d.1 default).cells), (23, .res (oi (szEntry (xs.getD d.1 default) d.2)))]) TTok hmo
      (fun d => ⟨27, 0, [(0, .one (.ag (xs.map Entry.cells))), (1, oi d.2), (4, oi 0), (5, oi d.1)], []⟩) (fun d => xs.length - d.1) (fun d => d.1 ≤ xs.length ∧ 0 ≤ d.2 ∧ d.2 ≤ lim ∧ szS szEntry xs l = szL szEntry (xs.drop d.1) d.2) (0, l - xs.length) [] ⟨by simp, by simp only; omega, by simp only; omega, by simp [szS, thenI]; omega⟩ ?_ ?_
    · repeat' (first | exact trivial | exact ⟨rfl⟩ | exact Chk.mk (by kernel_rfl) | refine And.intro ?_ ?_ | rfl)
      exact ⟨hw.symm⟩
    · intro ⟨i, a⟩ ⟨hi, ha0, ha1, hp⟩
      simp only at hi ha0 ha1 hp
      repeat' (first | refine And.intro ?_ ?_ | exact tf | exact ft | refine tt ?_ | refine ff ?_ | exact ⟨trivial⟩ | exact sAll rfl | exact sF1 rfl | exact sBld (by repeat' (first | exact trivial | rfl | exact Nat.le_of_ble_eq_true rfl | refine And.intro ?_ ?_)) rfl | exact sBS (by repeat' (first | exact trivial | rfl | exact Nat.le_of_ble_eq_true rfl | refine And.intro ?_ ?_)) rfl rfl rfl rfl | exact sBSF (by repeat' (first | exact trivial | rfl | exact Nat.le_of_ble_eq_true rfl | refine And.intro ?_ ?_)) rfl rfl rfl rfl | exact sLe rfl | exact Chk.mk (by kernel_rfl) | exact ⟨Chk.mk (by kernel_rfl)⟩ | exact sLeEq rfl rfl | refine fun h => ?_)
      all_goals simp only [decide_eq_true_eq, decide_eq_false_iff_not, List.length_map] at *
      · exact sRow (by omega) (row_at xs _ (by omega)) rfl
      · exact sAnd (by repeat' constructor) (c_szEntry _ _ ha0 ha1 (hv _ (getD_mem (by omega))))
      · rw [szL_step _ _ _ (by omega)] at hp
        refine ⟨?_⟩; simp_all [thenI]
      · rw [szL_step _ _ _ (by omega)] at hp
        have hle := (szOk_entry (xs.getD i default)).le _ ha0
        refine ⟨(i + 1, szEntry (xs.getD i default) a), [], by simp only; omega, ⟨by simp only; omega, by simp only; omega, by simp only; omega, by simp only; rw [hp, thenI, if_neg (by assumption)]⟩, ?_⟩
        repeat' (first | exact trivial | exact ⟨rfl⟩ | exact Chk.mk (by kernel_rfl) | exact ⟨wrap_succ (n := xs.length) (by omega) (by omega)⟩ | refine And.intro ?_ ?_ | rfl)
      · rw [List.drop_eq_nil_of_le (by omega)] at hp
        refine ⟨?_⟩; simp_all [szL]

set_option maxHeartbeats 2000000 in
theorem c_szNode (x : Node) (l : Int) (h0 : 0 ≤ l) (h1 : l ≤ lim) (hx : x.ok maxLen) : Pure PP false 129 [.agg x.cells, oi l] (oi (szNode x l)) := by
  have h1' : l ≤ 1048576 := h1
  obtain ⟨l1, k1⟩ : ∃ l1, szAcc x.acc l = l1 := ⟨_, rfl⟩
  have e1 :  l1 ≤ l := k1 ▸ (szOk_acc x.acc).le l h0
  have c1 :=  c_szAcc _ l h0 h1 hx.acc
  simp only [k1] at c1
  obtain ⟨l2, k2⟩ : ∃ l2, szS szEntry x.known l1 = l2 := ⟨_, rfl⟩
  have e2 : ∀ (g1 : 0 ≤ l1), l2 ≤ l1 := fun g1 => k2 ▸ (szOk_entries x.known).le l1 g1
  have c2 := fun (g1 : 0 ≤ l1) => c_szEntryS _ l1 g1 (show (l1 : Int) ≤ 1048576 by have := e1; omega) hx.known.1 hx.known.2
  simp only [k2] at c2
  obtain ⟨l3, k3⟩ : ∃ l3, szT x.fro.length l2 = l3 := ⟨_, rfl⟩
  have e3 : ∀ (g1 : 0 ≤ l1) (g2 : 0 ≤ l2), l3 ≤ l2 := fun g1 g2 => k3 ▸ (szOk_T x.fro.length).le l2 g2
  have c3 := fun (g1 : 0 ≤ l1) (g2 : 0 ≤ l2) => c_szBoolS _ l2 g2 (show (l2 : Int) ≤ 1048576 by have := e1; have := e2 g1; omega) hx.fro
  simp only [k3] at c3
  obtain ⟨l4, k4⟩ : ∃ l4, szVoteS x.best l3 = l4 := ⟨_, rfl⟩
  have e4 : ∀ (g1 : 0 ≤ l1) (g2 : 0 ≤ l2) (g3 : 0 ≤ l3), l4 ≤ l3 := fun g1 g2 g3 => k4 ▸ (szOk_votes x.best).le l3 g3
  have c4 := fun (g1 : 0 ≤ l1) (g2 : 0 ≤ l2) (g3 : 0 ≤ l3) => c_szVoteS _ l3 g3 (show (l3 : Int) ≤ 1048576 by have := e1; have := e2 g1; have := e3 g1 g2; omega) hx.best.1 hx.best.2
  simp only [k4] at c4
  obtain ⟨l5, k5⟩ : ∃ l5, szEntry x.cur l4 = l5 := ⟨_, rfl⟩
  have e5 : ∀ (g1 : 0 ≤ l1) (g2 : 0 ≤ l2) (g3 : 0 ≤ l3) (g4 : 0 ≤ l4), l5 ≤ l4 := fun g1 g2 g3 g4 => k5 ▸ (szOk_entry x.cur).le l4 g4
  have c5 := fun (g1 : 0 ≤ l1) (g2 : 0 ≤ l2) (g3 : 0 ≤ l3) (g4 : 0 ≤ l4) => c_szEntry _ l4 g4 (show (l4 : Int) ≤ 1048576 by have := e1; have := e2 g1; have := e3 g1 g2; have := e4 g1 g2 g3; omega) hx.cur
  simp only [k5] at c5
  obtain ⟨l6, k6⟩ : ∃ l6, szT x.votes.length l5 = l6 := ⟨_, rfl⟩
  have e6 : ∀ (g1 : 0 ≤ l1) (g2 : 0 ≤ l2) (g3 : 0 ≤ l3) (g4 : 0 ≤ l4) (g5 : 0 ≤ l5), l6 ≤ l5 := fun g1 g2 g3 g4 g5 => k6 ▸ (szOk_T x.votes.length).le l5 g5
  have c6 := fun (g1 : 0 ≤ l1) (g2 : 0 ≤ l2) (g3 : 0 ≤ l3) (g4 : 0 ≤ l4) (g5 : 0 ≤ l5) => c_szBoolS _ l5 g5 (show (l5 : Int) ≤ 1048576 by have := e1; have := e2 g1; have := e3 g1 g2; have := e4 g1 g2 g3; have := e5 g1 g2 g3 g4; omega) hx.votes
  simp only [k6] at c6
  obtain ⟨l7, k7⟩ : ∃ l7, szT x.prog.length l6 = l7 := ⟨_, rfl⟩
  have e7 : ∀ (g1 : 0 ≤ l1) (g2 : 0 ≤ l2) (g3 : 0 ≤ l3) (g4 : 0 ≤ l4) (g5 : 0 ≤ l5) (g6 : 0 ≤ l6), l7 ≤ l6 := fun g1 g2 g3 g4 g5 g6 => k7 ▸ (szOk_T x.prog.length).le l6 g6
  have c7 := fun (g1 : 0 ≤ l1) (g2 : 0 ≤ l2) (g3 : 0 ≤ l3) (g4 : 0 ≤ l4) (g5 : 0 ≤ l5) (g6 : 0 ≤ l6) => c_szInsS _ l6 g6 (show (l6 : Int) ≤ 1048576 by have := e1; have := e2 g1; have := e3 g1 g2; have := e4 g1 g2 g3; have := e5 g1 g2 g3 g4; have := e6 g1 g2 g3 g4 g5; omega) hx.prog
  simp only [k7] at c7
  obtain ⟨l8, k8⟩ : ∃ l8, szEntry x.want l7 = l8 := ⟨_, rfl⟩
  have e8 : ∀ (g1 : 0 ≤ l1) (g2 : 0 ≤ l2) (g3 : 0 ≤ l3) (g4 : 0 ≤ l4) (g5 : 0 ≤ l5) (g6 : 0 ≤ l6) (g7 : 0 ≤ l7), l8 ≤ l7 := fun g1 g2 g3 g4 g5 g6 g7 => k8 ▸ (szOk_entry x.want).le l7 g7
  have c8 := fun (g1 : 0 ≤ l1) (g2 : 0 ≤ l2) (g3 : 0 ≤ l3) (g4 : 0 ≤ l4) (g5 : 0 ≤ l5) (g6 : 0 ≤ l6) (g7 : 0 ≤ l7) => c_szEntry _ l7 g7 (show (l7 : Int) ≤ 1048576 by have := e1; have := e2 g1; have := e3 g1 g2; have := e4 g1 g2 g3; have := e5 g1 g2 g3 g4; have := e6 g1 g2 g3 g4 g5; have := e7 g1 g2 g3 g4 g5 g6; omega) hx.want
  simp only [k8] at c8
  obtain ⟨l9, k9⟩ : ∃ l9, szS szEntry x.queue l8 = l9 := ⟨_, rfl⟩
  have e9 : ∀ (g1 : 0 ≤ l1) (g2 : 0 ≤ l2) (g3 : 0 ≤ l3) (g4 : 0 ≤ l4) (g5 : 0 ≤ l5) (g6 : 0 ≤ l6) (g7 : 0 ≤ l7) (g8 : 0 ≤ l8), l9 ≤ l8 := fun g1 g2 g3 g4 g5 g6 g7 g8 => k9 ▸ (szOk_entries x.queue).le l8 g8
  have c9 := fun (g1 : 0 ≤ l1) (g2 : 0 ≤ l2) (g3 : 0 ≤ l3) (g4 : 0 ≤ l4) (g5 : 0 ≤ l5) (g6 : 0 ≤ l6) (g7 : 0 ≤ l7) (g8 : 0 ≤ l8) => c_szEntryS _ l8 g8 (show (l8 : Int) ≤ 1048576 by have := e1; have := e2 g1; have := e3 g1 g2; have := e4 g1 g2 g3; have := e5 g1 g2 g3 g4; have := e6 g1 g2 g3 g4 g5; have := e7 g1 g2 g3 g4 g5 g6; have := e8 g1 g2 g3 g4 g5 g6 g7; omega) hx.queue.1 hx.queue.2
  simp only [k9] at c9
  have hN : szNode x l = _ := rfl
  rw [hN]
  simp only [szNode, thenI, sg, k1, k2, k3, k4, k5, k6, k7, k8, k9]
  clear hN
  refine Pure.vc [(8, .res (oi l1)), (14, .res (oi l2)), (20, .res (oi l3)), (26, .res (oi l4)), (32, .res (oi l5)), (38, .res (oi l6)), (44, .res (oi l7)), (50, .res (oi l8)), (56, .res (oi l9))] TTok hmo Go.Proofs.Try.func129 (by kernel_rfl) rfl (by kernel_rfl) ?_
  repeat' (first | refine And.intro ?_ ?_ | exact tf | exact ft | refine tt ?_ | refine ff ?_ | exact ⟨trivial⟩ | exact sAll rfl | exact sF1 rfl | exact sBld (by repeat' (first | exact trivial | rfl | exact Nat.le_of_ble_eq_true rfl | refine And.intro ?_ ?_)) rfl | exact sBS (by repeat' (first | exact trivial | rfl | exact Nat.le_of_ble_eq_true rfl | refine And.intro ?_ ?_)) rfl rfl rfl rfl | exact sBSF (by repeat' (first | exact trivial | rfl | exact Nat.le_of_ble_eq_true rfl | refine And.intro ?_ ?_)) rfl rfl rfl rfl | exact sLe rfl | exact Chk.mk (by kernel_rfl) | exact ⟨Chk.mk (by kernel_rfl)⟩ | exact sLeEq rfl rfl | exact sAnd (by repeat' constructor) (c1) | exact sAnd (by repeat' constructor) (c2 (by simp only [decide_eq_false_iff_not, decide_eq_true_eq] at *; omega)) | exact sAnd (by repeat' constructor) (c3 (by simp only [decide_eq_false_iff_not, decide_eq_true_eq] at *; omega) (by simp only [decide_eq_false_iff_not, decide_eq_true_eq] at *; omega)) | exact sAnd (by repeat' constructor) (c4 (by simp only [decide_eq_false_iff_not, decide_eq_true_eq] at *; omega) (by simp only [decide_eq_false_iff_not, decide_eq_true_eq] at *; omega) (by simp only [decide_eq_false_iff_not, decide_eq_true_eq] at *; omega)) | exact sAnd (by repeat' constructor) (c5 (by simp only [decide_eq_false_iff_not, decide_eq_true_eq] at *; omega) (by simp only [decide_eq_false_iff_not, decide_eq_true_eq] at *; omega) (by simp only [decide_eq_false_iff_not, decide_eq_true_eq] at *; omega) (by simp only [decide_eq_false_iff_not, decide_eq_true_eq] at *; omega)) | exact sAnd (by repeat' constructor) (c6 (by simp only [decide_eq_false_iff_not, decide_eq_true_eq] at *; omega) (by simp only [decide_eq_false_iff_not, decide_eq_true_eq] at *; omega) (by simp only [decide_eq_false_iff_not, decide_eq_true_eq] at *; omega) (by simp only [decide_eq_false_iff_not, decide_eq_true_eq] at *; omega) (by simp only [decide_eq_false_iff_not, decide_eq_true_eq] at *; omega)) | exact sAnd (by repeat' constructor) (c7 (by simp only [decide_eq_false_iff_not, decide_eq_true_eq] at *; omega) (by simp only [decide_eq_false_iff_not, decide_eq_true_eq] at *; omega) (by simp only [decide_eq_false_iff_not, decide_eq_true_eq] at *; omega) (by simp only [decide_eq_false_iff_not, decide_eq_true_eq] at *; omega) (by simp only [decide_eq_false_iff_not, decide_eq_true_eq] at *; omega) (by simp only [decide_eq_false_iff_not, decide_eq_true_eq] at *; omega)) | exact sAnd (by repeat' constructor) (c8 (by simp only [decide_eq_false_iff_not, decide_eq_true_eq] at *; omega) (by simp only [decide_eq_false_iff_not, decide_eq_true_eq] at *; omega) (by simp only [decide_eq_false_iff_not, decide_eq_true_eq] at *; omega) (by simp only [decide_eq_false_iff_not, decide_eq_true_eq] at *; omega) (by simp only [decide_eq_false_iff_not, decide_eq_true_eq] at *; omega) (by simp only [decide_eq_false_iff_not, decide_eq_true_eq] at *; omega) (by simp only [decide_eq_false_iff_not, decide_eq_true_eq] at *; omega)) | exact sAnd (by repeat' constructor) (c9 (by simp only [decide_eq_false_iff_not, decide_eq_true_eq] at *; omega) (by simp only [decide_eq_false_iff_not, decide_eq_true_eq] at *; omega) (by simp only [decide_eq_false_iff_not, decide_eq_true_eq] at *; omega) (by simp only [decide_eq_false_iff_not, decide_eq_true_eq] at *; omega) (by simp only [decide_eq_false_iff_not, decide_eq_true_eq] at *; omega) (by simp only [decide_eq_false_iff_not, decide_eq_true_eq] at *; omega) (by simp only [decide_eq_false_iff_not, decide_eq_true_eq] at *; omega) (by simp only [decide_eq_false_iff_not, decide_eq_true_eq] at *; omega)) | refine fun h => ?_)
  all_goals clear c9 e9 k9 c8 e8 k8 c7 e7 k7 c6 e6 k6 c5 e5 k5 c4 e4 k4 c3 e3 k3 c2 e2 k2 c1 e1 k1
  all_goals (refine Side.mk ?_; simp_all)
  all_goals try (intro hz; omega)
  all_goals repeat rw [if_neg (by omega)]

end Mg

/- Sizes of worlds. No condition. -/
namespace Mg
open Go Go.RowKit
set_option maxRecDepth 100000
set_option linter.unusedVariables false
set_option linter.unusedSimpArgs false
attribute [local irreducible] W Pure
theorem c_szMsgS (xs : List Msg) (l : Int) (h0 : 0 ≤ l) (h1 : l ≤ lim) (hx : xs.length ≤ maxLen) (hv : ∀ v ∈ xs, v.ok maxLen) : Pure PP false 92 [.one (.fz (xs.map Msg.cells)), oi l] (oi (szS szMsg xs l)) := by
  have hw : IntKind.i64.wrap (l - ((xs.map Msg.cells).length : Int)) = l - xs.length := by
    unfold maxLen at hx; unfold lim at h1; rw [List.length_map, wrapi] <;> omega
  have hx' : xs.length ≤ 9223372036854775807 := hx
  refine Pure.vc [] TTok hmo Go.Proofs.Try.func92 (by kernel_rfl) rfl (by kernel_rfl) ?_
  repeat' (first | refine And.intro ?_ ?_ | exact tf | exact ft | refine tt ?_ | refine ff ?_ | exact ⟨trivial⟩ | exact sAll rfl | exact sF1 rfl | exact sBld (by repeat' (first | exact trivial | rfl | exact Nat.le_of_ble_eq_true rfl | refine And.intro ?_ ?_)) rfl | exact sBS (by repeat' (first | exact trivial | rfl | exact Nat.le_of_ble_eq_true rfl | refine And.intro ?_ ?_)) rfl rfl rfl rfl | exact sBSF (by repeat' (first | exact trivial | rfl | exact Nat.le_of_ble_eq_true rfl | refine And.intro ?_ ?_)) rfl rfl rfl rfl | exact sLe rfl | exact Chk.mk (by kernel_rfl) | exact ⟨Chk.mk (by kernel_rfl)⟩ | exact sLeEq rfl rfl | refine fun h => ?_)
  · rw [hw] at h; refine ⟨?_⟩; simp_all [szS, thenI]
  · rw [hw] at h
    simp only [decide_eq_false_iff_not] at h
    refine W.loopC (D := Nat × Int) (fun d => [(20, .row (xs.getD d.1 default).cells), (23, .res (oi (szMsg (xs.getD d.1 default) d.2)))]) TTok hmo
      (fun d => ⟨27, 0, [(0, .one (.ag (xs.map Msg.cells))), (1, oi d.2), (4, oi 0), (5, oi d.1)], []⟩) (fun d => xs.length - d.1) (fun d => d.1 ≤ xs.length ∧ 0 ≤ d.2 ∧ d.2 ≤ lim ∧ szS szMsg xs l = szL szMsg (xs.drop d.1) d.2) (0, l - xs.length) [] ⟨by simp, by simp only; omega, by simp only; omega, by simp [szS, thenI]; omega⟩ ?_ ?_
    · repeat' (first | exact trivial | exact ⟨rfl⟩ | exact Chk.mk (by kernel_rfl) | refine And.intro ?_ ?_ | rfl)
      exact ⟨hw.symm⟩
    · intro ⟨i, a⟩ ⟨hi, ha0, ha1, hp⟩
      simp only at hi ha0 ha1 hp
      repeat' (first | refine And.intro ?_ ?_ | exact tf | exact ft | refine tt ?_ | refine ff ?_ | exact ⟨trivial⟩ | exact sAll rfl | exact sF1 rfl | exact sBld (by repeat' (first | exact trivial | rfl | exact Nat.le_of_ble_eq_true rfl | refine And.intro ?_ ?_)) rfl | exact sBS (by repeat' (first | exact trivial | rfl | exact Nat.le_of_ble_eq_true rfl | refine And.intro ?_ ?_)) rfl rfl rfl rfl | exact sBSF (by repeat' (first | exact trivial | rfl | exact Nat.le_of_ble_eq_true rfl | refine And.intro ?_ ?_)) rfl rfl rfl rfl | exact sLe rfl | exact Chk.mk (by kernel_rfl) | exact ⟨Chk.mk (by kernel_rfl)⟩ | exact sLeEq rfl rfl | refine fun h => ?_)
      all_goals simp only [decide_eq_true_eq, decide_eq_false_iff_not, List.length_map] at *
      · exact sRow (by omega) (row_at xs _ (by omega)) rfl
      · exact sAnd (by repeat' constructor) (c_szMsg _ _ ha0 ha1 (hv _ (getD_mem (by omega))))
      · rw [szL_step _ _ _ (by omega)] at hp
        refine ⟨?_⟩; simp_all [thenI]
      · rw [szL_step _ _ _ (by omega)] at hp
        have hle := (szOk_msg (xs.getD i default)).le _ ha0
        refine ⟨(i + 1, szMsg (xs.getD i default) a), [], by simp only; omega, ⟨by simp only; omega, by simp only; omega, by simp only; omega, by simp only; rw [hp, thenI, if_neg (by assumption)]⟩, ?_⟩
        repeat' (first | exact trivial | exact ⟨rfl⟩ | exact Chk.mk (by kernel_rfl) | exact ⟨wrap_succ (n := xs.length) (by omega) (by omega)⟩ | refine And.intro ?_ ?_ | rfl)
      · rw [List.drop_eq_nil_of_le (by omega)] at hp
        refine ⟨?_⟩; simp_all [szL]

theorem c_szToldS (xs : List Told) (l : Int) (h0 : 0 ≤ l) (h1 : l ≤ lim) (hx : xs.length ≤ maxLen) : Pure PP false 94 [.one (.fz (xs.map Told.cells)), oi l] (oi (szT xs.length l)) := by
  have hw : IntKind.i64.wrap (l - ((xs.map Told.cells).length : Int)) = l - xs.length := by
    unfold maxLen at hx; unfold lim at h1; rw [List.length_map, wrapi] <;> omega
  refine Pure.vc [] TTok hmo Go.Proofs.Try.func94 (by kernel_rfl) rfl (by kernel_rfl) ?_
  repeat' (first | refine And.intro ?_ ?_ | exact tf | exact ft | refine tt ?_ | refine ff ?_ | exact ⟨trivial⟩ | exact sAll rfl | exact sF1 rfl | exact sBld (by repeat' (first | exact trivial | rfl | exact Nat.le_of_ble_eq_true rfl | refine And.intro ?_ ?_)) rfl | exact sBS (by repeat' (first | exact trivial | rfl | exact Nat.le_of_ble_eq_true rfl | refine And.intro ?_ ?_)) rfl rfl rfl rfl | exact sBSF (by repeat' (first | exact trivial | rfl | exact Nat.le_of_ble_eq_true rfl | refine And.intro ?_ ?_)) rfl rfl rfl rfl | exact sLe rfl | exact Chk.mk (by kernel_rfl) | exact ⟨Chk.mk (by kernel_rfl)⟩ | exact sLeEq rfl rfl | refine fun h => ?_)
  all_goals (rw [hw] at h; refine ⟨?_⟩; simp_all [szT, sg])
  omega

set_option maxHeartbeats 2000000 in
theorem c_szAsked (x : Asked) (l : Int) (h0 : 0 ≤ l) (h1 : l ≤ lim) (hx : x.ok maxLen) : Pure PP false 131 [.agg x.cells, oi l] (oi (szAsked x l)) := by
  have h1' : l ≤ 1048576 := h1
  obtain ⟨l1, k1⟩ : ∃ l1, szT x.prog.length l = l1 := ⟨_, rfl⟩
  have e1 :  l1 ≤ l := k1 ▸ (szOk_T x.prog.length).le l h0
  have c1 :=  c_szInsS _ l h0 h1 hx
  simp only [k1] at c1
  have hN : szAsked x l = _ := rfl
  rw [hN]
  simp only [szAsked, thenI, sg, k1]
  clear hN
  refine Pure.vc [(8, .res (oi l1))] TTok hmo Go.Proofs.Try.func131 (by kernel_rfl) rfl (by kernel_rfl) ?_
  repeat' (first | refine And.intro ?_ ?_ | exact tf | exact ft | refine tt ?_ | refine ff ?_ | exact ⟨trivial⟩ | exact sAll rfl | exact sF1 rfl | exact sBld (by repeat' (first | exact trivial | rfl | exact Nat.le_of_ble_eq_true rfl | refine And.intro ?_ ?_)) rfl | exact sBS (by repeat' (first | exact trivial | rfl | exact Nat.le_of_ble_eq_true rfl | refine And.intro ?_ ?_)) rfl rfl rfl rfl | exact sBSF (by repeat' (first | exact trivial | rfl | exact Nat.le_of_ble_eq_true rfl | refine And.intro ?_ ?_)) rfl rfl rfl rfl | exact sLe rfl | exact Chk.mk (by kernel_rfl) | exact ⟨Chk.mk (by kernel_rfl)⟩ | exact sLeEq rfl rfl | exact sAnd (by repeat' constructor) (c1) | refine fun h => ?_)
  all_goals clear c1 e1 k1
  all_goals (refine Side.mk ?_; simp_all)
  all_goals try (intro hz; omega)
  all_goals repeat rw [if_neg (by omega)]

theorem c_szAskedS (xs : List Asked) (l : Int) (h0 : 0 ≤ l) (h1 : l ≤ lim) (hx : xs.length ≤ maxLen) (hv : ∀ v ∈ xs, v.ok maxLen) : Pure PP false 93 [.one (.fz (xs.map Asked.cells)), oi l] (oi (szS szAsked xs l)) := by
  have hw : IntKind.i64.wrap (l - ((xs.map Asked.cells).length : Int)) = l - xs.length := by
    unfold maxLen at hx; unfold lim at h1; rw [List.length_map, wrapi] <;> omega
  have hx' : xs.length ≤ 9223372036854775807 := hx
  refine Pure.vc [] TTok hmo Go.Proofs.Try.func93 (by kernel_rfl) rfl (by kernel_rfl) ?_
  repeat' (first | refine And.intro ?_ ?_ | exact tf | exact ft | refine tt ?_ | refine ff ?_ | exact ⟨trivial⟩ | exact sAll rfl | exact sF1 rfl | exact sBld (by repeat' (first | exact trivial | rfl | exact Nat.le_of_ble_eq_true rfl | refine And.intro ?_ ?_)) rfl | exact sBS (by repeat' (first | exact trivial | rfl | exact Nat.le_of_ble_eq_true rfl | refine And.intro ?_ ?_)) rfl rfl rfl rfl | exact sBSF (by repeat' (first | exact trivial | rfl | exact Nat.le_of_ble_eq_true rfl | refine And.intro ?_ ?_)) rfl rfl rfl rfl | exact sLe rfl | exact Chk.mk (by kernel_rfl) | exact ⟨Chk.mk (by kernel_rfl)⟩ | exact sLeEq rfl rfl | refine fun h => ?_)
  · rw [hw] at h; refine ⟨?_⟩; simp_all [szS, thenI]
  · rw [hw] at h
    simp only [decide_eq_false_iff_not] at h
    refine W.loopC (D := Nat × Int) (fun d => [(20, .row (xs.getD d.1 default).cells), (23, .res (oi (szAsked (xs.getD d.1 default) d.2)))]) TTok hmo
      (fun d => ⟨27, 0, [(0, .one (.ag (xs.map Asked.cells))), (1, oi d.2), (4, oi 0), (5, oi d.1)], []⟩) (fun d => xs.length - d.1) (fun d => d.1 ≤ xs.length ∧ 0 ≤ d.2 ∧ d.2 ≤ lim ∧ szS szAsked xs l = szL szAsked (xs.drop d.1) d.2) (0, l - xs.length) [] ⟨by simp, by simp only; omega, by simp only; omega, by simp [szS, thenI]; omega⟩ ?_ ?_
    · repeat' (first | exact trivial | exact ⟨rfl⟩ | exact Chk.mk (by kernel_rfl) | refine And.intro ?_ ?_ | rfl)
      exact ⟨hw.symm⟩
    · intro ⟨i, a⟩ ⟨hi, ha0, ha1, hp⟩
      simp only at hi ha0 ha1 hp
      repeat' (first | refine And.intro ?_ ?_ | exact tf | exact ft | refine tt ?_ | refine ff ?_ | exact ⟨trivial⟩ | exact sAll rfl | exact sF1 rfl | exact sBld (by repeat' (first | exact trivial | rfl | exact Nat.le_of_ble_eq_true rfl | refine And.intro ?_ ?_)) rfl | exact sBS (by repeat' (first | exact trivial | rfl | exact Nat.le_of_ble_eq_true rfl | refine And.intro ?_ ?_)) rfl rfl rfl rfl | exact sBSF (by repeat' (first | exact trivial | rfl | exact Nat.le_of_ble_eq_true rfl | refine And.intro ?_ ?_)) rfl rfl rfl rfl | exact sLe rfl | exact Chk.mk (by kernel_rfl) | exact ⟨Chk.mk (by kernel_rfl)⟩ | exact sLeEq rfl rfl | refine fun h => ?_)
      all_goals simp only [decide_eq_true_eq, decide_eq_false_iff_not, List.length_map] at *
      · exact sRow (by omega) (row_at xs _ (by omega)) rfl
      · exact sAnd (by repeat' constructor) (c_szAsked _ _ ha0 ha1 (hv _ (getD_mem (by omega))))
      · rw [szL_step _ _ _ (by omega)] at hp
        refine ⟨?_⟩; simp_all [thenI]
      · rw [szL_step _ _ _ (by omega)] at hp
        have hle := (szOk_asked (xs.getD i default)).le _ ha0
        refine ⟨(i + 1, szAsked (xs.getD i default) a), [], by simp only; omega, ⟨by simp only; omega, by simp only; omega, by simp only; omega, by simp only; rw [hp, thenI, if_neg (by assumption)]⟩, ?_⟩
        repeat' (first | exact trivial | exact ⟨rfl⟩ | exact Chk.mk (by kernel_rfl) | exact ⟨wrap_succ (n := xs.length) (by omega) (by omega)⟩ | refine And.intro ?_ ?_ | rfl)
      · rw [List.drop_eq_nil_of_le (by omega)] at hp
        refine ⟨?_⟩; simp_all [szL]

theorem c_szNodeS (xs : List Node) (l : Int) (h0 : 0 ≤ l) (h1 : l ≤ lim) (hx : xs.length ≤ maxLen) (hv : ∀ v ∈ xs, v.ok maxLen) : Pure PP false 91 [.one (.fz (xs.map Node.cells)), oi l] (oi (szS szNode xs l)) := by
  have hw : IntKind.i64.wrap (l - ((xs.map Node.cells).length : Int)) = l - xs.length := by
    unfold maxLen at hx; unfold lim at h1; rw [List.length_map, wrapi] <;> omega
  have hx' : xs.length ≤ 9223372036854775807 := hx
  refine Pure.vc [] TTok hmo Go.Proofs.Try.func91 (by kernel_rfl) rfl (by kernel_rfl) ?_
  repeat' (first | refine And.intro ?_ ?_ | exact tf | exact ft | refine tt ?_ | refine ff ?_ | exact ⟨trivial⟩ | exact sAll rfl | exact sF1 rfl | exact sBld (by repeat' (first | exact trivial | rfl | exact Nat.le_of_ble_eq_true rfl | refine And.intro ?_ ?_)) rfl | exact sBS (by repeat' (first | exact trivial | rfl | exact Nat.le_of_ble_eq_true rfl | refine And.intro ?_ ?_)) rfl rfl rfl rfl | exact sBSF (by repeat' (first | exact trivial | rfl | exact Nat.le_of_ble_eq_true rfl | refine And.intro ?_ ?_)) rfl rfl rfl rfl | exact sLe rfl | exact Chk.mk (by kernel_rfl) | exact ⟨Chk.mk (by kernel_rfl)⟩ | exact sLeEq rfl rfl | refine fun h => ?_)
  · rw [hw] at h; refine ⟨?_⟩; simp_all [szS, thenI]
  · rw [hw] at h
    simp only [decide_eq_false_iff_not] at h
    refine W.loopC (D := Nat × Int) (fun d => [(20, .row (xs.getD d.1 default).cells), (23, .res (oi (szNode (xs.getD d.1 default) d.2)))]) TTok hmo
      (fun d => ⟨27, 0, [(0, .one (.ag (xs.map Node.cells))), (1, oi d.2), (4, oi 0), (5, oi d.1)], []⟩) (fun d => xs.length - d.1) (fun d => d.1 ≤ xs.length ∧ 0 ≤ d.2 ∧ d.2 ≤ lim ∧ szS szNode xs l = szL szNode (xs.drop d.1) d.2) (0, l - xs.length) [] ⟨by simp, by simp only; omega, by simp only; omega, by simp [szS, thenI]; omega⟩ ?_ ?_
    · repeat' (first | exact trivial | exact ⟨rfl⟩ | exact Chk.mk (by kernel_rfl) | refine And.intro ?_ ?_ | rfl)
      exact ⟨hw.symm⟩
    · intro ⟨i, a⟩ ⟨hi, ha0, ha1, hp⟩
      simp only at hi ha0 ha1 hp
      repeat' (first | refine And.intro ?_ ?_ | exact tf | exact ft | refine tt ?_ | refine ff ?_ | exact ⟨trivial⟩ | exact sAll rfl | exact sF1 rfl | exact sBld (by repeat' (first | exact trivial | rfl | exact Nat.le_of_ble_eq_true rfl | refine And.intro ?_ ?_)) rfl | exact sBS (by repeat' (first | exact trivial | rfl | exact Nat.le_of_ble_eq_true rfl | refine And.intro ?_ ?_)) rfl rfl rfl rfl | exact sBSF (by repeat' (first | exact trivial | rfl | exact Nat.le_of_ble_eq_true rfl | refine And.intro ?_ ?_)) rfl rfl rfl rfl | exact sLe rfl | exact Chk.mk (by kernel_rfl) | exact ⟨Chk.mk (by kernel_rfl)⟩ | exact sLeEq rfl rfl | refine fun h => ?_)
      all_goals simp only [decide_eq_true_eq, decide_eq_false_iff_not, List.length_map] at *
      · exact sRow (by omega) (row_at xs _ (by omega)) rfl
      · exact sAnd (by repeat' constructor) (c_szNode _ _ ha0 ha1 (hv _ (getD_mem (by omega))))
      · rw [szL_step _ _ _ (by omega)] at hp
        refine ⟨?_⟩; simp_all [thenI]
      · rw [szL_step _ _ _ (by omega)] at hp
        have hle := (szOk_node (xs.getD i default)).le _ ha0
        refine ⟨(i + 1, szNode (xs.getD i default) a), [], by simp only; omega, ⟨by simp only; omega, by simp only; omega, by simp only; omega, by simp only; rw [hp, thenI, if_neg (by assumption)]⟩, ?_⟩
        repeat' (first | exact trivial | exact ⟨rfl⟩ | exact Chk.mk (by kernel_rfl) | exact ⟨wrap_succ (n := xs.length) (by omega) (by omega)⟩ | refine And.intro ?_ ?_ | rfl)
      · rw [List.drop_eq_nil_of_le (by omega)] at hp
        refine ⟨?_⟩; simp_all [szL]

set_option maxHeartbeats 2000000 in
theorem c_szWorld (x : World) (l : Int) (h0 : 0 ≤ l) (h1 : l ≤ lim) (hx : x.ok maxLen) : Pure PP false 39 [.agg x.cells, oi l] (oi (szWorld x l)) := by
  have h1' : l ≤ 1048576 := h1
  obtain ⟨l1, k1⟩ : ∃ l1, szS szNode x.nodes l = l1 := ⟨_, rfl⟩
  have e1 :  l1 ≤ l := k1 ▸ (szOk_S szOk_node x.nodes).le l h0
  have c1 :=  c_szNodeS _ l h0 h1 hx.nodes.1 hx.nodes.2
  simp only [k1] at c1
  obtain ⟨l2, k2⟩ : ∃ l2, szS szMsg x.net l1 = l2 := ⟨_, rfl⟩
  have e2 : ∀ (g1 : 0 ≤ l1), l2 ≤ l1 := fun g1 => k2 ▸ (szOk_S szOk_msg x.net).le l1 g1
  have c2 := fun (g1 : 0 ≤ l1) => c_szMsgS _ l1 g1 (show (l1 : Int) ≤ 1048576 by have := e1; omega) hx.net.1 hx.net.2
  simp only [k2] at c2
  obtain ⟨l3, k3⟩ : ∃ l3, szS szAsked x.asked l2 = l3 := ⟨_, rfl⟩
  have e3 : ∀ (g1 : 0 ≤ l1) (g2 : 0 ≤ l2), l3 ≤ l2 := fun g1 g2 => k3 ▸ (szOk_S szOk_asked x.asked).le l2 g2
  have c3 := fun (g1 : 0 ≤ l1) (g2 : 0 ≤ l2) => c_szAskedS _ l2 g2 (show (l2 : Int) ≤ 1048576 by have := e1; have := e2 g1; omega) hx.asked.1 hx.asked.2
  simp only [k3] at c3
  obtain ⟨l4, k4⟩ : ∃ l4, szT x.told.length l3 = l4 := ⟨_, rfl⟩
  have e4 : ∀ (g1 : 0 ≤ l1) (g2 : 0 ≤ l2) (g3 : 0 ≤ l3), l4 ≤ l3 := fun g1 g2 g3 => k4 ▸ (szOk_T x.told.length).le l3 g3
  have c4 := fun (g1 : 0 ≤ l1) (g2 : 0 ≤ l2) (g3 : 0 ≤ l3) => c_szToldS _ l3 g3 (show (l3 : Int) ≤ 1048576 by have := e1; have := e2 g1; have := e3 g1 g2; omega) hx.told
  simp only [k4] at c4
  have hN : szWorld x l = _ := rfl
  rw [hN]
  simp only [szWorld, thenI, sg, k1, k2, k3, k4]
  clear hN
  refine Pure.vc [(8, .res (oi l1)), (14, .res (oi l2)), (20, .res (oi l3)), (26, .res (oi l4))] TTok hmo Go.Proofs.Try.func39 (by kernel_rfl) rfl (by kernel_rfl) ?_
  repeat' (first | refine And.intro ?_ ?_ | exact tf | exact ft | refine tt ?_ | refine ff ?_ | exact ⟨trivial⟩ | exact sAll rfl | exact sF1 rfl | exact sBld (by repeat' (first | exact trivial | rfl | exact Nat.le_of_ble_eq_true rfl | refine And.intro ?_ ?_)) rfl | exact sBS (by repeat' (first | exact trivial | rfl | exact Nat.le_of_ble_eq_true rfl | refine And.intro ?_ ?_)) rfl rfl rfl rfl | exact sBSF (by repeat' (first | exact trivial | rfl | exact Nat.le_of_ble_eq_true rfl | refine And.intro ?_ ?_)) rfl rfl rfl rfl | exact sLe rfl | exact Chk.mk (by kernel_rfl) | exact ⟨Chk.mk (by kernel_rfl)⟩ | exact sLeEq rfl rfl | exact sAnd (by repeat' constructor) (c1) | exact sAnd (by repeat' constructor) (c2 (by simp only [decide_eq_false_iff_not, decide_eq_true_eq] at *; omega)) | exact sAnd (by repeat' constructor) (c3 (by simp only [decide_eq_false_iff_not, decide_eq_true_eq] at *; omega) (by simp only [decide_eq_false_iff_not, decide_eq_true_eq] at *; omega)) | exact sAnd (by repeat' constructor) (c4 (by simp only [decide_eq_false_iff_not, decide_eq_true_eq] at *; omega) (by simp only [decide_eq_false_iff_not, decide_eq_true_eq] at *; omega) (by simp only [decide_eq_false_iff_not, decide_eq_true_eq] at *; omega)) | refine fun h => ?_)
  all_goals clear c4 e4 k4 c3 e3 k3 c2 e2 k2 c1 e1 k1
  all_goals (refine Side.mk ?_; simp_all)
  all_goals try (intro hz; omega)
  all_goals repeat rw [if_neg (by omega)]

end Mg

/- The law of a node's opening, walked. No condition. -/
namespace Mg
open Go Go.RowKit
set_option maxRecDepth 100000
set_option linter.unusedVariables false
set_option linter.unusedSimpArgs false
attribute [local irreducible] W Pure Con TPure TMark
def nOpen (i : Int) : Node := if inr i 0 2 = true then { (default : Node) with id := i } else default
theorem nOpen_ok (i : Int) : (nOpen i).ok lim := by
  unfold nOpen
  split <;> exact ⟨⟨Nat.zero_le _, fun v hv => by cases hv⟩, ⟨Nat.zero_le _, fun v hv => by cases hv⟩, Nat.zero_le _, ⟨Nat.zero_le _, fun v hv => by cases hv⟩, ⟨Nat.zero_le _, Nat.zero_le _⟩, Nat.zero_le _, Nat.zero_le _, ⟨Nat.zero_le _, Nat.zero_le _⟩, ⟨Nat.zero_le _, fun v hv => by cases hv⟩⟩
theorem c_spec_NodeOpen (i : Int) : Pure PP false 9 [oi i] (.agg (nOpen i).cells) := by
  unfold nOpen
  by_cases h0 : inr i 0 2 = true
  · rw [if_pos h0]
    have h1 := inr_iff.1 h0
    refine Pure.vc [] TTok hmo Go.Proofs.Try.func9 (by kernel_rfl) rfl (by kernel_rfl) ?_
    repeat' (first | refine And.intro ?_ ?_ | exact tf | exact ft | refine tt ?_ | refine ff ?_ | exact ⟨trivial⟩ | exact sAll rfl | exact sF1 rfl | exact sBld (by repeat' (first | exact trivial | rfl | exact Nat.le_of_ble_eq_true rfl | refine And.intro ?_ ?_)) rfl | exact sBS (by repeat' (first | exact trivial | rfl | exact Nat.le_of_ble_eq_true rfl | refine And.intro ?_ ?_)) rfl rfl rfl rfl | exact sBSF (by repeat' (first | exact trivial | rfl | exact Nat.le_of_ble_eq_true rfl | refine And.intro ?_ ?_)) rfl rfl rfl rfl | exact sLe rfl | exact Chk.mk (by kernel_rfl) | exact ⟨Chk.mk (by kernel_rfl)⟩ | exact sLeEq rfl rfl | refine fun h => ?_)
    all_goals try (exfalso; simp_all; done)
    all_goals try (exfalso; have h3 := of_decide_eq_true h; omega)
    all_goals first | exact ⟨rfl⟩ | exact ⟨by repeat' constructor⟩
  · rw [if_neg h0]
    have h1 := mt inr_iff.2 h0
    refine Pure.vc [] TTok hmo Go.Proofs.Try.func9 (by kernel_rfl) rfl (by kernel_rfl) ?_
    repeat' (first | refine And.intro ?_ ?_ | exact tf | exact ft | refine tt ?_ | refine ff ?_ | exact ⟨trivial⟩ | exact sAll rfl | exact sF1 rfl | exact sBld (by repeat' (first | exact trivial | rfl | exact Nat.le_of_ble_eq_true rfl | refine And.intro ?_ ?_)) rfl | exact sBS (by repeat' (first | exact trivial | rfl | exact Nat.le_of_ble_eq_true rfl | refine And.intro ?_ ?_)) rfl rfl rfl rfl | exact sBSF (by repeat' (first | exact trivial | rfl | exact Nat.le_of_ble_eq_true rfl | refine And.intro ?_ ?_)) rfl rfl rfl rfl | exact sLe rfl | exact Chk.mk (by kernel_rfl) | exact ⟨Chk.mk (by kernel_rfl)⟩ | exact sLeEq rfl rfl | refine fun h => ?_)
    all_goals try (exfalso; simp_all; done)
    all_goals try (exfalso; simp only [decide_eq_false_iff_not] at *; omega)
    all_goals first | exact ⟨rfl⟩ | exact ⟨by repeat' constructor⟩
theorem t_NodeOpen (i : Int) : TPure PP 10 [oi i] (.agg (nOpen i).cells) := by
  unfold nOpen
  by_cases h0 : inr i 0 2 = true
  · rw [if_pos h0]
    refine TPure.vc [(4, .res (ob (inr i 0 2)))] TTok hmo Go.Proofs.Try.func10 (by kernel_rfl) rfl (by kernel_rfl) ?_
    repeat' (first | refine And.intro ?_ ?_ | exact tf | exact ft | refine tt ?_ | refine ff ?_ | exact ⟨trivial⟩ | exact sAll rfl | exact sF1 rfl | exact sBld (by repeat' (first | exact trivial | rfl | exact Nat.le_of_ble_eq_true rfl | refine And.intro ?_ ?_)) rfl | exact sBS (by repeat' (first | exact trivial | rfl | exact Nat.le_of_ble_eq_true rfl | refine And.intro ?_ ?_)) rfl rfl rfl rfl | exact sBSF (by repeat' (first | exact trivial | rfl | exact Nat.le_of_ble_eq_true rfl | refine And.intro ?_ ?_)) rfl rfl rfl rfl | exact sLe rfl | exact Chk.mk (by kernel_rfl) | exact ⟨Chk.mk (by kernel_rfl)⟩ | exact sLeEq rfl rfl | exact sAnd (by repeat' constructor) (c_impl_in _ _ _) | refine fun h => ?_)
    all_goals try (exfalso; simp_all; done)
    all_goals try (exact trivial)
    all_goals try (exact rfl)
    all_goals try (refine Side.mk (apart_vs ?_); repeat' (first | exact trivial | refine And.intro ?_ ?_); done)
    all_goals first | exact Side.mk rfl | exact Side.mk (by repeat' (first | exact trivial | exact Nat.le_of_ble_eq_true rfl | rfl | refine And.intro ?_ ?_))
  · rw [if_neg h0]
    refine TPure.vc [(4, .res (ob (inr i 0 2)))] TTok hmo Go.Proofs.Try.func10 (by kernel_rfl) rfl (by kernel_rfl) ?_
    repeat' (first | refine And.intro ?_ ?_ | exact tf | exact ft | refine tt ?_ | refine ff ?_ | exact ⟨trivial⟩ | exact sAll rfl | exact sF1 rfl | exact sBld (by repeat' (first | exact trivial | rfl | exact Nat.le_of_ble_eq_true rfl | refine And.intro ?_ ?_)) rfl | exact sBS (by repeat' (first | exact trivial | rfl | exact Nat.le_of_ble_eq_true rfl | refine And.intro ?_ ?_)) rfl rfl rfl rfl | exact sBSF (by repeat' (first | exact trivial | rfl | exact Nat.le_of_ble_eq_true rfl | refine And.intro ?_ ?_)) rfl rfl rfl rfl | exact sLe rfl | exact Chk.mk (by kernel_rfl) | exact ⟨Chk.mk (by kernel_rfl)⟩ | exact sLeEq rfl rfl | exact sAnd (by repeat' constructor) (c_impl_in _ _ _) | refine fun h => ?_)
    all_goals try (exfalso; simp_all; done)
    all_goals try (exact trivial)
    all_goals try (exact rfl)
    all_goals try (refine Side.mk (apart_vs ?_); repeat' (first | exact trivial | refine And.intro ?_ ?_); done)
    all_goals first | exact Side.mk rfl | exact Side.mk (by repeat' (first | exact trivial | exact Nat.le_of_ble_eq_true rfl | rfl | refine And.intro ?_ ?_))
end Mg

/- The law of a node's opening, walked. No condition. -/
namespace Mg
open Go Go.RowKit
set_option maxRecDepth 100000
set_option linter.unusedVariables false
set_option linter.unusedSimpArgs false
attribute [local irreducible] W Pure Con TPure TMark
set_option maxHeartbeats 8000000 in
theorem c_FnExactNodeOpen (i : Int) : Pure PP false 3 [oi i] (ob true) := by
  have cS := c_spec_NodeOpen i
  have cT := t_NodeOpen i
  have on := nOpen_ok i
  generalize nOpen i = n at *
  have hn := ctNode_bd on
  have kN := tmark_eq (k2 := 1 + ctNode n) (k_markNode n 1 (by decide) (by decide) on) (ctNode_eq n 1)
  have hN := pure_eq (k2 := 1 + ctNode n) (h_heldNode n 1 (by decide) (by decide) on) (ctNode_eq n 1)
  refine Law.vc [(9, .told (fun _ => .agg n.cells)), (11, .tre true (fun _ => .agg n.cells)), (14, .res (ob (decide (n = n)))), (800005, .row [])] TTok hmo Go.Proofs.Try.func3 (by kernel_rfl) rfl (by kernel_rfl) rfl (fun A U => ?_)
  repeat' (first | refine And.intro ?_ ?_ | exact tf | exact ft | refine tt ?_ | refine ff ?_ | exact ⟨trivial⟩ | exact sAll rfl | exact sF1 rfl | exact sBld (by repeat' (first | exact trivial | rfl | exact Nat.le_of_ble_eq_true rfl | refine And.intro ?_ ?_)) rfl | exact sBS (by repeat' (first | exact trivial | rfl | exact Nat.le_of_ble_eq_true rfl | refine And.intro ?_ ?_)) rfl rfl rfl rfl | exact sBSF (by repeat' (first | exact trivial | rfl | exact Nat.le_of_ble_eq_true rfl | refine And.intro ?_ ?_)) rfl rfl rfl rfl | exact sLe rfl | exact Chk.mk (by kernel_rfl) | exact ⟨Chk.mk (by kernel_rfl)⟩ | exact sLeEq rfl rfl | exact sAnd (by repeat' constructor) (c_eqNode _ _ on on) | refine fun h => ?_)
  all_goals try (exfalso; simp_all; done)
  all_goals try (exact Side.mk (cS))
  all_goals try (exact Side.mk (cT))
  all_goals try (refine Side.mk ?_; (repeat' constructor); done)
  rename_i B W0 DB T1 hT1 D1
  refine W.sub ⟨41, 2, [(0, oi i), (3, .one (.ptr 0 0 0)), (4, .one (.ptr 1 0 0))],
    [(0, .box [i6 n.id, i6 n.acc.p, .tr false B (W0 0 2) (n.acc.votes.map Vote.cells), .tr false B (W0 0 3) (n.known.map Entry.cells), i6 n.seq, i6 n.phase, i6 n.bal, .tr false B (W0 0 7) (n.fro.map Bool.cells), .tr false B (W0 0 8) (n.best.map Vote.cells), bo n.cur.none, i6 n.cur.q.a, i6 n.cur.q.b, .tr false B (W0 0 12) (n.cur.run.reads.map Two.cells), .tr false B (W0 0 13) (n.cur.run.puts.map Two.cells), i6 n.cur.run.c, i6 n.cur.run.d, .tr false B (W0 0 16) (n.votes.map Bool.cells), bo n.busy, .tr false B (W0 0 18) (n.prog.map Ins.cells), bo n.want.none, i6 n.want.q.a, i6 n.want.q.b, .tr false B (W0 0 22) (n.want.run.reads.map Two.cells), .tr false B (W0 0 23) (n.want.run.puts.map Two.cells), i6 n.want.run.c, i6 n.want.run.d, .tr false B (W0 0 26) (n.queue.map Entry.cells)]), (1, .box [i6 n.id, i6 n.acc.p, .tr true (T1 0 2).B (T1 0 2).u (n.acc.votes.map Vote.cells), .tr true (T1 0 3).B (T1 0 3).u (n.known.map Entry.cells), i6 n.seq, i6 n.phase, i6 n.bal, .tr true (T1 0 7).B (T1 0 7).u (n.fro.map Bool.cells), .tr true (T1 0 8).B (T1 0 8).u (n.best.map Vote.cells), bo n.cur.none, i6 n.cur.q.a, i6 n.cur.q.b, .tr true (T1 0 12).B (T1 0 12).u (n.cur.run.reads.map Two.cells), .tr true (T1 0 13).B (T1 0 13).u (n.cur.run.puts.map Two.cells), i6 n.cur.run.c, i6 n.cur.run.d, .tr true (T1 0 16).B (T1 0 16).u (n.votes.map Bool.cells), bo n.busy, .tr true (T1 0 18).B (T1 0 18).u (n.prog.map Ins.cells), bo n.want.none, i6 n.want.q.a, i6 n.want.q.b, .tr true (T1 0 22).B (T1 0 22).u (n.want.run.reads.map Two.cells), .tr true (T1 0 23).B (T1 0 23).u (n.want.run.puts.map Two.cells), i6 n.want.run.c, i6 n.want.run.d, .tr true (T1 0 26).B (T1 0 26).u (n.queue.map Entry.cells)])]⟩ [] ?_ ?_
  · repeat' (first | exact trivial | exact ⟨trivial⟩ | exact Side.mk rfl | exact sF1 rfl | exact Chk.mk (by kernel_rfl) | exact ⟨Chk.mk (by kernel_rfl)⟩ | refine And.intro ?_ ?_ | rfl)
  refine W.go [(18, .mark (fun _ _ => (.agg (mkNode n 1).cells, 1 + ctNode n)) [0, 3, 4] [] [0, 1] [(1, 2, 2), (1, 3, 3), (1, 7, 7), (1, 8, 8), (1, 12, 12), (1, 13, 13), (1, 16, 16), (1, 18, 18), (1, 22, 22), (1, 23, 23), (1, 26, 26)]), (21, .res (oi (1 + ctNode n))), (28, .tre true (fun _ => .agg n.cells)), (31, .res (ob (decide (n = n)))), (35, .res (oi (1 + ctNode n)))] TTok hmo ?_
  repeat' (first | refine And.intro ?_ ?_ | exact tf | exact ft | refine tt ?_ | refine ff ?_ | exact ⟨trivial⟩ | exact sAll rfl | exact sF1 rfl | exact sBld (by repeat' (first | exact trivial | rfl | exact Nat.le_of_ble_eq_true rfl | refine And.intro ?_ ?_)) rfl | exact sBS (by repeat' (first | exact trivial | rfl | exact Nat.le_of_ble_eq_true rfl | refine And.intro ?_ ?_)) rfl rfl rfl rfl | exact sBSF (by repeat' (first | exact trivial | rfl | exact Nat.le_of_ble_eq_true rfl | refine And.intro ?_ ?_)) rfl rfl rfl rfl | exact sLe rfl | exact Chk.mk (by kernel_rfl) | exact ⟨Chk.mk (by kernel_rfl)⟩ | exact sLeEq rfl rfl | exact sAnd (by repeat' constructor) (c_eqNode _ _ on on) | exact sAnd (by repeat' constructor) (hN) | refine fun h => ?_)
  all_goals try (exfalso; simp_all; done)
  all_goals try (exact ⟨apart_row (B := T1 0) (o := 0) (fun j j' x r1 r2 => (hT1 0 j 0 j' x r1 r2).2) (cs0 := n.cells)⟩)
  all_goals try (exact Side.mk (kN))
  all_goals try (exact trivial)
  all_goals try (repeat' (first | exact trivial | exact Side.mk (.sc _) | exact Side.mk (.ptr _ _ _) | exact Side.mk (.mk _ _ _ _ (List.Mem.tail _ (List.Mem.tail _ (List.Mem.head _)))) | exact Side.mk (.mk _ _ _ _ (List.Mem.tail _ (List.Mem.tail _ (List.Mem.tail _ (List.Mem.head _))))) | exact Side.mk (.mk _ _ _ _ (List.Mem.tail _ (List.Mem.tail _ (List.Mem.tail _ (List.Mem.tail _ (List.Mem.tail _ (List.Mem.tail _ (List.Mem.tail _ (List.Mem.head _))))))))) | exact Side.mk (.mk _ _ _ _ (List.Mem.tail _ (List.Mem.tail _ (List.Mem.tail _ (List.Mem.tail _ (List.Mem.tail _ (List.Mem.tail _ (List.Mem.tail _ (List.Mem.tail _ (List.Mem.head _)))))))))) | exact Side.mk (.mk _ _ _ _ (List.Mem.tail _ (List.Mem.tail _ (List.Mem.tail _ (List.Mem.tail _ (List.Mem.tail _ (List.Mem.tail _ (List.Mem.tail _ (List.Mem.tail _ (List.Mem.tail _ (List.Mem.tail _ (List.Mem.tail _ (List.Mem.tail _ (List.Mem.head _)))))))))))))) | exact Side.mk (.mk _ _ _ _ (List.Mem.tail _ (List.Mem.tail _ (List.Mem.tail _ (List.Mem.tail _ (List.Mem.tail _ (List.Mem.tail _ (List.Mem.tail _ (List.Mem.tail _ (List.Mem.tail _ (List.Mem.tail _ (List.Mem.tail _ (List.Mem.tail _ (List.Mem.tail _ (List.Mem.head _))))))))))))))) | exact Side.mk (.mk _ _ _ _ (List.Mem.tail _ (List.Mem.tail _ (List.Mem.tail _ (List.Mem.tail _ (List.Mem.tail _ (List.Mem.tail _ (List.Mem.tail _ (List.Mem.tail _ (List.Mem.tail _ (List.Mem.tail _ (List.Mem.tail _ (List.Mem.tail _ (List.Mem.tail _ (List.Mem.tail _ (List.Mem.tail _ (List.Mem.tail _ (List.Mem.head _)))))))))))))))))) | exact Side.mk (.mk _ _ _ _ (List.Mem.tail _ (List.Mem.tail _ (List.Mem.tail _ (List.Mem.tail _ (List.Mem.tail _ (List.Mem.tail _ (List.Mem.tail _ (List.Mem.tail _ (List.Mem.tail _ (List.Mem.tail _ (List.Mem.tail _ (List.Mem.tail _ (List.Mem.tail _ (List.Mem.tail _ (List.Mem.tail _ (List.Mem.tail _ (List.Mem.tail _ (List.Mem.tail _ (List.Mem.head _)))))))))))))))))))) | exact Side.mk (.mk _ _ _ _ (List.Mem.tail _ (List.Mem.tail _ (List.Mem.tail _ (List.Mem.tail _ (List.Mem.tail _ (List.Mem.tail _ (List.Mem.tail _ (List.Mem.tail _ (List.Mem.tail _ (List.Mem.tail _ (List.Mem.tail _ (List.Mem.tail _ (List.Mem.tail _ (List.Mem.tail _ (List.Mem.tail _ (List.Mem.tail _ (List.Mem.tail _ (List.Mem.tail _ (List.Mem.tail _ (List.Mem.tail _ (List.Mem.tail _ (List.Mem.tail _ (List.Mem.head _)))))))))))))))))))))))) | exact Side.mk (.mk _ _ _ _ (List.Mem.tail _ (List.Mem.tail _ (List.Mem.tail _ (List.Mem.tail _ (List.Mem.tail _ (List.Mem.tail _ (List.Mem.tail _ (List.Mem.tail _ (List.Mem.tail _ (List.Mem.tail _ (List.Mem.tail _ (List.Mem.tail _ (List.Mem.tail _ (List.Mem.tail _ (List.Mem.tail _ (List.Mem.tail _ (List.Mem.tail _ (List.Mem.tail _ (List.Mem.tail _ (List.Mem.tail _ (List.Mem.tail _ (List.Mem.tail _ (List.Mem.tail _ (List.Mem.head _))))))))))))))))))))))))) | exact Side.mk (.mk _ _ _ _ (List.Mem.tail _ (List.Mem.tail _ (List.Mem.tail _ (List.Mem.tail _ (List.Mem.tail _ (List.Mem.tail _ (List.Mem.tail _ (List.Mem.tail _ (List.Mem.tail _ (List.Mem.tail _ (List.Mem.tail _ (List.Mem.tail _ (List.Mem.tail _ (List.Mem.tail _ (List.Mem.tail _ (List.Mem.tail _ (List.Mem.tail _ (List.Mem.tail _ (List.Mem.tail _ (List.Mem.tail _ (List.Mem.tail _ (List.Mem.tail _ (List.Mem.tail _ (List.Mem.tail _ (List.Mem.tail _ (List.Mem.tail _ (List.Mem.head _)))))))))))))))))))))))))))) | exact Side.mk (.tr _ _ _ _ fun y h1 h2 => disAt (D1.st 0 _ rfl) 2 rfl y h1 (in_any (T := T1) (i := 0) (o := 0) (cs0 := n.cells) h2)) | exact Side.mk (.tr _ _ _ _ fun y h1 h2 => disAt (D1.st 0 _ rfl) 3 rfl y h1 (in_any (T := T1) (i := 0) (o := 0) (cs0 := n.cells) h2)) | exact Side.mk (.tr _ _ _ _ fun y h1 h2 => disAt (D1.st 0 _ rfl) 7 rfl y h1 (in_any (T := T1) (i := 0) (o := 0) (cs0 := n.cells) h2)) | exact Side.mk (.tr _ _ _ _ fun y h1 h2 => disAt (D1.st 0 _ rfl) 8 rfl y h1 (in_any (T := T1) (i := 0) (o := 0) (cs0 := n.cells) h2)) | exact Side.mk (.tr _ _ _ _ fun y h1 h2 => disAt (D1.st 0 _ rfl) 12 rfl y h1 (in_any (T := T1) (i := 0) (o := 0) (cs0 := n.cells) h2)) | exact Side.mk (.tr _ _ _ _ fun y h1 h2 => disAt (D1.st 0 _ rfl) 13 rfl y h1 (in_any (T := T1) (i := 0) (o := 0) (cs0 := n.cells) h2)) | exact Side.mk (.tr _ _ _ _ fun y h1 h2 => disAt (D1.st 0 _ rfl) 16 rfl y h1 (in_any (T := T1) (i := 0) (o := 0) (cs0 := n.cells) h2)) | exact Side.mk (.tr _ _ _ _ fun y h1 h2 => disAt (D1.st 0 _ rfl) 18 rfl y h1 (in_any (T := T1) (i := 0) (o := 0) (cs0 := n.cells) h2)) | exact Side.mk (.tr _ _ _ _ fun y h1 h2 => disAt (D1.st 0 _ rfl) 22 rfl y h1 (in_any (T := T1) (i := 0) (o := 0) (cs0 := n.cells) h2)) | exact Side.mk (.tr _ _ _ _ fun y h1 h2 => disAt (D1.st 0 _ rfl) 23 rfl y h1 (in_any (T := T1) (i := 0) (o := 0) (cs0 := n.cells) h2)) | exact Side.mk (.tr _ _ _ _ fun y h1 h2 => disAt (D1.st 0 _ rfl) 26 rfl y h1 (in_any (T := T1) (i := 0) (o := 0) (cs0 := n.cells) h2)) | refine And.intro ?_ ?_); done)
  all_goals try (exfalso; have h3 := of_decide_eq_true h; (try dsimp only at h3); omega)
  all_goals try (exact Side.mk (cT))
  all_goals try (refine ⟨?_⟩; simp; done)
  all_goals skip
end Mg
