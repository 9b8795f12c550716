/- Parts of the abstract state logic and of the walks, one behind the other: R2E, N3, NF2, NF3, NF4, R1R, R1S, R2R. No condition. -/
import Derived.Test.YtedgmfmhilihoaaGreatP14
import Derived.Test.YtedgmfmhilihoaaGreatP25
import Derived.Test.YtedgmfmhilihoaaGreatP19
import Derived.Test.YtedgmfmhilihoaaGreatP18
import Derived.Test.YtedgmfmhilihoaaGreatP13
/- Sizes of nodes. No condition. -/
namespace Mg
open Go Go.RowKit
set_option maxRecDepth 100000
set_option linter.unusedVariables false
set_option linter.unusedSimpArgs false
attribute [local irreducible] W Pure
theorem c_szBoolS (xs : List Bool) (l : Int) (h0 : 0 ≤ l) (h1 : l ≤ lim) (hx : xs.length ≤ maxLen) : Pure PP false 25 [.one (.fz (xs.map Bool.cells)), oi l] (oi (szT xs.length l)) := by
  have hw : IntKind.i64.wrap (l - ((xs.map Bool.cells).length : Int)) = l - xs.length := by
    unfold maxLen at hx; unfold lim at h1; rw [List.length_map, wrapi] <;> omega
  refine Pure.vc [] TTok hmo Go.Proofs.Tryz.func25 (by kernel_rfl) rfl (by kernel_rfl) ?_
  repeat' (first | refine And.intro ?_ ?_ | exact tf | exact ft | refine tt ?_ | refine ff ?_ | exact ⟨trivial⟩ | exact sAll rfl | exact sF1 rfl | exact sBld (by repeat' (first | exact trivial | rfl | exact Nat.le_of_ble_eq_true rfl | refine And.intro ?_ ?_)) rfl | exact sBS (by repeat' (first | exact trivial | rfl | exact Nat.le_of_ble_eq_true rfl | refine And.intro ?_ ?_)) rfl rfl rfl rfl | exact sBSF (by repeat' (first | exact trivial | rfl | exact Nat.le_of_ble_eq_true rfl | refine And.intro ?_ ?_)) rfl rfl rfl rfl | exact sLe rfl | exact Chk.mk (by kernel_rfl) | exact ⟨Chk.mk (by kernel_rfl)⟩ | exact sLeEq rfl rfl | refine fun h => ?_)
  all_goals (rw [hw] at h; refine ⟨?_⟩; simp_all [szT, sg])
  omega

theorem c_szInsS (xs : List Ins) (l : Int) (h0 : 0 ≤ l) (h1 : l ≤ lim) (hx : xs.length ≤ maxLen) : Pure PP false 28 [.one (.fz (xs.map Ins.cells)), oi l] (oi (szT xs.length l)) := by
  have hw : IntKind.i64.wrap (l - ((xs.map Ins.cells).length : Int)) = l - xs.length := by
    unfold maxLen at hx; unfold lim at h1; rw [List.length_map, wrapi] <;> omega
  refine Pure.vc [] TTok hmo Go.Proofs.Tryz.func28 (by kernel_rfl) rfl (by kernel_rfl) ?_
  repeat' (first | refine And.intro ?_ ?_ | exact tf | exact ft | refine tt ?_ | refine ff ?_ | exact ⟨trivial⟩ | exact sAll rfl | exact sF1 rfl | exact sBld (by repeat' (first | exact trivial | rfl | exact Nat.le_of_ble_eq_true rfl | refine And.intro ?_ ?_)) rfl | exact sBS (by repeat' (first | exact trivial | rfl | exact Nat.le_of_ble_eq_true rfl | refine And.intro ?_ ?_)) rfl rfl rfl rfl | exact sBSF (by repeat' (first | exact trivial | rfl | exact Nat.le_of_ble_eq_true rfl | refine And.intro ?_ ?_)) rfl rfl rfl rfl | exact sLe rfl | exact Chk.mk (by kernel_rfl) | exact ⟨Chk.mk (by kernel_rfl)⟩ | exact sLeEq rfl rfl | refine fun h => ?_)
  all_goals (rw [hw] at h; refine ⟨?_⟩; simp_all [szT, sg])
  omega

theorem c_szEntryS (xs : List Entry) (l : Int) (h0 : 0 ≤ l) (h1 : l ≤ lim) (hx : xs.length ≤ maxLen) (hv : ∀ v ∈ xs, v.ok maxLen) : Pure PP false 24 [.one (.fz (xs.map Entry.cells)), oi l] (oi (szS szEntry xs l)) := by
  have hw : IntKind.i64.wrap (l - ((xs.map Entry.cells).length : Int)) = l - xs.length := by
    unfold maxLen at hx; unfold lim at h1; rw [List.length_map, wrapi] <;> omega
  have hx' : xs.length ≤ 9223372036854775807 := hx
  refine Pure.vc [] TTok hmo Go.Proofs.Tryz.func24 (by kernel_rfl) rfl (by kernel_rfl) ?_
  repeat' (first | refine And.intro ?_ ?_ | exact tf | exact ft | refine tt ?_ | refine ff ?_ | exact ⟨trivial⟩ | exact sAll rfl | exact sF1 rfl | exact sBld (by repeat' (first | exact trivial | rfl | exact Nat.le_of_ble_eq_true rfl | refine And.intro ?_ ?_)) rfl | exact sBS (by repeat' (first | exact trivial | rfl | exact Nat.le_of_ble_eq_true rfl | refine And.intro ?_ ?_)) rfl rfl rfl rfl | exact sBSF (by repeat' (first | exact trivial | rfl | exact Nat.le_of_ble_eq_true rfl | refine And.intro ?_ ?_)) rfl rfl rfl rfl | exact sLe rfl | exact Chk.mk (by kernel_rfl) | exact ⟨Chk.mk (by kernel_rfl)⟩ | exact sLeEq rfl rfl | refine fun h => ?_)
  · rw [hw] at h; refine ⟨?_⟩; simp_all [szS, thenI]
  · rw [hw] at h
    simp only [decide_eq_false_iff_not] at h
    refine W.loopC (D := Nat × Int) (fun d => [(20, .row (xs.getD d.1 default).cells), (23, .res (oi (szEntry (xs.getD d.1 default) d.2)))]) TTok hmo
      (fun d => ⟨27, 0, [(0, .one (.ag (xs.map Entry.cells))), (1, oi d.2), (4, oi 0), (5, oi d.1)], []⟩) (fun d => xs.length - d.1) (fun d => d.1 ≤ xs.length ∧ 0 ≤ d.2 ∧ d.2 ≤ lim ∧ szS szEntry xs l = szL szEntry (xs.drop d.1) d.2) (0, l - xs.length) [] ⟨by simp, by simp only; omega, by simp only; omega, by simp [szS, thenI]; omega⟩ ?_ ?_
    · repeat' (first | exact trivial | exact ⟨rfl⟩ | exact Chk.mk (by kernel_rfl) | refine And.intro ?_ ?_ | rfl)
      exact ⟨hw.symm⟩
    · intro ⟨i, a⟩ ⟨hi, ha0, ha1, hp⟩
      simp only at hi ha0 ha1 hp
      repeat' (first | refine And.intro ?_ ?_ | exact tf | exact ft | refine tt ?_ | refine ff ?_ | exact ⟨trivial⟩ | exact sAll rfl | exact sF1 rfl | exact sBld (by repeat' (first | exact trivial | rfl | exact Nat.le_of_ble_eq_true rfl | refine And.intro ?_ ?_)) rfl | exact sBS (by repeat' (first | exact trivial | rfl | exact Nat.le_of_ble_eq_true rfl | refine And.intro ?_ ?_)) rfl rfl rfl rfl | exact sBSF (by repeat' (first | exact trivial | rfl | exact Nat.le_of_ble_eq_true rfl | refine And.intro ?_ ?_)) rfl rfl rfl rfl | exact sLe rfl | exact Chk.mk (by kernel_rfl) | exact ⟨Chk.mk (by kernel_rfl)⟩ | exact sLeEq rfl rfl | refine fun h => ?_)
      all_goals simp only [decide_eq_true_eq, decide_eq_false_iff_not, List.length_map] at *
      · exact sRow (by omega) (row_at xs _ (by omega)) rfl
      · exact sAnd (by repeat' constructor) (c_szEntry _ _ ha0 ha1 (hv _ (getD_mem (by omega))))
      · rw [szL_step _ _ _ (by omega)] at hp
        refine ⟨?_⟩; simp_all [thenI]
      · rw [szL_step _ _ _ (by omega)] at hp
        have hle := (szOk_entry (xs.getD i default)).le _ ha0
        refine ⟨(i + 1, szEntry (xs.getD i default) a), [], by simp only; omega, ⟨by simp only; omega, by simp only; omega, by simp only; omega, by simp only; rw [hp, thenI, if_neg (by assumption)]⟩, ?_⟩
        repeat' (first | exact trivial | exact ⟨rfl⟩ | exact Chk.mk (by kernel_rfl) | exact ⟨wrap_succ (n := xs.length) (by omega) (by omega)⟩ | refine And.intro ?_ ?_ | rfl)
      · rw [List.drop_eq_nil_of_le (by omega)] at hp
        refine ⟨?_⟩; simp_all [szL]

set_option maxHeartbeats 2000000 in
theorem c_szNode (x : Node) (l : Int) (h0 : 0 ≤ l) (h1 : l ≤ lim) (hx : x.ok maxLen) : Pure PP false 6 [.agg x.cells, oi l] (oi (szNode x l)) := by
  have h1' : l ≤ 1048576 := h1
  obtain ⟨l1, k1⟩ : ∃ l1, szAcc x.acc l = l1 := ⟨_, rfl⟩
  have e1 :  l1 ≤ l := k1 ▸ (szOk_acc x.acc).le l h0
  have c1 :=  c_szAcc _ l h0 h1 hx.acc
  simp only [k1] at c1
  obtain ⟨l2, k2⟩ : ∃ l2, szS szEntry x.known l1 = l2 := ⟨_, rfl⟩
  have e2 : ∀ (g1 : 0 ≤ l1), l2 ≤ l1 := fun g1 => k2 ▸ (szOk_entries x.known).le l1 g1
  have c2 := fun (g1 : 0 ≤ l1) => c_szEntryS _ l1 g1 (show (l1 : Int) ≤ 1048576 by have := e1; omega) hx.known.1 hx.known.2
  simp only [k2] at c2
  obtain ⟨l3, k3⟩ : ∃ l3, szT x.fro.length l2 = l3 := ⟨_, rfl⟩
  have e3 : ∀ (g1 : 0 ≤ l1) (g2 : 0 ≤ l2), l3 ≤ l2 := fun g1 g2 => k3 ▸ (szOk_T x.fro.length).le l2 g2
  have c3 := fun (g1 : 0 ≤ l1) (g2 : 0 ≤ l2) => c_szBoolS _ l2 g2 (show (l2 : Int) ≤ 1048576 by have := e1; have := e2 g1; omega) hx.fro
  simp only [k3] at c3
  obtain ⟨l4, k4⟩ : ∃ l4, szVoteS x.best l3 = l4 := ⟨_, rfl⟩
  have e4 : ∀ (g1 : 0 ≤ l1) (g2 : 0 ≤ l2) (g3 : 0 ≤ l3), l4 ≤ l3 := fun g1 g2 g3 => k4 ▸ (szOk_votes x.best).le l3 g3
  have c4 := fun (g1 : 0 ≤ l1) (g2 : 0 ≤ l2) (g3 : 0 ≤ l3) => c_szVoteS _ l3 g3 (show (l3 : Int) ≤ 1048576 by have := e1; have := e2 g1; have := e3 g1 g2; omega) hx.best.1 hx.best.2
  simp only [k4] at c4
  obtain ⟨l5, k5⟩ : ∃ l5, szEntry x.cur l4 = l5 := ⟨_, rfl⟩
  have e5 : ∀ (g1 : 0 ≤ l1) (g2 : 0 ≤ l2) (g3 : 0 ≤ l3) (g4 : 0 ≤ l4), l5 ≤ l4 := fun g1 g2 g3 g4 => k5 ▸ (szOk_entry x.cur).le l4 g4
  have c5 := fun (g1 : 0 ≤ l1) (g2 : 0 ≤ l2) (g3 : 0 ≤ l3) (g4 : 0 ≤ l4) => c_szEntry _ l4 g4 (show (l4 : Int) ≤ 1048576 by have := e1; have := e2 g1; have := e3 g1 g2; have := e4 g1 g2 g3; omega) hx.cur
  simp only [k5] at c5
  obtain ⟨l6, k6⟩ : ∃ l6, szT x.votes.length l5 = l6 := ⟨_, rfl⟩
  have e6 : ∀ (g1 : 0 ≤ l1) (g2 : 0 ≤ l2) (g3 : 0 ≤ l3) (g4 : 0 ≤ l4) (g5 : 0 ≤ l5), l6 ≤ l5 := fun g1 g2 g3 g4 g5 => k6 ▸ (szOk_T x.votes.length).le l5 g5
  have c6 := fun (g1 : 0 ≤ l1) (g2 : 0 ≤ l2) (g3 : 0 ≤ l3) (g4 : 0 ≤ l4) (g5 : 0 ≤ l5) => c_szBoolS _ l5 g5 (show (l5 : Int) ≤ 1048576 by have := e1; have := e2 g1; have := e3 g1 g2; have := e4 g1 g2 g3; have := e5 g1 g2 g3 g4; omega) hx.votes
  simp only [k6] at c6
  obtain ⟨l7, k7⟩ : ∃ l7, szT x.prog.length l6 = l7 := ⟨_, rfl⟩
  have e7 : ∀ (g1 : 0 ≤ l1) (g2 : 0 ≤ l2) (g3 : 0 ≤ l3) (g4 : 0 ≤ l4) (g5 : 0 ≤ l5) (g6 : 0 ≤ l6), l7 ≤ l6 := fun g1 g2 g3 g4 g5 g6 => k7 ▸ (szOk_T x.prog.length).le l6 g6
  have c7 := fun (g1 : 0 ≤ l1) (g2 : 0 ≤ l2) (g3 : 0 ≤ l3) (g4 : 0 ≤ l4) (g5 : 0 ≤ l5) (g6 : 0 ≤ l6) => c_szInsS _ l6 g6 (show (l6 : Int) ≤ 1048576 by have := e1; have := e2 g1; have := e3 g1 g2; have := e4 g1 g2 g3; have := e5 g1 g2 g3 g4; have := e6 g1 g2 g3 g4 g5; omega) hx.prog
  simp only [k7] at c7
  obtain ⟨l8, k8⟩ : ∃ l8, szEntry x.want l7 = l8 := ⟨_, rfl⟩
  have e8 : ∀ (g1 : 0 ≤ l1) (g2 : 0 ≤ l2) (g3 : 0 ≤ l3) (g4 : 0 ≤ l4) (g5 : 0 ≤ l5) (g6 : 0 ≤ l6) (g7 : 0 ≤ l7), l8 ≤ l7 := fun g1 g2 g3 g4 g5 g6 g7 => k8 ▸ (szOk_entry x.want).le l7 g7
  have c8 := fun (g1 : 0 ≤ l1) (g2 : 0 ≤ l2) (g3 : 0 ≤ l3) (g4 : 0 ≤ l4) (g5 : 0 ≤ l5) (g6 : 0 ≤ l6) (g7 : 0 ≤ l7) => c_szEntry _ l7 g7 (show (l7 : Int) ≤ 1048576 by have := e1; have := e2 g1; have := e3 g1 g2; have := e4 g1 g2 g3; have := e5 g1 g2 g3 g4; have := e6 g1 g2 g3 g4 g5; have := e7 g1 g2 g3 g4 g5 g6; omega) hx.want
  simp only [k8] at c8
  obtain ⟨l9, k9⟩ : ∃ l9, szS szEntry x.queue l8 = l9 := ⟨_, rfl⟩
  have e9 : ∀ (g1 : 0 ≤ l1) (g2 : 0 ≤ l2) (g3 : 0 ≤ l3) (g4 : 0 ≤ l4) (g5 : 0 ≤ l5) (g6 : 0 ≤ l6) (g7 : 0 ≤ l7) (g8 : 0 ≤ l8), l9 ≤ l8 := fun g1 g2 g3 g4 g5 g6 g7 g8 => k9 ▸ (szOk_entries x.queue).le l8 g8
  have c9 := fun (g1 : 0 ≤ l1) (g2 : 0 ≤ l2) (g3 : 0 ≤ l3) (g4 : 0 ≤ l4) (g5 : 0 ≤ l5) (g6 : 0 ≤ l6) (g7 : 0 ≤ l7) (g8 : 0 ≤ l8) => c_szEntryS _ l8 g8 (show (l8 : Int) ≤ 1048576 by have := e1; have := e2 g1; have := e3 g1 g2; have := e4 g1 g2 g3; have := e5 g1 g2 g3 g4; have := e6 g1 g2 g3 g4 g5; have := e7 g1 g2 g3 g4 g5 g6; have := e8 g1 g2 g3 g4 g5 g6 g7; omega) hx.queue.1 hx.queue.2
  simp only [k9] at c9
  have hN : szNode x l = _ := rfl
  rw [hN]
  simp only [szNode, thenI, sg, k1, k2, k3, k4, k5, k6, k7, k8, k9]
  clear hN
  refine Pure.vc [(8, .res (oi l1)), (14, .res (oi l2)), (20, .res (oi l3)), (26, .res (oi l4)), (32, .res (oi l5)), (38, .res (oi l6)), (44, .res (oi l7)), (50, .res (oi l8)), (56, .res (oi l9))] TTok hmo Go.Proofs.Tryz.func6 (by kernel_rfl) rfl (by kernel_rfl) ?_
  repeat' (first | refine And.intro ?_ ?_ | exact tf | exact ft | refine tt ?_ | refine ff ?_ | exact ⟨trivial⟩ | exact sAll rfl | exact sF1 rfl | exact sBld (by repeat' (first | exact trivial | rfl | exact Nat.le_of_ble_eq_true rfl | refine And.intro ?_ ?_)) rfl | exact sBS (by repeat' (first | exact trivial | rfl | exact Nat.le_of_ble_eq_true rfl | refine And.intro ?_ ?_)) rfl rfl rfl rfl | exact sBSF (by repeat' (first | exact trivial | rfl | exact Nat.le_of_ble_eq_true rfl | refine And.intro ?_ ?_)) rfl rfl rfl rfl | exact sLe rfl | exact Chk.mk (by kernel_rfl) | exact ⟨Chk.mk (by kernel_rfl)⟩ | exact sLeEq rfl rfl | exact sAnd (by repeat' constructor) (c1) | exact sAnd (by repeat' constructor) (c2 (by simp only [decide_eq_false_iff_not, decide_eq_true_eq] at *; omega)) | exact sAnd (by repeat' constructor) (c3 (by simp only [decide_eq_false_iff_not, decide_eq_true_eq] at *; omega) (by simp only [decide_eq_false_iff_not, decide_eq_true_eq] at *; omega)) | exact sAnd (by repeat' constructor) (c4 (by simp only [decide_eq_false_iff_not, decide_eq_true_eq] at *; omega) (by simp only [decide_eq_false_iff_not, decide_eq_true_eq] at *; omega) (by simp only [decide_eq_false_iff_not, decide_eq_true_eq] at *; omega)) | exact sAnd (by repeat' constructor) (c5 (by simp only [decide_eq_false_iff_not, decide_eq_true_eq] at *; omega) (by simp only [decide_eq_false_iff_not, decide_eq_true_eq] at *; omega) (by simp only [decide_eq_false_iff_not, decide_eq_true_eq] at *; omega) (by simp only [decide_eq_false_iff_not, decide_eq_true_eq] at *; omega)) | exact sAnd (by repeat' constructor) (c6 (by simp only [decide_eq_false_iff_not, decide_eq_true_eq] at *; omega) (by simp only [decide_eq_false_iff_not, decide_eq_true_eq] at *; omega) (by simp only [decide_eq_false_iff_not, decide_eq_true_eq] at *; omega) (by simp only [decide_eq_false_iff_not, decide_eq_true_eq] at *; omega) (by simp only [decide_eq_false_iff_not, decide_eq_true_eq] at *; omega)) | exact sAnd (by repeat' constructor) (c7 (by simp only [decide_eq_false_iff_not, decide_eq_true_eq] at *; omega) (by simp only [decide_eq_false_iff_not, decide_eq_true_eq] at *; omega) (by simp only [decide_eq_false_iff_not, decide_eq_true_eq] at *; omega) (by simp only [decide_eq_false_iff_not, decide_eq_true_eq] at *; omega) (by simp only [decide_eq_false_iff_not, decide_eq_true_eq] at *; omega) (by simp only [decide_eq_false_iff_not, decide_eq_true_eq] at *; omega)) | exact sAnd (by repeat' constructor) (c8 (by simp only [decide_eq_false_iff_not, decide_eq_true_eq] at *; omega) (by simp only [decide_eq_false_iff_not, decide_eq_true_eq] at *; omega) (by simp only [decide_eq_false_iff_not, decide_eq_true_eq] at *; omega) (by simp only [decide_eq_false_iff_not, decide_eq_true_eq] at *; omega) (by simp only [decide_eq_false_iff_not, decide_eq_true_eq] at *; omega) (by simp only [decide_eq_false_iff_not, decide_eq_true_eq] at *; omega) (by simp only [decide_eq_false_iff_not, decide_eq_true_eq] at *; omega)) | exact sAnd (by repeat' constructor) (c9 (by simp only [decide_eq_false_iff_not, decide_eq_true_eq] at *; omega) (by simp only [decide_eq_false_iff_not, decide_eq_true_eq] at *; omega) (by simp only [decide_eq_false_iff_not, decide_eq_true_eq] at *; omega) (by simp only [decide_eq_false_iff_not, decide_eq_true_eq] at *; omega) (by simp only [decide_eq_false_iff_not, decide_eq_true_eq] at *; omega) (by simp only [decide_eq_false_iff_not, decide_eq_true_eq] at *; omega) (by simp only [decide_eq_false_iff_not, decide_eq_true_eq] at *; omega) (by simp only [decide_eq_false_iff_not, decide_eq_true_eq] at *; omega)) | refine fun h => ?_)
  all_goals clear c9 e9 k9 c8 e8 k8 c7 e7 k7 c6 e6 k6 c5 e5 k5 c4 e4 k4 c3 e3 k3 c2 e2 k2 c1 e1 k1
  all_goals (refine Side.mk ?_; simp_all)
  all_goals try (intro hz; omega)
  all_goals repeat rw [if_neg (by omega)]

end Mg

/- Nodes that are right, impl's walk; the law of NodeOk. No condition. -/
namespace Mg
open Go Go.RowKit
set_option maxRecDepth 100000
set_option linter.unusedVariables false
set_option linter.unusedSimpArgs false
attribute [local irreducible] W Pure
theorem beq_two {a b c d : Int} : (a == c && b == d) = decide (a = c ∧ b = d) := by
  rw [Bool.eq_iff_iff]; simp
set_option maxHeartbeats 8000000 in
theorem c_impl_NodeOk (n : Node) (hn : n.ok lim) : Pure PP false 37 [.agg n.cells] (ob (nodeOk n)) := by
  by_cases hid : inr n.id 0 2 = true
  · have hl8 := c_impl_leadOk n hn hid
    rw [lead_eq n hid] at hl8
    obtain ⟨lb, hlb⟩ : ∃ lb, leadS n = lb := ⟨_, rfl⟩
    rw [hlb] at hl8
    have hN : nodeOk n = (inr n.id 0 2 && accOk n.acc && entsOk n.known && inr n.seq 0 1000 && decide ((n.queue.length : Int) ≤ 4) && lb && wantsOk n && n.queue.all queueOk) := by unfold nodeOk; rw [hlb]
    rw [hN]
    obtain ⟨id, ac, kn, sq, ph, ba, fr, be, cu, vo, bu, pr, ⟨wn, ⟨q1, q2⟩, wr⟩, qu⟩ := n
    have hid : inr id 0 2 = true := hid
    have hk := hn.known
    have hql : qu.length ≤ 1048576 := hn.queue.1
    have hqu : ∀ v ∈ qu, v.ok lim := hn.queue.2
    have hwa : Entry.ok lim ⟨wn, ⟨q1, q2⟩, wr⟩ := hn.want
    refine Pure.vc [(7, .res (ob (inr id 0 2))), (12, .res (ob (accOk ac))), (18, .res (ob (entsOk kn))), (24, .res (ob (inr sq 0 1000))), (52, .res (ob (progOk pr))), (57, .res (ob (entryOk ⟨wn, ⟨q1, q2⟩, wr⟩))), (84, .res (ob (decide (Entry.mk wn ⟨q1, q2⟩ wr = zeroE false)))), (88, .res (ob lb))] TTok hmo Go.Proofs.Tryz.func37 (by kernel_rfl) rfl (by kernel_rfl) ?_
    repeat' (first | refine And.intro ?_ ?_ | exact tf | exact ft | refine tt ?_ | refine ff ?_ | exact ⟨trivial⟩ | exact sAll rfl | exact sF1 rfl | exact sBld (by repeat' (first | exact trivial | rfl | exact Nat.le_of_ble_eq_true rfl | refine And.intro ?_ ?_)) rfl | exact sBS (by repeat' (first | exact trivial | rfl | exact Nat.le_of_ble_eq_true rfl | refine And.intro ?_ ?_)) rfl rfl rfl rfl | exact sBSF (by repeat' (first | exact trivial | rfl | exact Nat.le_of_ble_eq_true rfl | refine And.intro ?_ ?_)) rfl rfl rfl rfl | exact sLe rfl | exact Chk.mk (by kernel_rfl) | exact ⟨Chk.mk (by kernel_rfl)⟩ | exact sLeEq rfl rfl | exact sAnd (by repeat' constructor) (c_impl_in _ _ _) | exact sAnd (by repeat' constructor) (c_impl_AccOk _ hn.acc) | exact sAnd (by repeat' constructor) (c_impl_listOk _ (Nat.le_trans hk.1 (by decide)) hk.2) | refine fun h => ?_)
    all_goals try dsimp only at *
    all_goals try simp only [List.length_map, beq_iff_eq, beq_eq_false_iff_ne, ne_eq, decide_eq_true_eq, decide_eq_false_iff_not, Bool.not_eq_true', Bool.not_eq_false', bne_iff_ne, bne_eq_false_iff_eq] at *
    all_goals try (refine Side.mk ?_; simp_all; done)
    all_goals try (refine Side.mk ?_; simp_all; omega)
    refine W.loopC (D := Nat) (fun i => [(38, .row (qu.getD i default).cells), (41, .res (ob (entryOk (qu.getD i default))))]) TTok hmo
      (fun i => ⟨89, 1, [(1, .one (.ptr 0 0 0)), (2, ob false), (34, .one (.ag (qu.map Entry.cells))), (35, oi qu.length), (36, oi i)], [(0, .box (nodeA id ac kn sq ph ba fr be cu vo bu pr ⟨wn, ⟨q1, q2⟩, wr⟩ qu))]⟩) (fun i => qu.length - i) (fun i => i ≤ qu.length ∧ (qu.take i).all queueOk = true) 0 [] ⟨by omega, by simp⟩ ?_ ?_
    · show subC _ _ _ _
      repeat' (first | exact trivial | exact Side.mk rfl | exact Chk.mk (by kernel_rfl) | exact ⟨Chk.mk (by kernel_rfl)⟩ | refine And.intro ?_ ?_ | rfl)
      all_goals exact ⟨by simp⟩
    · intro i ⟨hi, hp⟩
      clear hN hlb
      repeat' (first | refine And.intro ?_ ?_ | exact tf | exact ft | refine tt ?_ | refine ff ?_ | exact ⟨trivial⟩ | exact sAll rfl | exact sF1 rfl | exact sBld (by repeat' (first | exact trivial | rfl | exact Nat.le_of_ble_eq_true rfl | refine And.intro ?_ ?_)) rfl | exact sBS (by repeat' (first | exact trivial | rfl | exact Nat.le_of_ble_eq_true rfl | refine And.intro ?_ ?_)) rfl rfl rfl rfl | exact sBSF (by repeat' (first | exact trivial | rfl | exact Nat.le_of_ble_eq_true rfl | refine And.intro ?_ ?_)) rfl rfl rfl rfl | exact sLe rfl | exact Chk.mk (by kernel_rfl) | exact ⟨Chk.mk (by kernel_rfl)⟩ | exact sLeEq rfl rfl | exact sAnd (by repeat' constructor) (c_impl_ProgOk _ (Nat.le_trans hn.prog (by decide))) | exact sAnd (by repeat' constructor) (c_impl_CertEntry _ hwa) | exact sAnd (by repeat' constructor) (c_impl_CertLike ⟨wn, ⟨q1, q2⟩, wr⟩ (zeroE false) hwa zeroRun_ok) | exact sAnd (by repeat' constructor) (hl8) | refine fun h => ?_)
      all_goals clear hl8
      all_goals try simp only [decide_eq_true_eq, decide_eq_false_iff_not, List.length_map, Bool.not_eq_true', Bool.not_eq_false', Bool.not_eq_eq_eq_not, Bool.not_true, Bool.not_false, bne_iff_ne, ne_eq, bne_eq_false_iff_eq, beq_iff_eq, beq_eq_false_iff_ne] at *
      all_goals try (exact sRow (by omega) (row_at qu _ (by omega)) rfl)
      all_goals try (exact sAnd (by repeat' constructor) (c_impl_CertEntry _ (hqu _ (getD_mem (by omega)))))
      all_goals try (exact ⟨⟨trivial, Nat.le_of_ble_eq_true rfl⟩, fun g hg => by simp at hg; rcases hg with rfl | rfl <;> rfl⟩)
      · refine ⟨?_⟩; have := all_bad (f := queueOk) (xs := qu) (i := i) (by omega) (by simp_all [queueOk]); simp [this]
      · refine ⟨i + 1, [], by omega, ⟨by omega, all_step (by omega) hp (by simp_all [queueOk])⟩, ?_⟩
        repeat' (first | exact trivial | exact Side.mk rfl | exact Chk.mk (by kernel_rfl) | exact ⟨Chk.mk (by kernel_rfl)⟩ | exact ⟨wrap_succ (n := qu.length) (by omega) (by omega)⟩ | refine And.intro ?_ ?_ | rfl)
      · refine ⟨?_⟩; have := all_bad (f := queueOk) (xs := qu) (i := i) (by omega) (by simp_all [queueOk]); simp [this]
      all_goals (have hq := all_end (by omega) hp; clear hp; refine Side.mk ?_)
      all_goals try (simp_all [wantsOk]; done)
      all_goals try (simp_all [wantsOk]; omega)
      all_goals have hpr : pr ≠ [] := fun e => by (subst e; simp at h)
      all_goals simp_all [wantsOk]
  · have hN : nodeOk n = false := by
      have : inr n.id 0 2 = false := by simpa using hid
      simp [nodeOk, this]
    rw [hN]
    obtain ⟨id, ac, kn, sq, ph, ba, fr, be, cu, vo, bu, pr, wa, qu⟩ := n
    have hid : ¬ inr id 0 2 = true := hid
    refine Pure.vc [(7, .res (ob (inr id 0 2)))] TTok hmo Go.Proofs.Tryz.func37 (by kernel_rfl) rfl (by kernel_rfl) ?_
    repeat' (first | refine And.intro ?_ ?_ | exact tf | exact ft | refine tt ?_ | refine ff ?_ | exact fun h => absurd (show inr id 0 2 = true by simpa using h) hid | exact ⟨trivial⟩ | exact sAll rfl | exact sF1 rfl | exact sBld (by repeat' (first | exact trivial | rfl | exact Nat.le_of_ble_eq_true rfl | refine And.intro ?_ ?_)) rfl | exact sBS (by repeat' (first | exact trivial | rfl | exact Nat.le_of_ble_eq_true rfl | refine And.intro ?_ ?_)) rfl rfl rfl rfl | exact sBSF (by repeat' (first | exact trivial | rfl | exact Nat.le_of_ble_eq_true rfl | refine And.intro ?_ ?_)) rfl rfl rfl rfl | exact sLe rfl | exact Chk.mk (by kernel_rfl) | exact ⟨Chk.mk (by kernel_rfl)⟩ | exact sLeEq rfl rfl | exact sAnd (by repeat' constructor) (c_impl_in _ _ _) | refine fun h => ?_)
    all_goals (refine Side.mk ?_; simp)
end Mg

/- Nodes copied in the program's own way; a node that falls. No condition. -/
namespace Mg
open Go Go.RowKit
set_option maxRecDepth 100000
set_option linter.unusedVariables false
set_option linter.unusedSimpArgs false
attribute [local irreducible] W Pure Con TPure TMark

set_option maxHeartbeats 4000000 in
theorem t_nodeCopy (x : Node) (hx : x.ok lim) : TPure PP 38 [.agg x.cells] (.agg x.cells) := by
  refine TPure.vc [(7, .tre true (fun _ => .agg x.acc.cells)), (11, .tre true (fun _ => .one (.fz (x.known.map Entry.cells)))), (15, .tre true (fun _ => .one (.fz (x.fro.map Bool.cells)))), (19, .tre true (fun _ => .one (.fz (x.best.map Vote.cells)))), (23, .tre true (fun _ => .agg x.cur.cells)), (27, .tre true (fun _ => .one (.fz (x.votes.map Bool.cells)))), (31, .tre true (fun _ => .one (.fz (x.prog.map Ins.cells)))), (35, .tre true (fun _ => .agg x.want.cells)), (39, .tre true (fun _ => .one (.fz (x.queue.map Entry.cells))))] TTok hmo Go.Proofs.Tryz.func38 (by kernel_rfl) rfl (by kernel_rfl) ?_
  repeat' (first | refine And.intro ?_ ?_ | exact tf | exact ft | refine tt ?_ | refine ff ?_ | exact ⟨trivial⟩ | exact sAll rfl | exact sF1 rfl | exact sBld (by repeat' (first | exact trivial | rfl | exact Nat.le_of_ble_eq_true rfl | refine And.intro ?_ ?_)) rfl | exact sBS (by repeat' (first | exact trivial | rfl | exact Nat.le_of_ble_eq_true rfl | refine And.intro ?_ ?_)) rfl rfl rfl rfl | exact sBSF (by repeat' (first | exact trivial | rfl | exact Nat.le_of_ble_eq_true rfl | refine And.intro ?_ ?_)) rfl rfl rfl rfl | exact sLe rfl | exact Chk.mk (by kernel_rfl) | exact ⟨Chk.mk (by kernel_rfl)⟩ | exact sLeEq rfl rfl | refine fun h => ?_)
  all_goals try (exact Side.mk (t_accCopy _ hx.acc))
  all_goals try (exact Side.mk (t_entriesCopy _ hx.known.1 hx.known.2))
  all_goals try (exact Side.mk (t_copied_Bool _ hx.fro))
  all_goals try (exact Side.mk (t_votesCopy _ hx.best.1 hx.best.2))
  all_goals try (exact Side.mk (t_entryCopy _ hx.cur))
  all_goals try (exact Side.mk (t_copied_Bool _ hx.votes))
  all_goals try (exact Side.mk (t_copied_Ins _ hx.prog))
  all_goals try (exact Side.mk (t_entryCopy _ hx.want))
  all_goals try (exact Side.mk (t_entriesCopy _ hx.queue.1 hx.queue.2))
  all_goals try (rename_i B0 hA0 hD0 B1 hA1 hD1 B2 hA2 hD2 B3 hA3 hD3 B4 hA4 hD4 B5 hA5 hD5 B6 hA6 hD6 B7 hA7 hD7 B8 hA8; refine Side.mk (apart_agg ?_); exact And.intro (And.intro (fun x h1 h2 => (hD1.st 2 _ rfl _ (List.mem_of_getElem? (i := 2) rfl)) x h1 ⟨0, 0, h2⟩) (And.intro (fun x h1 h2 => (hD2.st 2 _ rfl _ (List.mem_of_getElem? (i := 2) rfl)) x h1 ⟨0, 0, h2⟩) (And.intro (fun x h1 h2 => (hD3.st 2 _ rfl _ (List.mem_of_getElem? (i := 2) rfl)) x h1 ⟨0, 0, h2⟩) (And.intro (fun x h1 h2 => (hD4.st 2 _ rfl _ (List.mem_of_getElem? (i := 2) rfl)) x h1 ⟨0, 3, h2⟩) (And.intro (fun x h1 h2 => (hD4.st 2 _ rfl _ (List.mem_of_getElem? (i := 2) rfl)) x h1 ⟨0, 4, h2⟩) (And.intro (fun x h1 h2 => (hD5.st 2 _ rfl _ (List.mem_of_getElem? (i := 2) rfl)) x h1 ⟨0, 0, h2⟩) (And.intro (fun x h1 h2 => (hD6.st 2 _ rfl _ (List.mem_of_getElem? (i := 2) rfl)) x h1 ⟨0, 0, h2⟩) (And.intro (fun x h1 h2 => (hD7.st 2 _ rfl _ (List.mem_of_getElem? (i := 2) rfl)) x h1 ⟨0, 3, h2⟩) (And.intro (fun x h1 h2 => (hD7.st 2 _ rfl _ (List.mem_of_getElem? (i := 2) rfl)) x h1 ⟨0, 4, h2⟩) (And.intro (fun x h1 h2 => (h.st 2 _ rfl _ (List.mem_of_getElem? (i := 2) rfl)) x h1 ⟨0, 0, h2⟩) (trivial))))))))))) (And.intro (And.intro (fun x h1 h2 => (hD2.st 2 _ rfl _ (List.mem_of_getElem? (i := 3) rfl)) x h1 ⟨0, 0, h2⟩) (And.intro (fun x h1 h2 => (hD3.st 2 _ rfl _ (List.mem_of_getElem? (i := 3) rfl)) x h1 ⟨0, 0, h2⟩) (And.intro (fun x h1 h2 => (hD4.st 2 _ rfl _ (List.mem_of_getElem? (i := 3) rfl)) x h1 ⟨0, 3, h2⟩) (And.intro (fun x h1 h2 => (hD4.st 2 _ rfl _ (List.mem_of_getElem? (i := 3) rfl)) x h1 ⟨0, 4, h2⟩) (And.intro (fun x h1 h2 => (hD5.st 2 _ rfl _ (List.mem_of_getElem? (i := 3) rfl)) x h1 ⟨0, 0, h2⟩) (And.intro (fun x h1 h2 => (hD6.st 2 _ rfl _ (List.mem_of_getElem? (i := 3) rfl)) x h1 ⟨0, 0, h2⟩) (And.intro (fun x h1 h2 => (hD7.st 2 _ rfl _ (List.mem_of_getElem? (i := 3) rfl)) x h1 ⟨0, 3, h2⟩) (And.intro (fun x h1 h2 => (hD7.st 2 _ rfl _ (List.mem_of_getElem? (i := 3) rfl)) x h1 ⟨0, 4, h2⟩) (And.intro (fun x h1 h2 => (h.st 2 _ rfl _ (List.mem_of_getElem? (i := 3) rfl)) x h1 ⟨0, 0, h2⟩) (trivial)))))))))) (And.intro (And.intro (fun x h1 h2 => (hD3.st 2 _ rfl _ (List.mem_of_getElem? (i := 7) rfl)) x h1 ⟨0, 0, h2⟩) (And.intro (fun x h1 h2 => (hD4.st 2 _ rfl _ (List.mem_of_getElem? (i := 7) rfl)) x h1 ⟨0, 3, h2⟩) (And.intro (fun x h1 h2 => (hD4.st 2 _ rfl _ (List.mem_of_getElem? (i := 7) rfl)) x h1 ⟨0, 4, h2⟩) (And.intro (fun x h1 h2 => (hD5.st 2 _ rfl _ (List.mem_of_getElem? (i := 7) rfl)) x h1 ⟨0, 0, h2⟩) (And.intro (fun x h1 h2 => (hD6.st 2 _ rfl _ (List.mem_of_getElem? (i := 7) rfl)) x h1 ⟨0, 0, h2⟩) (And.intro (fun x h1 h2 => (hD7.st 2 _ rfl _ (List.mem_of_getElem? (i := 7) rfl)) x h1 ⟨0, 3, h2⟩) (And.intro (fun x h1 h2 => (hD7.st 2 _ rfl _ (List.mem_of_getElem? (i := 7) rfl)) x h1 ⟨0, 4, h2⟩) (And.intro (fun x h1 h2 => (h.st 2 _ rfl _ (List.mem_of_getElem? (i := 7) rfl)) x h1 ⟨0, 0, h2⟩) (trivial))))))))) (And.intro (And.intro (fun x h1 h2 => (hD4.st 2 _ rfl _ (List.mem_of_getElem? (i := 8) rfl)) x h1 ⟨0, 3, h2⟩) (And.intro (fun x h1 h2 => (hD4.st 2 _ rfl _ (List.mem_of_getElem? (i := 8) rfl)) x h1 ⟨0, 4, h2⟩) (And.intro (fun x h1 h2 => (hD5.st 2 _ rfl _ (List.mem_of_getElem? (i := 8) rfl)) x h1 ⟨0, 0, h2⟩) (And.intro (fun x h1 h2 => (hD6.st 2 _ rfl _ (List.mem_of_getElem? (i := 8) rfl)) x h1 ⟨0, 0, h2⟩) (And.intro (fun x h1 h2 => (hD7.st 2 _ rfl _ (List.mem_of_getElem? (i := 8) rfl)) x h1 ⟨0, 3, h2⟩) (And.intro (fun x h1 h2 => (hD7.st 2 _ rfl _ (List.mem_of_getElem? (i := 8) rfl)) x h1 ⟨0, 4, h2⟩) (And.intro (fun x h1 h2 => (h.st 2 _ rfl _ (List.mem_of_getElem? (i := 8) rfl)) x h1 ⟨0, 0, h2⟩) (trivial)))))))) (And.intro (And.intro (fun x h1 h2 => absurd (hA4 0 3 0 4 x h1 h2).2 (by decide)) (And.intro (fun x h1 h2 => (hD5.st 2 _ rfl _ (List.mem_of_getElem? (i := 12) rfl)) x h1 ⟨0, 0, h2⟩) (And.intro (fun x h1 h2 => (hD6.st 2 _ rfl _ (List.mem_of_getElem? (i := 12) rfl)) x h1 ⟨0, 0, h2⟩) (And.intro (fun x h1 h2 => (hD7.st 2 _ rfl _ (List.mem_of_getElem? (i := 12) rfl)) x h1 ⟨0, 3, h2⟩) (And.intro (fun x h1 h2 => (hD7.st 2 _ rfl _ (List.mem_of_getElem? (i := 12) rfl)) x h1 ⟨0, 4, h2⟩) (And.intro (fun x h1 h2 => (h.st 2 _ rfl _ (List.mem_of_getElem? (i := 12) rfl)) x h1 ⟨0, 0, h2⟩) (trivial))))))) (And.intro (And.intro (fun x h1 h2 => (hD5.st 2 _ rfl _ (List.mem_of_getElem? (i := 13) rfl)) x h1 ⟨0, 0, h2⟩) (And.intro (fun x h1 h2 => (hD6.st 2 _ rfl _ (List.mem_of_getElem? (i := 13) rfl)) x h1 ⟨0, 0, h2⟩) (And.intro (fun x h1 h2 => (hD7.st 2 _ rfl _ (List.mem_of_getElem? (i := 13) rfl)) x h1 ⟨0, 3, h2⟩) (And.intro (fun x h1 h2 => (hD7.st 2 _ rfl _ (List.mem_of_getElem? (i := 13) rfl)) x h1 ⟨0, 4, h2⟩) (And.intro (fun x h1 h2 => (h.st 2 _ rfl _ (List.mem_of_getElem? (i := 13) rfl)) x h1 ⟨0, 0, h2⟩) (trivial)))))) (And.intro (And.intro (fun x h1 h2 => (hD6.st 2 _ rfl _ (List.mem_of_getElem? (i := 16) rfl)) x h1 ⟨0, 0, h2⟩) (And.intro (fun x h1 h2 => (hD7.st 2 _ rfl _ (List.mem_of_getElem? (i := 16) rfl)) x h1 ⟨0, 3, h2⟩) (And.intro (fun x h1 h2 => (hD7.st 2 _ rfl _ (List.mem_of_getElem? (i := 16) rfl)) x h1 ⟨0, 4, h2⟩) (And.intro (fun x h1 h2 => (h.st 2 _ rfl _ (List.mem_of_getElem? (i := 16) rfl)) x h1 ⟨0, 0, h2⟩) (trivial))))) (And.intro (And.intro (fun x h1 h2 => (hD7.st 2 _ rfl _ (List.mem_of_getElem? (i := 18) rfl)) x h1 ⟨0, 3, h2⟩) (And.intro (fun x h1 h2 => (hD7.st 2 _ rfl _ (List.mem_of_getElem? (i := 18) rfl)) x h1 ⟨0, 4, h2⟩) (And.intro (fun x h1 h2 => (h.st 2 _ rfl _ (List.mem_of_getElem? (i := 18) rfl)) x h1 ⟨0, 0, h2⟩) (trivial)))) (And.intro (And.intro (fun x h1 h2 => absurd (hA7 0 3 0 4 x h1 h2).2 (by decide)) (And.intro (fun x h1 h2 => (h.st 2 _ rfl _ (List.mem_of_getElem? (i := 22) rfl)) x h1 ⟨0, 0, h2⟩) (trivial))) (And.intro (And.intro (fun x h1 h2 => (h.st 2 _ rfl _ (List.mem_of_getElem? (i := 23) rfl)) x h1 ⟨0, 0, h2⟩) (trivial)) (And.intro (trivial) (trivial))))))))))))
  all_goals first | exact trivial | exact Side.mk rfl | exact Side.mk (by repeat' (first | exact trivial | exact Nat.le_of_ble_eq_true rfl | rfl | refine And.intro ?_ ?_))

def nodeFall (n : Node) : Node := if nodeOk n = true then ⟨n.id, n.acc, n.known, n.seq, 0, 0, [], [], zeroE false, [], false, [], zeroE false, []⟩ else default

end Mg

/- A node that falls, on both sides. No condition. -/
namespace Mg
open Go Go.RowKit
set_option maxRecDepth 100000
set_option linter.unusedVariables false
set_option linter.unusedSimpArgs false
attribute [local irreducible] W Pure Con TPure TMark
theorem disAll_row {B : Nat → Tk} {S : Bk} : ∀ {cs : List MC} (o : Nat), cs.all plainC = true → (∀ j x, o ≤ j → S x → ¬ (B j).B x) → disAll S (labRow true B o cs)
  | [], o, _, _ => trivial
  | c :: cs, o, hp, h => by
    have hp' : cs.all plainC = true := by simp only [List.all_cons, Bool.and_eq_true] at hp; exact hp.2
    have hc : plainC c = true := by simp only [List.all_cons, Bool.and_eq_true] at hp; exact hp.1
    have ht := disAll_row (o + 1) hp' fun j x hj => h j x (by omega)
    cases c <;> first | exact ht | (cases hc; done) | exact ⟨fun x hx => h o x (Nat.le_refl _) hx, ht⟩
theorem apartL_row {B : Nat → Tk} (hB : ∀ j j' x, (B j).B x → (B j').B x → j = j') : ∀ {cs : List MC} (o : Nat), cs.all plainC = true → apartL (labRow true B o cs)
  | [], o, _ => trivial
  | c :: cs, o, hp => by
    have hp' : cs.all plainC = true := by simp only [List.all_cons, Bool.and_eq_true] at hp; exact hp.2
    have hc : plainC c = true := by simp only [List.all_cons, Bool.and_eq_true] at hp; exact hp.1
    have ht := apartL_row hB (cs := cs) (o + 1) hp'
    cases c <;> first | exact ht | (cases hc; done) | exact ⟨disAll_row (o + 1) hp' fun j x hj h1 h2 => absurd (hB _ _ _ h1 h2) (by omega), ht⟩
theorem nodeFall_ok {n : Node} (h : n.ok lim) : (nodeFall n).ok lim := by
  unfold nodeFall
  split
  · exact ⟨h.acc, h.known, Nat.zero_le _, ⟨Nat.zero_le _, fun v hv => by cases hv⟩, ⟨Nat.zero_le _, Nat.zero_le _⟩, Nat.zero_le _, Nat.zero_le _, ⟨Nat.zero_le _, Nat.zero_le _⟩, ⟨Nat.zero_le _, fun v hv => by cases hv⟩⟩
  · exact ⟨⟨Nat.zero_le _, fun v hv => by cases hv⟩, ⟨Nat.zero_le _, fun v hv => by cases hv⟩, Nat.zero_le _, ⟨Nat.zero_le _, fun v hv => by cases hv⟩, ⟨Nat.zero_le _, Nat.zero_le _⟩, Nat.zero_le _, Nat.zero_le _, ⟨Nat.zero_le _, Nat.zero_le _⟩, ⟨Nat.zero_le _, fun v hv => by cases hv⟩⟩
theorem t_NodeFall (n : Node) (hn : n.ok lim) : TPure PP 9 [.agg n.cells] (.agg (nodeFall n).cells) := by
  have ok := nodeFall_ok hn
  unfold nodeFall at ok ⊢
  by_cases h0 : nodeOk n = true
  · rw [if_pos h0] at ok ⊢
    refine TPure.vc [(4, .res (ob (nodeOk n))), (16, .tre true (fun _ => .agg (Node.cells ⟨n.id, n.acc, n.known, n.seq, 0, 0, [], [], zeroE false, [], false, [], zeroE false, []⟩)))] TTok hmo Go.Proofs.Tryz.func9 (by kernel_rfl) rfl (by kernel_rfl) ?_
    repeat' (first | refine And.intro ?_ ?_ | exact tf | exact ft | refine tt ?_ | refine ff ?_ | exact ⟨trivial⟩ | exact sAll rfl | exact sF1 rfl | exact sBld (by repeat' (first | exact trivial | rfl | exact Nat.le_of_ble_eq_true rfl | refine And.intro ?_ ?_)) rfl | exact sBS (by repeat' (first | exact trivial | rfl | exact Nat.le_of_ble_eq_true rfl | refine And.intro ?_ ?_)) rfl rfl rfl rfl | exact sBSF (by repeat' (first | exact trivial | rfl | exact Nat.le_of_ble_eq_true rfl | refine And.intro ?_ ?_)) rfl rfl rfl rfl | exact sLe rfl | exact Chk.mk (by kernel_rfl) | exact ⟨Chk.mk (by kernel_rfl)⟩ | exact sLeEq rfl rfl | exact sAnd (by repeat' constructor) (c_impl_NodeOk n hn) | refine fun h => ?_)
    all_goals try (exfalso; simp_all; done)
    all_goals try (exact trivial)
    all_goals try (exact rfl)
    all_goals try (exact Side.mk (t_nodeCopy _ ok))
    all_goals try (rename_i B hA; refine Side.mk (apart_agg ?_); exact apartL_row (B := B 0) (fun j j' x r1 r2 => (hA 0 j 0 j' x r1 r2).2) (cs := Node.cells ⟨n.id, n.acc, n.known, n.seq, 0, 0, [], [], zeroE false, [], false, [], zeroE false, []⟩) 0 rfl)
    all_goals try (refine Side.mk (apart_vs ?_); repeat' (first | exact trivial | refine And.intro ?_ ?_); done)
    all_goals try first | exact Side.mk rfl | exact Side.mk (by repeat' (first | exact trivial | exact Nat.le_of_ble_eq_true rfl | rfl | refine And.intro ?_ ?_))
  · rw [if_neg h0] at ok ⊢
    refine TPure.vc [(4, .res (ob (nodeOk n)))] TTok hmo Go.Proofs.Tryz.func9 (by kernel_rfl) rfl (by kernel_rfl) ?_
    repeat' (first | refine And.intro ?_ ?_ | exact tf | exact ft | refine tt ?_ | refine ff ?_ | exact ⟨trivial⟩ | exact sAll rfl | exact sF1 rfl | exact sBld (by repeat' (first | exact trivial | rfl | exact Nat.le_of_ble_eq_true rfl | refine And.intro ?_ ?_)) rfl | exact sBS (by repeat' (first | exact trivial | rfl | exact Nat.le_of_ble_eq_true rfl | refine And.intro ?_ ?_)) rfl rfl rfl rfl | exact sBSF (by repeat' (first | exact trivial | rfl | exact Nat.le_of_ble_eq_true rfl | refine And.intro ?_ ?_)) rfl rfl rfl rfl | exact sLe rfl | exact Chk.mk (by kernel_rfl) | exact ⟨Chk.mk (by kernel_rfl)⟩ | exact sLeEq rfl rfl | exact sAnd (by repeat' constructor) (c_impl_NodeOk n hn) | refine fun h => ?_)
    all_goals try (exfalso; simp_all; done)
    all_goals try (exact trivial)
    all_goals try (exact rfl)
    all_goals try (refine Side.mk (apart_vs ?_); repeat' (first | exact trivial | refine And.intro ?_ ?_); done)
    all_goals try first | exact Side.mk rfl | exact Side.mk (by repeat' (first | exact trivial | exact Nat.le_of_ble_eq_true rfl | rfl | refine And.intro ?_ ?_))
end Mg

/- A node that falls, on the other side. No condition. -/
namespace Mg
open Go Go.RowKit
set_option maxRecDepth 100000
set_option linter.unusedVariables false
set_option linter.unusedSimpArgs false
attribute [local irreducible] W Pure Con TPure TMark
set_option maxHeartbeats 4000000 in
theorem c_l8EntriesP (vs : List Entry) (hx : vs.length ≤ 1000000) (hv : ∀ v ∈ vs, v.ok lim) : Pure PP false 90 [.one (.fz (vs.map Entry.cells))] (.one (.own (vs.map Entry.cells))) := by
  refine Pure.vc [] TTok hmo Go.Proofs.Tryz.func90 (by kernel_rfl) rfl (by kernel_rfl) ?_
  repeat' (first | refine And.intro ?_ ?_ | exact tf | exact ft | refine tt ?_ | refine ff ?_ | exact ⟨trivial⟩ | exact sAll rfl | exact sF1 rfl | exact sBld (by repeat' (first | exact trivial | rfl | exact Nat.le_of_ble_eq_true rfl | refine And.intro ?_ ?_)) rfl | exact sBS (by repeat' (first | exact trivial | rfl | exact Nat.le_of_ble_eq_true rfl | refine And.intro ?_ ?_)) rfl rfl rfl rfl | exact sBSF (by repeat' (first | exact trivial | rfl | exact Nat.le_of_ble_eq_true rfl | refine And.intro ?_ ?_)) rfl rfl rfl rfl | exact sLe rfl | exact Chk.mk (by kernel_rfl) | exact ⟨Chk.mk (by kernel_rfl)⟩ | exact sLeEq rfl rfl | refine fun h => ?_)
  · refine W.vslot 3 rfl ?_
    refine W.loopC (D := Nat) (fun i => [(15, .row (vs.getD i default).cells), (17, .res (.agg (vs.getD i default).cells)), (18, .row [])]) TTok hmo
      (fun i => ⟨21, 1, [(0, .one (.ag (vs.map Entry.cells))), (3, .one (.ref 0 0 (vs.take i).length)), (4, oi i)], [(0, .arr ((vs.take i).map Entry.cells))]⟩) (fun i => vs.length - i) (fun i => i ≤ vs.length) 0 [] (Nat.zero_le _) ?_ ?_
    · repeat' (first | exact trivial | exact ⟨trivial⟩ | exact Side.mk rfl | exact sF1 rfl | exact Chk.mk (by kernel_rfl) | exact ⟨Chk.mk (by kernel_rfl)⟩ | exact sMapF Entry.flat | refine And.intro ?_ ?_ | rfl)
    · intro i hi
      repeat' (first | refine And.intro ?_ ?_ | exact tf | exact ft | refine tt ?_ | refine ff ?_ | exact ⟨trivial⟩ | exact sAll rfl | exact sF1 rfl | exact sBld (by repeat' (first | exact trivial | rfl | exact Nat.le_of_ble_eq_true rfl | refine And.intro ?_ ?_)) rfl | exact sBS (by repeat' (first | exact trivial | rfl | exact Nat.le_of_ble_eq_true rfl | refine And.intro ?_ ?_)) rfl rfl rfl rfl | exact sBSF (by repeat' (first | exact trivial | rfl | exact Nat.le_of_ble_eq_true rfl | refine And.intro ?_ ?_)) rfl rfl rfl rfl | exact sLe rfl | exact Chk.mk (by kernel_rfl) | exact ⟨Chk.mk (by kernel_rfl)⟩ | exact sLeEq rfl rfl | refine fun h => ?_)
      all_goals try (exact ⟨rfl⟩)
      all_goals try (exact trivial)
      all_goals try (have hl : i < vs.length := by (have h3 := of_decide_eq_true ‹decide ((i : Int) < ((vs.map Entry.cells).length : Int)) = true›; rw [List.length_map] at h3; omega))
      all_goals try (exact ⟨⟨⟨trivial, trivial, trivial, trivial, trivial, trivial, trivial, trivial⟩, trivial⟩, c_l5Entry (vs.getD i default) (hv _ (getD_mem hl))⟩)
      all_goals try (exact sApp (xs := vs.take i) (c := Entry.cells) (by simp) (fun _ => rfl) rfl (by simp; omega) rfl rfl)
      all_goals simp only [decide_eq_true_eq, decide_eq_false_iff_not, List.length_map, Bool.not_eq_true', Bool.not_eq_false', Bool.not_eq_eq_eq_not, Bool.not_true, Bool.not_false, bne_iff_ne, ne_eq, bne_eq_false_iff_eq, beq_iff_eq, beq_eq_false_iff_ne] at *
      all_goals try (exact sRow (by omega) (by rw [Int.toNat_natCast, List.getElem?_map, List.getD_eq_getElem?_getD, List.getElem?_eq_getElem (by omega)]; rfl) rfl)
      all_goals try (first | exact ⟨trivial, trivial⟩ | exact ⟨Nat.le_of_ble_eq_true rfl, trivial⟩ | exact ⟨trivial, Nat.le_of_ble_eq_true rfl, trivial⟩ | exact ⟨Nat.le_of_ble_eq_true rfl, trivial, trivial⟩)
      · refine ⟨i + 1, [(0, 1)], by omega, by omega, ?_⟩
        repeat' (first | exact trivial | exact ⟨trivial⟩ | exact Side.mk rfl | exact sF1 rfl | exact Chk.mk (by kernel_rfl) | exact ⟨Chk.mk (by kernel_rfl)⟩ | exact sTkR (by omega) rfl | exact sTkL (by omega) rfl rfl | exact sTkL2 (by omega) rfl rfl | exact sMapF Entry.flat | exact ⟨by rw [wrapi] <;> omega⟩ | refine And.intro ?_ ?_ | rfl)
      · exact ⟨⟨trivial, trivial⟩, ⟨trivial, trivial, by rw [List.take_of_length_le (by omega)], allF Entry.frz⟩, trivial⟩
theorem c_l6CopyQ (a : Acc) (hl : a.votes.length ≤ 1000000) (hv : VsOk lim a.votes) : Pure PP false 89 [.agg a.cells] (.agg [i6 a.p, .own (a.votes.map Vote.cells)]) := by
  refine Pure.vc [(7, .res (.one (.own (a.votes.map Vote.cells)))), (900001, .row [i6 0, i6 1, i6 2, i6 3, i6 4, i6 5, i6 6])] TTok hmo Go.Proofs.Tryz.func89 (by kernel_rfl) rfl (by kernel_rfl) ?_
  repeat' (first | refine And.intro ?_ ?_ | exact tf | exact ft | refine tt ?_ | refine ff ?_ | exact ⟨trivial⟩ | exact sAll rfl | exact sF1 rfl | exact sBld (by repeat' (first | exact trivial | rfl | exact Nat.le_of_ble_eq_true rfl | refine And.intro ?_ ?_)) rfl | exact sBS (by repeat' (first | exact trivial | rfl | exact Nat.le_of_ble_eq_true rfl | refine And.intro ?_ ?_)) rfl rfl rfl rfl | exact sBSF (by repeat' (first | exact trivial | rfl | exact Nat.le_of_ble_eq_true rfl | refine And.intro ?_ ?_)) rfl rfl rfl rfl | exact sLe rfl | exact Chk.mk (by kernel_rfl) | exact ⟨Chk.mk (by kernel_rfl)⟩ | exact sLeEq rfl rfl | exact sAnd (by repeat' constructor) (c_l6ListP _ hl hv) | refine fun h => ?_)
  all_goals try (exact ⟨rfl⟩)
  all_goals try (exact trivial)
  exact ⟨⟨Nat.le_of_ble_eq_true rfl, trivial⟩, rfl, ⟨rfl, by simp, rfl, allF Vote.frz⟩, trivial⟩
theorem c_l6CopyF (a : Acc) (hl : a.votes.length ≤ 1000000) (hv : VsOk lim a.votes) : Pure PP false 89 [.agg a.cells] (.agg a.cells) := (c_l6CopyQ a hl hv).to rfl
theorem c_l6ListF (vs : List Vote) (hx : vs.length ≤ 1000000) (hv : VsOk lim vs) : Pure PP false 68 [.one (.fz (vs.map Vote.cells))] (.one (.fz (vs.map Vote.cells))) := (c_l6ListP vs hx hv).to rfl
theorem c_l8EntriesF (vs : List Entry) (hx : vs.length ≤ 1000000) (hv : ∀ v ∈ vs, v.ok lim) : Pure PP false 90 [.one (.fz (vs.map Entry.cells))] (.one (.fz (vs.map Entry.cells))) := (c_l8EntriesP vs hx hv).to rfl
structure Node.sm (n : Node) : Prop where
  acc : n.acc.votes.length ≤ 1000000
  known : n.known.length ≤ 1000000
  best : n.best.length ≤ 1000000
  queue : n.queue.length ≤ 1000000
set_option maxHeartbeats 8000000 in
theorem c_l8CopyF (n : Node) (hn : n.ok lim) (hs : n.sm) : Pure PP false 30 [.agg n.cells] (.agg n.cells) := by
  have hf : n.fro.length ≤ 1048576 := hn.fro
  have hv : n.votes.length ≤ 1048576 := hn.votes
  have hp : n.prog.length ≤ 1048576 := hn.prog
  refine Pure.vc [(7, .res (.agg n.acc.cells)), (11, .res (.one (.fz (n.known.map Entry.cells)))), (16, .res (.one (.fz (n.fro.map Bool.cells)))), (20, .res (.one (.fz (n.best.map Vote.cells)))), (24, .res (.agg n.cur.cells)), (29, .res (.one (.fz (n.votes.map Bool.cells)))), (34, .res (.one (.fz (n.prog.map Ins.cells)))), (38, .res (.agg n.want.cells)), (42, .res (.one (.fz (n.queue.map Entry.cells))))] TTok hmo Go.Proofs.Tryz.func30 (by kernel_rfl) rfl (by kernel_rfl) ?_
  repeat' (first | refine And.intro ?_ ?_ | exact tf | exact ft | refine tt ?_ | refine ff ?_ | exact ⟨trivial⟩ | exact sAll rfl | exact sF1 rfl | exact sBld (by repeat' (first | exact trivial | rfl | exact Nat.le_of_ble_eq_true rfl | refine And.intro ?_ ?_)) rfl | exact sBS (by repeat' (first | exact trivial | rfl | exact Nat.le_of_ble_eq_true rfl | refine And.intro ?_ ?_)) rfl rfl rfl rfl | exact sBSF (by repeat' (first | exact trivial | rfl | exact Nat.le_of_ble_eq_true rfl | refine And.intro ?_ ?_)) rfl rfl rfl rfl | exact sLe rfl | exact Chk.mk (by kernel_rfl) | exact ⟨Chk.mk (by kernel_rfl)⟩ | exact sLeEq rfl rfl | exact sAnd (by repeat' constructor) (c_l6CopyF _ hs.acc hn.acc.2) | exact sAnd (by repeat' constructor) (c_l8EntriesF _ hs.known hn.known.2) | exact sAnd (by repeat' constructor) (c_l6ListF _ hs.best hn.best.2) | exact sAnd (by repeat' constructor) (c_l5Entry _ hn.cur) | exact sAnd (by repeat' constructor) (c_l5Entry _ hn.want) | exact sAnd (by repeat' constructor) (c_l8EntriesF _ hs.queue hn.queue.2) | refine fun h => ?_)
  all_goals try (exact sAppF (c := Bool.cells) (xs := n.fro) (toA_map fun _ => rfl) (fun _ => rfl) Bool.frz (by omega) rfl)
  all_goals try (exact sAppF (c := Bool.cells) (xs := n.votes) (toA_map fun _ => rfl) (fun _ => rfl) Bool.frz (by omega) rfl)
  all_goals try (exact sAppF (c := Ins.cells) (xs := n.prog) (toA_map fun _ => rfl) (fun _ => rfl) Ins.frz (by omega) rfl)
  all_goals first | exact ⟨by repeat' constructor⟩ | skip
structure Node.bd (n : Node) : Prop where
  id : inr n.id 0 2 = true
  acc : accOk n.acc = true
  known : n.known.length ≤ 40
  knownOk : ∀ e ∈ n.known, entryOk e = true
  seq : inr n.seq 0 1000 = true
  queue : n.queue.length ≤ 4
  lead : leadS n = true
  wants : wantsOk n = true
  queueOk : n.queue.all queueOk = true
theorem nodeOk_bd {n : Node} (h : nodeOk n = true) : n.bd := by
  unfold nodeOk entsOk at h
  simp only [Bool.and_eq_true, decide_eq_true_eq, List.all_eq_true] at h
  obtain ⟨⟨⟨⟨⟨⟨⟨h1, h2⟩, h3, h3'⟩, h4⟩, h5⟩, h6⟩, h7⟩, h8⟩ := h
  exact ⟨h1, h2, h3, h3', h4, by omega, h6, h7, List.all_eq_true.2 h8⟩
theorem lead_best {n : Node} (h : leadS n = true) : n.best.length ≤ 40 := by
  unfold leadS at h
  repeat' split at h
  all_goals try simp only [Bool.and_eq_true, beq_iff_eq] at h
  · omega
  · exact votesOk_len h.1.1.2
  · exact votesOk_len h.1.1.2
  · exact votesOk_len h.1.1.1.1.2
  · cases h
theorem accLen {a : Acc} (h : accOk a = true) : a.votes.length ≤ 40 := (votesOk_iff.1 (accOk_iff.1 h).2.1).1
theorem nodeOk_sm {n : Node} (hn : n.ok lim) (h : nodeOk n = true) : n.sm := by
  have b := nodeOk_bd h
  have h1 := accLen b.acc
  have h2 := lead_best b.lead
  have h3 := b.known
  have h4 := b.queue
  exact ⟨by omega, by omega, by omega, by omega⟩
theorem c_spec_NodeFall (n : Node) (hn : n.ok lim) : Pure PP false 7 [.agg n.cells] (.agg (nodeFall n).cells) := by
  unfold nodeFall
  by_cases h0 : nodeOk n = true
  · rw [if_pos h0]
    refine Pure.vc [(5, .res (ob (nodeOk n))), (9, .res (.agg n.cells))] TTok hmo Go.Proofs.Tryz.func7 (by kernel_rfl) rfl (by kernel_rfl) ?_
    repeat' (first | refine And.intro ?_ ?_ | exact tf | exact ft | refine tt ?_ | refine ff ?_ | exact ⟨trivial⟩ | exact sAll rfl | exact sF1 rfl | exact sBld (by repeat' (first | exact trivial | rfl | exact Nat.le_of_ble_eq_true rfl | refine And.intro ?_ ?_)) rfl | exact sBS (by repeat' (first | exact trivial | rfl | exact Nat.le_of_ble_eq_true rfl | refine And.intro ?_ ?_)) rfl rfl rfl rfl | exact sBSF (by repeat' (first | exact trivial | rfl | exact Nat.le_of_ble_eq_true rfl | refine And.intro ?_ ?_)) rfl rfl rfl rfl | exact sLe rfl | exact Chk.mk (by kernel_rfl) | exact ⟨Chk.mk (by kernel_rfl)⟩ | exact sLeEq rfl rfl | exact sAnd (by repeat' constructor) (c_spec_NodeOk n hn) | exact sAnd (by repeat' constructor) (c_l8CopyF n hn (nodeOk_sm hn h0)) | refine fun h => ?_)
    all_goals try (exfalso; simp_all; done)
    all_goals first | exact ⟨rfl⟩ | exact ⟨by repeat' constructor⟩
  · rw [if_neg h0]
    refine Pure.vc [(5, .res (ob (nodeOk n)))] TTok hmo Go.Proofs.Tryz.func7 (by kernel_rfl) rfl (by kernel_rfl) ?_
    repeat' (first | refine And.intro ?_ ?_ | exact tf | exact ft | refine tt ?_ | refine ff ?_ | exact ⟨trivial⟩ | exact sAll rfl | exact sF1 rfl | exact sBld (by repeat' (first | exact trivial | rfl | exact Nat.le_of_ble_eq_true rfl | refine And.intro ?_ ?_)) rfl | exact sBS (by repeat' (first | exact trivial | rfl | exact Nat.le_of_ble_eq_true rfl | refine And.intro ?_ ?_)) rfl rfl rfl rfl | exact sBSF (by repeat' (first | exact trivial | rfl | exact Nat.le_of_ble_eq_true rfl | refine And.intro ?_ ?_)) rfl rfl rfl rfl | exact sLe rfl | exact Chk.mk (by kernel_rfl) | exact ⟨Chk.mk (by kernel_rfl)⟩ | exact sLeEq rfl rfl | exact sAnd (by repeat' constructor) (c_spec_NodeOk n hn) | refine fun h => ?_)
    all_goals try (exfalso; simp_all; done)
    all_goals first | exact ⟨rfl⟩ | exact ⟨by repeat' constructor⟩
end Mg

/- What the row's arguments read as. No condition. -/
namespace Mg
open Go Go.RowKit
set_option maxRecDepth 100000
set_option linter.unusedVariables false

theorem TTlay : LOk TT := fun t i h => by
  have h1 : (tyL.all fun q => q.2.lay TT) = true := by kernel_rfl
  have h2 : (t, i) ∈ tyL := look_mem h
  exact List.all_eq_true.1 h1 _ h2

theorem fit_two {n t : Nat} {cs : List MC} {i : TI} (h : fit TT n t cs) (ht : TT t = some i) (hk : i.k = .struct [(0, 3), (1, 3)]) : ∃ x : Two, cs = x.cells := by
  obtain ⟨n, a, r, rfl, ha, b, r', rfl, hb, rfl⟩ := fit_struct h ht hk
  obtain ⟨x, rfl, _⟩ := fit_int ha (i := ⟨1, 8, .int .i64, [.int .i64]⟩) rfl rfl
  obtain ⟨y, rfl, _⟩ := fit_int hb (i := ⟨1, 8, .int .i64, [.int .i64]⟩) rfl rfl
  exact ⟨⟨x, y⟩, rfl⟩
theorem fit_twos {n t e : Nat} {cs : List MC} {i ie : TI} (h : fit TT n t cs) (ht : TT t = some i) (hk : i.k = .slice e) (he : TT e = some ie) (hke : ie.k = .struct [(0, 3), (1, 3)]) : ∃ xs : List Two, cs = [.fz (xs.map Two.cells)] ∧ xs.length ≤ maxLen := by
  obtain ⟨rows, rfl, hl, hr⟩ := fit_slice h ht hk
  obtain ⟨xs, rfl, _⟩ := rows_data (c := Two.cells) (p := fun _ => True) fun r hr' => by
    obtain ⟨n, hn⟩ := hr r hr'
    obtain ⟨x, hx⟩ := fit_two hn he hke
    exact ⟨x, hx, trivial⟩
  exact ⟨xs, rfl, by simpa using hl⟩
theorem fit_run {n : Nat} {cs : List MC} (h : fit TT n 32 cs) : ∃ x : Run, cs = x.cells ∧ x.ok maxLen := by
  obtain ⟨n, a, r, rfl, ha, b, r', rfl, hb, c, r'', rfl, hc, d, r3, rfl, hd, rfl⟩ := fit_struct h (i := ⟨4, 64, .struct [(0, 29), (1, 30), (2, 3), (3, 3)], [.nil, .nil, .int .i64, .int .i64]⟩) rfl rfl
  obtain ⟨xs, rfl, hx⟩ := fit_twos ha (i := ⟨1, 24, .slice 190, [.nil]⟩) (ie := ⟨2, 16, .struct [(0, 3), (1, 3)], [.int .i64, .int .i64]⟩) rfl rfl rfl rfl
  obtain ⟨ys, rfl, hy⟩ := fit_twos hb (i := ⟨1, 24, .slice 192, [.nil]⟩) (ie := ⟨2, 16, .struct [(0, 3), (1, 3)], [.int .i64, .int .i64]⟩) rfl rfl rfl rfl
  obtain ⟨x, rfl, _⟩ := fit_int hc (i := ⟨1, 8, .int .i64, [.int .i64]⟩) rfl rfl
  obtain ⟨y, rfl, _⟩ := fit_int hd (i := ⟨1, 8, .int .i64, [.int .i64]⟩) rfl rfl
  exact ⟨⟨xs, ys, x, y⟩, rfl, hx, hy⟩
theorem fit_entry {n : Nat} {cs : List MC} (h : fit TT n 34 cs) : ∃ x : Entry, cs = x.cells ∧ x.ok maxLen := by
  obtain ⟨n, a, r, rfl, ha, b, r', rfl, hb, c, r'', rfl, hc, rfl⟩ := fit_struct h (i := ⟨7, 88, .struct [(0, 4), (1, 28), (3, 32)], [.bool, .int .i64, .int .i64, .nil, .nil, .int .i64, .int .i64]⟩) rfl rfl
  obtain ⟨x, rfl⟩ := fit_bool ha (i := ⟨1, 1, .bool, [.bool]⟩) rfl rfl
  obtain ⟨q, rfl⟩ := fit_two hb (i := ⟨2, 16, .struct [(0, 3), (1, 3)], [.int .i64, .int .i64]⟩) rfl rfl
  obtain ⟨y, rfl, hy⟩ := fit_run hc
  exact ⟨⟨x, q, y⟩, by simp [Entry.cells], hy⟩
theorem fit_vote {n : Nat} {cs : List MC} (h : fit TT n 120 cs) : ∃ x : Vote, cs = x.cells ∧ x.ok maxLen := by
  obtain ⟨n, a, r, rfl, ha, b, r', rfl, hb, rfl⟩ := fit_struct h (i := ⟨8, 96, .struct [(0, 3), (1, 34)], [.int .i64, .bool, .int .i64, .int .i64, .nil, .nil, .int .i64, .int .i64]⟩) rfl rfl
  obtain ⟨x, rfl, _⟩ := fit_int ha (i := ⟨1, 8, .int .i64, [.int .i64]⟩) rfl rfl
  obtain ⟨y, rfl, hy⟩ := fit_entry hb
  exact ⟨⟨x, y⟩, by simp [Vote.cells], hy⟩
theorem fit_votes {n : Nat} {cs : List MC} (h : fit TT n 22 cs) : ∃ xs : List Vote, cs = [.fz (xs.map Vote.cells)] ∧ VotesOk maxLen xs := by
  obtain ⟨rows, rfl, hl, hr⟩ := fit_slice h (i := ⟨1, 24, .slice 120, [.nil]⟩) rfl rfl
  obtain ⟨xs, rfl, hv⟩ := rows_data (c := Vote.cells) (p := fun v => v.ok maxLen) fun r hr' => by
    obtain ⟨n, hn⟩ := hr r hr'
    exact fit_vote hn
  exact ⟨xs, rfl, by simpa using hl, hv⟩
theorem fit_acc {n : Nat} {cs : List MC} (h : fit TT n 24 cs) : ∃ x : Acc, cs = x.cells ∧ x.ok maxLen := by
  obtain ⟨n, a, r, rfl, ha, b, r', rfl, hb, rfl⟩ := fit_struct h (i := ⟨2, 32, .struct [(0, 3), (1, 22)], [.int .i64, .nil]⟩) rfl rfl
  obtain ⟨x, rfl, _⟩ := fit_int ha (i := ⟨1, 8, .int .i64, [.int .i64]⟩) rfl rfl
  obtain ⟨xs, rfl, hx⟩ := fit_votes hb
  exact ⟨⟨x, xs⟩, rfl, hx⟩
end Mg

/- What a message reads as. No condition. -/
namespace Mg
open Go Go.RowKit
set_option maxRecDepth 100000
set_option linter.unusedVariables false
end Mg

/- What nodes and worlds read as. No condition. -/
namespace Mg
open Go Go.RowKit
set_option maxRecDepth 100000
set_option linter.unusedVariables false
set_option linter.unusedSimpArgs false
theorem fit_ins {n : Nat} {cs : List MC} (h : fit TT n 136 cs) : ∃ x : Ins, cs = x.cells := by
  obtain ⟨n, f0, r0, rfl, h0, f1, r1, rfl, h1, f2, r2, rfl, h2, f3, r3, rfl, h3, rfl⟩ := fit_struct h (i := ⟨4, 32, .struct [(0, 3), (1, 3), (2, 3), (3, 3)], [.int .i64, .int .i64, .int .i64, .int .i64]⟩) rfl rfl
  obtain ⟨x0, rfl, _⟩ := fit_int h0 (i := ⟨1, 8, .int .i64, [.int .i64]⟩) rfl rfl
  obtain ⟨x1, rfl, _⟩ := fit_int h1 (i := ⟨1, 8, .int .i64, [.int .i64]⟩) rfl rfl
  obtain ⟨x2, rfl, _⟩ := fit_int h2 (i := ⟨1, 8, .int .i64, [.int .i64]⟩) rfl rfl
  obtain ⟨x3, rfl, _⟩ := fit_int h3 (i := ⟨1, 8, .int .i64, [.int .i64]⟩) rfl rfl
  exact ⟨⟨x0, x1, x2, x3⟩, by simp [Ins.cells]⟩
theorem fit_inss {n : Nat} {cs : List MC} (h : fit TT n 35 cs) : ∃ xs : List Ins, cs = [.fz (xs.map Ins.cells)] ∧ xs.length ≤ maxLen := by
  obtain ⟨rows, rfl, hl, hr⟩ := fit_slice h (i := ⟨1, 24, .slice 136, [.nil]⟩) rfl rfl
  obtain ⟨xs, rfl, hv⟩ := rows_data (c := Ins.cells) (p := fun v => True) fun r hr' => by
    obtain ⟨n, hn⟩ := hr r hr'
    obtain ⟨x, hx⟩ := fit_ins hn; exact ⟨x, hx, trivial⟩
  exact ⟨xs, rfl, by simpa using hl⟩
theorem fit_bools {n : Nat} {cs : List MC} (h : fit TT n 26 cs) : ∃ xs : List Bool, cs = [.fz (xs.map Bool.cells)] ∧ xs.length ≤ maxLen := by
  obtain ⟨rows, rfl, hl, hr⟩ := fit_slice h (i := ⟨1, 24, .slice 4, [.nil]⟩) rfl rfl
  obtain ⟨xs, rfl, hv⟩ := rows_data (c := Bool.cells) (p := fun v => True) fun r hr' => by
    obtain ⟨n, hn⟩ := hr r hr'
    obtain ⟨x, hx⟩ := fit_bool hn (i := ⟨1, 1, .bool, [.bool]⟩) rfl rfl; exact ⟨x, hx, trivial⟩
  exact ⟨xs, rfl, by simpa using hl⟩
theorem fit_entries {n : Nat} {cs : List MC} (h : fit TT n 25 cs) : ∃ xs : List Entry, cs = [.fz (xs.map Entry.cells)] ∧ xs.length ≤ maxLen ∧ ∀ v ∈ xs, v.ok maxLen := by
  obtain ⟨rows, rfl, hl, hr⟩ := fit_slice h (i := ⟨1, 24, .slice 34, [.nil]⟩) rfl rfl
  obtain ⟨xs, rfl, hv⟩ := rows_data (c := Entry.cells) (p := fun v => v.ok maxLen) fun r hr' => by
    obtain ⟨n, hn⟩ := hr r hr'
    exact fit_entry hn
  exact ⟨xs, rfl, by simpa using hl, hv⟩
theorem fit_node {n : Nat} {cs : List MC} (h : fit TT n 37 cs) : ∃ x : Node, cs = x.cells ∧ x.ok maxLen := by
  obtain ⟨n, f0, r0, rfl, h0, f1, r1, rfl, h1, f2, r2, rfl, h2, f3, r3, rfl, h3, f4, r4, rfl, h4, f5, r5, rfl, h5, f6, r6, rfl, h6, f7, r7, rfl, h7, f8, r8, rfl, h8, f9, r9, rfl, h9, f10, r10, rfl, h10, f11, r11, rfl, h11, f12, r12, rfl, h12, f13, r13, rfl, h13, rfl⟩ := fit_struct h (i := ⟨27, 392, .struct [(0, 3), (1, 24), (3, 25), (4, 3), (5, 3), (6, 3), (7, 26), (8, 22), (9, 34), (16, 26), (17, 4), (18, 35), (19, 34), (26, 25)], [.int .i64, .int .i64, .nil, .nil, .int .i64, .int .i64, .int .i64, .nil, .nil, .bool, .int .i64, .int .i64, .nil, .nil, .int .i64, .int .i64, .nil, .bool, .nil, .bool, .int .i64, .int .i64, .nil, .nil, .int .i64, .int .i64, .nil]⟩) rfl rfl
  obtain ⟨x0, rfl, _⟩ := fit_int h0 (i := ⟨1, 8, .int .i64, [.int .i64]⟩) rfl rfl
  obtain ⟨x1, rfl, o1⟩ := fit_acc h1
  obtain ⟨x2, rfl, o2⟩ := fit_entries h2
  obtain ⟨x3, rfl, _⟩ := fit_int h3 (i := ⟨1, 8, .int .i64, [.int .i64]⟩) rfl rfl
  obtain ⟨x4, rfl, _⟩ := fit_int h4 (i := ⟨1, 8, .int .i64, [.int .i64]⟩) rfl rfl
  obtain ⟨x5, rfl, _⟩ := fit_int h5 (i := ⟨1, 8, .int .i64, [.int .i64]⟩) rfl rfl
  obtain ⟨x6, rfl, o6⟩ := fit_bools h6
  obtain ⟨x7, rfl, o7⟩ := fit_votes h7
  obtain ⟨x8, rfl, o8⟩ := fit_entry h8
  obtain ⟨x9, rfl, o9⟩ := fit_bools h9
  obtain ⟨x10, rfl⟩ := fit_bool h10 (i := ⟨1, 1, .bool, [.bool]⟩) rfl rfl
  obtain ⟨x11, rfl, o11⟩ := fit_inss h11
  obtain ⟨x12, rfl, o12⟩ := fit_entry h12
  obtain ⟨x13, rfl, o13⟩ := fit_entries h13
  exact ⟨⟨x0, x1, x2, x3, x4, x5, x6, x7, x8, x9, x10, x11, x12, x13⟩, by simp [Node.cells], ⟨o1, o2, o6, o7, o8, o9, o11, o12, o13⟩⟩
end Mg
