/- Entries, votes and acceptors that are right. No condition. -/
import Derived.Test.YthflichlfpmenaaGreatR1Q
namespace Mg
open Go Go.RowKit
set_option maxRecDepth 100000
set_option linter.unusedVariables false
set_option linter.unusedSimpArgs false
attribute [local irreducible] W Pure
theorem all_step {α : Type} [Inhabited α] {f : α → Bool} {xs : List α} {i : Nat} (h : i < xs.length) (hp : (xs.take i).all f = true) (he : f (xs.getD i default) = true) : (xs.take (i + 1)).all f = true := by
  rw [getD_get h] at he
  rw [List.take_succ_eq_append_getElem h, List.all_append]
  simp [hp, he]
theorem all_bad {α : Type} [Inhabited α] {f : α → Bool} {xs : List α} {i : Nat} (h : i < xs.length) (he : f (xs.getD i default) = false) : xs.all f = false := by
  rw [List.all_eq_false]
  exact ⟨_, getD_mem h, by rw [he]; simp⟩
theorem all_end {α : Type} [Inhabited α] {f : α → Bool} {xs : List α} {i : Nat} (h : xs.length ≤ i) (hp : (xs.take i).all f = true) : xs.all f = true := by
  rwa [List.take_of_length_le h] at hp

def zeroRun : Run := ⟨[], [], 0, 0⟩
def zeroE (n : Bool) : Entry := ⟨n, ⟨0, 0⟩, zeroRun⟩
theorem zeroRun_ok {n : Nat} : zeroRun.ok n := ⟨Nat.zero_le _, Nat.zero_le _⟩
def entryOk (e : Entry) : Bool := if e.none then decide (e = zeroE true) else reqOk e.q && execOk e.run && e.run.d != 3
def voteOk (v : Vote) : Bool := if v.bal = 0 then decide (v.e = zeroE false) else inr v.bal 1 3000 && entryOk v.e
def votesOk (xs : List Vote) : Bool := decide (xs.length ≤ 40) && xs.all voteOk
def accOk (a : Acc) : Bool := inr a.p 0 3000 && votesOk a.votes && a.votes.all fun v => decide (v.bal ≤ a.p)

theorem c_impl_CertEntry (e : Entry) (he : e.ok lim) : Pure PP false 50 [.agg e.cells] (ob (entryOk e)) := by
  obtain ⟨n, q, r⟩ := e
  refine Pure.vc [(7, .res (ob (decide (Entry.mk n q r = zeroE true)))), (10, .res (ob (reqOk q))), (14, .res (ob (execOk r)))] TTok hmo Go.Proofs.Tryz.func50 (by kernel_rfl) rfl (by kernel_rfl) ?_
  repeat' (first | refine And.intro ?_ ?_ | exact tf | exact ft | refine tt ?_ | refine ff ?_ | exact ⟨trivial⟩ | exact sAll rfl | exact sF1 rfl | exact sBld (by repeat' (first | exact trivial | rfl | exact Nat.le_of_ble_eq_true rfl | refine And.intro ?_ ?_)) rfl | exact sBS (by repeat' (first | exact trivial | rfl | exact Nat.le_of_ble_eq_true rfl | refine And.intro ?_ ?_)) rfl rfl rfl rfl | exact sLe rfl | exact Chk.mk (by kernel_rfl) | exact ⟨Chk.mk (by kernel_rfl)⟩ | exact sLeEq rfl rfl | exact sAnd (by repeat' constructor) (c_impl_CertLike _ (zeroE true) he zeroRun_ok) | exact sAnd (by repeat' constructor) (c_reqOk _) | exact sAnd (by repeat' constructor) (c_impl_ExecOk _ he) | refine fun h => ?_)
  all_goals (refine Side.mk ?_; simp_all [entryOk])
  all_goals repeat' (first | rfl | refine And.intro ?_ ?_)
theorem c_spec_CertEntry (e : Entry) (he : e.ok lim) : Pure PP false 38 [.agg e.cells] (ob (entryOk e)) := by
  obtain ⟨n, ⟨q1, q2⟩, r⟩ := e
  refine Pure.vc [(13, .res (ob (decide (r = zeroRun)))), (17, .res (ob (reqOk ⟨q1, q2⟩))), (21, .res (ob (execOk r)))] TTok hmo Go.Proofs.Tryz.func38 (by kernel_rfl) rfl (by kernel_rfl) ?_
  repeat' (first | refine And.intro ?_ ?_ | exact tf | exact ft | refine tt ?_ | refine ff ?_ | exact ⟨trivial⟩ | exact sAll rfl | exact sF1 rfl | exact sBld (by repeat' (first | exact trivial | rfl | exact Nat.le_of_ble_eq_true rfl | refine And.intro ?_ ?_)) rfl | exact sBS (by repeat' (first | exact trivial | rfl | exact Nat.le_of_ble_eq_true rfl | refine And.intro ?_ ?_)) rfl rfl rfl rfl | exact sLe rfl | exact Chk.mk (by kernel_rfl) | exact ⟨Chk.mk (by kernel_rfl)⟩ | exact sLeEq rfl rfl | exact sAnd (by repeat' constructor) (c_spec_ExecSame _ zeroRun he zeroRun_ok) | exact sAnd (by repeat' constructor) (c_l5Req ⟨q1, q2⟩) | exact sAnd (by repeat' constructor) (c_spec_ExecOk _ he) | refine fun h => ?_)
  all_goals (refine Side.mk ?_; simp_all [entryOk, zeroE])
  all_goals repeat' (first | rfl | refine And.intro ?_ ?_)
theorem c_impl_voteOk (v : Vote) (hv : v.ok lim) : Pure PP false 82 [.agg v.cells] (ob (voteOk v)) := by
  obtain ⟨b, e⟩ := v
  refine Pure.vc [(9, .res (ob (decide (e = zeroE false)))), (12, .res (ob (inr b 1 3000))), (16, .res (ob (entryOk e)))] TTok hmo Go.Proofs.Tryz.func82 (by kernel_rfl) rfl (by kernel_rfl) ?_
  repeat' (first | refine And.intro ?_ ?_ | exact tf | exact ft | refine tt ?_ | refine ff ?_ | exact ⟨trivial⟩ | exact sAll rfl | exact sF1 rfl | exact sBld (by repeat' (first | exact trivial | rfl | exact Nat.le_of_ble_eq_true rfl | refine And.intro ?_ ?_)) rfl | exact sBS (by repeat' (first | exact trivial | rfl | exact Nat.le_of_ble_eq_true rfl | refine And.intro ?_ ?_)) rfl rfl rfl rfl | exact sLe rfl | exact Chk.mk (by kernel_rfl) | exact ⟨Chk.mk (by kernel_rfl)⟩ | exact sLeEq rfl rfl | exact sAnd (by repeat' constructor) (c_impl_CertLike _ (zeroE false) hv zeroRun_ok) | exact sAnd (by repeat' constructor) (c_impl_in _ _ _) | exact sAnd (by repeat' constructor) (c_impl_CertEntry _ hv) | refine fun h => ?_)
  all_goals (refine Side.mk ?_; simp_all [voteOk])
  all_goals repeat' (first | rfl | refine And.intro ?_ ?_)
theorem c_l6Vote (v : Vote) (hv : v.ok lim) : Pure PP false 68 [.agg v.cells] (ob (voteOk v)) := by
  obtain ⟨b, n, ⟨q1, q2⟩, r⟩ := v
  refine Pure.vc [(22, .res (ob (decide (r = zeroRun)))), (26, .res (ob (inr b 1 3000))), (30, .res (ob (entryOk ⟨n, ⟨q1, q2⟩, r⟩)))] TTok hmo Go.Proofs.Tryz.func68 (by kernel_rfl) rfl (by kernel_rfl) ?_
  repeat' (first | refine And.intro ?_ ?_ | exact tf | exact ft | refine tt ?_ | refine ff ?_ | exact ⟨trivial⟩ | exact sAll rfl | exact sF1 rfl | exact sBld (by repeat' (first | exact trivial | rfl | exact Nat.le_of_ble_eq_true rfl | refine And.intro ?_ ?_)) rfl | exact sBS (by repeat' (first | exact trivial | rfl | exact Nat.le_of_ble_eq_true rfl | refine And.intro ?_ ?_)) rfl rfl rfl rfl | exact sLe rfl | exact Chk.mk (by kernel_rfl) | exact ⟨Chk.mk (by kernel_rfl)⟩ | exact sLeEq rfl rfl | exact sAnd (by repeat' constructor) (c_spec_ExecSame _ zeroRun hv zeroRun_ok) | exact sAnd (by repeat' constructor) (c_l6Bal _) | exact sAnd (by repeat' constructor) (c_spec_CertEntry ⟨n, ⟨q1, q2⟩, r⟩ hv) | refine fun h => ?_)
  all_goals (refine Side.mk ?_; simp_all [voteOk, zeroE])
  all_goals repeat' (first | rfl | refine And.intro ?_ ?_)
theorem c_l6Votes (xs : List Vote) (hx : xs.length ≤ maxLen) (hv : ∀ v ∈ xs, v.ok lim) : Pure PP false 41 [.one (.fz (xs.map Vote.cells))] (ob (votesOk xs)) := by
  have hx' : xs.length ≤ 9223372036854775807 := hx
  refine Pure.vc [] TTok hmo Go.Proofs.Tryz.func41 (by kernel_rfl) rfl (by kernel_rfl) ?_
  repeat' (first | refine And.intro ?_ ?_ | exact tf | exact ft | refine tt ?_ | refine ff ?_ | exact ⟨trivial⟩ | exact sAll rfl | exact sF1 rfl | exact sBld (by repeat' (first | exact trivial | rfl | exact Nat.le_of_ble_eq_true rfl | refine And.intro ?_ ?_)) rfl | exact sBS (by repeat' (first | exact trivial | rfl | exact Nat.le_of_ble_eq_true rfl | refine And.intro ?_ ?_)) rfl rfl rfl rfl | exact sLe rfl | exact Chk.mk (by kernel_rfl) | exact ⟨Chk.mk (by kernel_rfl)⟩ | exact sLeEq rfl rfl | refine fun h => ?_)
  · refine ⟨?_⟩; simp_all [votesOk]; omega
  refine W.loopC (D := Nat) (fun i => [(15, .row (xs.getD i default).cells), (17, .res (ob (voteOk (xs.getD i default))))]) TTok hmo
    (fun i => ⟨19, 0, [(0, .one (.ag (xs.map Vote.cells))), (2, ob false), (3, oi i)], []⟩) (fun i => xs.length - i) (fun i => i ≤ xs.length ∧ (xs.take i).all voteOk = true) 0 [] ⟨by omega, by simp⟩ ?_ ?_
  · show subC _ _ _ _
    repeat' (first | exact trivial | exact Side.mk rfl | exact Chk.mk (by kernel_rfl) | exact ⟨Chk.mk (by kernel_rfl)⟩ | refine And.intro ?_ ?_ | rfl)
  · intro i ⟨hi, hp⟩
    repeat' (first | refine And.intro ?_ ?_ | exact tf | exact ft | refine tt ?_ | refine ff ?_ | exact ⟨trivial⟩ | exact sAll rfl | exact sF1 rfl | exact sBld (by repeat' (first | exact trivial | rfl | exact Nat.le_of_ble_eq_true rfl | refine And.intro ?_ ?_)) rfl | exact sBS (by repeat' (first | exact trivial | rfl | exact Nat.le_of_ble_eq_true rfl | refine And.intro ?_ ?_)) rfl rfl rfl rfl | exact sLe rfl | exact Chk.mk (by kernel_rfl) | exact ⟨Chk.mk (by kernel_rfl)⟩ | exact sLeEq rfl rfl | refine fun h => ?_)
    all_goals simp only [decide_eq_true_eq, decide_eq_false_iff_not, List.length_map, Bool.not_eq_true', Bool.not_eq_false', Bool.not_eq_eq_eq_not, Bool.not_true, Bool.not_false, bne_iff_ne, ne_eq, bne_eq_false_iff_eq, beq_iff_eq, beq_eq_false_iff_ne] at *
    · exact sRow (by omega) (row_at xs _ (by omega)) rfl
    · exact sAnd (by repeat' constructor) (c_l6Vote _ (hv _ (getD_mem (by omega))))
    · refine ⟨?_⟩; have := all_bad (f := voteOk) (xs := xs) (i := i) (by omega) (by simp_all); simp [votesOk, this]
    · refine ⟨i + 1, [], by omega, ⟨by omega, all_step (by omega) hp (by simp_all)⟩, ?_⟩
      repeat' (first | exact trivial | exact Side.mk rfl | exact Chk.mk (by kernel_rfl) | exact ⟨Chk.mk (by kernel_rfl)⟩ | exact ⟨wrap_succ (n := xs.length) (by omega) (by omega)⟩ | refine And.intro ?_ ?_ | rfl)
    · refine ⟨?_⟩; have := all_end (by omega) hp; simp [votesOk, this]; omega
theorem c_impl_votesOk (xs : List Vote) (hx : xs.length ≤ maxLen) (hv : ∀ v ∈ xs, v.ok lim) : Pure PP false 53 [.one (.fz (xs.map Vote.cells))] (ob (votesOk xs)) := by
  have hx' : xs.length ≤ 9223372036854775807 := hx
  refine Pure.vc [] TTok hmo Go.Proofs.Tryz.func53 (by kernel_rfl) rfl (by kernel_rfl) ?_
  repeat' (first | refine And.intro ?_ ?_ | exact tf | exact ft | refine tt ?_ | refine ff ?_ | exact ⟨trivial⟩ | exact sAll rfl | exact sF1 rfl | exact sBld (by repeat' (first | exact trivial | rfl | exact Nat.le_of_ble_eq_true rfl | refine And.intro ?_ ?_)) rfl | exact sBS (by repeat' (first | exact trivial | rfl | exact Nat.le_of_ble_eq_true rfl | refine And.intro ?_ ?_)) rfl rfl rfl rfl | exact sLe rfl | exact Chk.mk (by kernel_rfl) | exact ⟨Chk.mk (by kernel_rfl)⟩ | exact sLeEq rfl rfl | refine fun h => ?_)
  refine W.loopC (D := Nat) (fun i => [(9, .row (xs.getD i default).cells), (12, .res (ob (voteOk (xs.getD i default))))]) TTok hmo
    (fun i => ⟨18, 0, [(0, .one (.ag (xs.map Vote.cells))), (2, ob false), (5, .one (.ag (xs.map Vote.cells))), (6, oi xs.length), (7, oi i)], []⟩) (fun i => xs.length - i) (fun i => i ≤ xs.length ∧ (xs.take i).all voteOk = true) 0 [] ⟨by omega, by simp⟩ ?_ ?_
  · show subC _ _ _ _
    repeat' (first | exact trivial | exact Side.mk rfl | exact Chk.mk (by kernel_rfl) | exact ⟨Chk.mk (by kernel_rfl)⟩ | refine And.intro ?_ ?_ | rfl)
    all_goals exact ⟨by simp⟩
  · intro i ⟨hi, hp⟩
    repeat' (first | refine And.intro ?_ ?_ | exact tf | exact ft | refine tt ?_ | refine ff ?_ | exact ⟨trivial⟩ | exact sAll rfl | exact sF1 rfl | exact sBld (by repeat' (first | exact trivial | rfl | exact Nat.le_of_ble_eq_true rfl | refine And.intro ?_ ?_)) rfl | exact sBS (by repeat' (first | exact trivial | rfl | exact Nat.le_of_ble_eq_true rfl | refine And.intro ?_ ?_)) rfl rfl rfl rfl | exact sLe rfl | exact Chk.mk (by kernel_rfl) | exact ⟨Chk.mk (by kernel_rfl)⟩ | exact sLeEq rfl rfl | refine fun h => ?_)
    all_goals simp only [decide_eq_true_eq, decide_eq_false_iff_not, List.length_map, Bool.not_eq_true', Bool.not_eq_false', Bool.not_eq_eq_eq_not, Bool.not_true, Bool.not_false, bne_iff_ne, ne_eq, bne_eq_false_iff_eq, beq_iff_eq, beq_eq_false_iff_ne] at *
    · exact sRow (by omega) (row_at xs _ (by omega)) rfl
    · exact sAnd (by repeat' constructor) (c_impl_voteOk _ (hv _ (getD_mem (by omega))))
    · refine ⟨?_⟩; have := all_bad (f := voteOk) (xs := xs) (i := i) (by omega) (by simp_all); simp [votesOk, this]
    · refine ⟨i + 1, [], by omega, ⟨by omega, all_step (by omega) hp (by simp_all)⟩, ?_⟩
      repeat' (first | exact trivial | exact Side.mk rfl | exact Chk.mk (by kernel_rfl) | exact ⟨Chk.mk (by kernel_rfl)⟩ | exact ⟨wrap_succ (n := xs.length) (by omega) (by omega)⟩ | refine And.intro ?_ ?_ | rfl)
    · refine ⟨?_⟩; have := all_end (by omega) hp; simp [votesOk, this]; omega
theorem c_spec_AccOk (a : Acc) (ha : a.ok lim) : Pure PP false 34 [.agg a.cells] (ob (accOk a)) := by
  obtain ⟨p, xs⟩ := a
  have hl : xs.length ≤ 1048576 := ha.1
  refine Pure.vc [(15, .res (ob (votesOk xs)))] TTok hmo Go.Proofs.Tryz.func34 (by kernel_rfl) rfl (by kernel_rfl) ?_
  repeat' (first | refine And.intro ?_ ?_ | exact tf | exact ft | refine tt ?_ | refine ff ?_ | exact ⟨trivial⟩ | exact sAll rfl | exact sF1 rfl | exact sBld (by repeat' (first | exact trivial | rfl | exact Nat.le_of_ble_eq_true rfl | refine And.intro ?_ ?_)) rfl | exact sBS (by repeat' (first | exact trivial | rfl | exact Nat.le_of_ble_eq_true rfl | refine And.intro ?_ ?_)) rfl rfl rfl rfl | exact sLe rfl | exact Chk.mk (by kernel_rfl) | exact ⟨Chk.mk (by kernel_rfl)⟩ | exact sLeEq rfl rfl | exact sAnd (by repeat' constructor) (c_l6Votes _ (Nat.le_trans ha.1 (by decide)) ha.2) | refine fun h => ?_)
  all_goals try (refine Side.mk ?_; simp_all [accOk, inr]; done)
  all_goals try (refine Side.mk ?_; simp_all [accOk, inr]; omega)
  refine W.loopC (D := Nat) (fun i => [(28, .row (xs.getD i default).cells)]) TTok hmo
    (fun i => ⟨34, 1, [(1, .one (.ptr 0 0 0)), (2, ob false), (3, oi i)], [(0, .box [i6 p, .ag (xs.map Vote.cells)])]⟩) (fun i => xs.length - i) (fun i => i ≤ xs.length ∧ (xs.take i).all (fun v => decide (v.bal ≤ p)) = true) 0 [] ⟨by omega, by simp⟩ ?_ ?_
  · show subC _ _ _ _
    repeat' (first | exact trivial | exact Side.mk rfl | exact Chk.mk (by kernel_rfl) | exact ⟨Chk.mk (by kernel_rfl)⟩ | refine And.intro ?_ ?_ | rfl)
  · intro i ⟨hi, hp⟩
    repeat' (first | refine And.intro ?_ ?_ | exact tf | exact ft | refine tt ?_ | refine ff ?_ | exact ⟨trivial⟩ | exact sAll rfl | exact sF1 rfl | exact sBld (by repeat' (first | exact trivial | rfl | exact Nat.le_of_ble_eq_true rfl | refine And.intro ?_ ?_)) rfl | exact sBS (by repeat' (first | exact trivial | rfl | exact Nat.le_of_ble_eq_true rfl | refine And.intro ?_ ?_)) rfl rfl rfl rfl | exact sLe rfl | exact Chk.mk (by kernel_rfl) | exact ⟨Chk.mk (by kernel_rfl)⟩ | exact sLeEq rfl rfl | refine fun h => ?_)
    all_goals simp only [decide_eq_true_eq, decide_eq_false_iff_not, List.length_map, Bool.not_eq_true', Bool.not_eq_false', Bool.not_eq_eq_eq_not, Bool.not_true, Bool.not_false, bne_iff_ne, ne_eq, bne_eq_false_iff_eq, beq_iff_eq, beq_eq_false_iff_ne] at *
    · exact sRow (by omega) (row_at xs _ (by omega)) rfl
    · refine ⟨?_⟩; have := all_bad (f := fun v => decide (v.bal ≤ p)) (xs := xs) (i := i) (by omega) (by simp_all); simp [accOk, this]
    · refine ⟨i + 1, [], by omega, ⟨by omega, all_step (by omega) hp (by simp_all)⟩, ?_⟩
      repeat' (first | exact trivial | exact Side.mk rfl | exact Chk.mk (by kernel_rfl) | exact ⟨Chk.mk (by kernel_rfl)⟩ | exact ⟨wrap_succ (n := xs.length) (by omega) (by omega)⟩ | refine And.intro ?_ ?_ | rfl)
    · refine ⟨?_⟩; have := all_end (by omega) hp; simp_all [accOk, inr]
theorem c_impl_AccOk (a : Acc) (ha : a.ok lim) : Pure PP false 48 [.agg a.cells] (ob (accOk a)) := by
  obtain ⟨p, xs⟩ := a
  have hl : xs.length ≤ 1048576 := ha.1
  refine Pure.vc [(20, .res (ob (inr p 0 3000))), (24, .res (ob (votesOk xs)))] TTok hmo Go.Proofs.Tryz.func48 (by kernel_rfl) rfl (by kernel_rfl) ?_
  repeat' (first | refine And.intro ?_ ?_ | exact tf | exact ft | refine tt ?_ | refine ff ?_ | exact ⟨trivial⟩ | exact sAll rfl | exact sF1 rfl | exact sBld (by repeat' (first | exact trivial | rfl | exact Nat.le_of_ble_eq_true rfl | refine And.intro ?_ ?_)) rfl | exact sBS (by repeat' (first | exact trivial | rfl | exact Nat.le_of_ble_eq_true rfl | refine And.intro ?_ ?_)) rfl rfl rfl rfl | exact sLe rfl | exact Chk.mk (by kernel_rfl) | exact ⟨Chk.mk (by kernel_rfl)⟩ | exact sLeEq rfl rfl | refine fun h => ?_)
  refine W.loopC (D := Nat) (fun i => [(10, .row (xs.getD i default).cells)]) TTok hmo
    (fun i => ⟨26, 1, [(1, .one (.ptr 0 0 0)), (2, ob false), (6, .one (.ag (xs.map Vote.cells))), (7, oi xs.length), (8, oi i)], [(0, .box [i6 p, .ag (xs.map Vote.cells)])]⟩) (fun i => xs.length - i) (fun i => i ≤ xs.length ∧ (xs.take i).all (fun v => decide (v.bal ≤ p)) = true) 0 [] ⟨by omega, by simp⟩ ?_ ?_
  · show subC _ _ _ _
    repeat' (first | exact trivial | exact Side.mk rfl | exact Chk.mk (by kernel_rfl) | exact ⟨Chk.mk (by kernel_rfl)⟩ | refine And.intro ?_ ?_ | rfl)
    all_goals exact ⟨by simp⟩
  · intro i ⟨hi, hp⟩
    repeat' (first | refine And.intro ?_ ?_ | exact tf | exact ft | refine tt ?_ | refine ff ?_ | exact ⟨trivial⟩ | exact sAll rfl | exact sF1 rfl | exact sBld (by repeat' (first | exact trivial | rfl | exact Nat.le_of_ble_eq_true rfl | refine And.intro ?_ ?_)) rfl | exact sBS (by repeat' (first | exact trivial | rfl | exact Nat.le_of_ble_eq_true rfl | refine And.intro ?_ ?_)) rfl rfl rfl rfl | exact sLe rfl | exact Chk.mk (by kernel_rfl) | exact ⟨Chk.mk (by kernel_rfl)⟩ | exact sLeEq rfl rfl | exact sAnd (by repeat' constructor) (c_impl_in _ _ _) | exact sAnd (by repeat' constructor) (c_impl_votesOk _ (Nat.le_trans ha.1 (by decide)) ha.2) | refine fun h => ?_)
    all_goals simp only [decide_eq_true_eq, decide_eq_false_iff_not, List.length_map, Bool.not_eq_true', Bool.not_eq_false', Bool.not_eq_eq_eq_not, Bool.not_true, Bool.not_false, bne_iff_ne, ne_eq, bne_eq_false_iff_eq, beq_iff_eq, beq_eq_false_iff_ne] at *
    · exact sRow (by omega) (row_at xs _ (by omega)) rfl
    · refine ⟨?_⟩; have := all_bad (f := fun v => decide (v.bal ≤ p)) (xs := xs) (i := i) (by omega) (by simp_all); simp [accOk, this]
    · refine ⟨i + 1, [], by omega, ⟨by omega, all_step (by omega) hp (by simp_all)⟩, ?_⟩
      repeat' (first | exact trivial | exact Side.mk rfl | exact Chk.mk (by kernel_rfl) | exact ⟨Chk.mk (by kernel_rfl)⟩ | exact ⟨wrap_succ (n := xs.length) (by omega) (by omega)⟩ | refine And.intro ?_ ?_ | rfl)
    all_goals (refine Side.mk ?_; have := all_end (by omega) hp; simp_all [accOk])
end Mg
