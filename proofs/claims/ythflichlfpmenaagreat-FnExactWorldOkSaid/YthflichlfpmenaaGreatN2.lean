/- What a node has of leading, and what it was asked. No condition. -/
import Derived.Test.YthflichlfpmenaaGreatN1
namespace Mg
open Go Go.RowKit
set_option maxRecDepth 100000
set_option linter.unusedVariables false
set_option linter.unusedSimpArgs false
attribute [local irreducible] W Pure
theorem c_l7None' (e : Entry) (he : e.ok lim) : Pure PP false 39 [.agg e.cells] (ob (decide (e = zeroE false))) := by
  obtain ⟨n, ⟨q1, q2⟩, r⟩ := e
  refine Pure.vc [(16, .res (ob (decide (r = zeroRun))))] TTok hmo Go.Proofs.Tryz.func39 (by kernel_rfl) rfl (by kernel_rfl) ?_
  repeat' (first | refine And.intro ?_ ?_ | exact tf | exact ft | refine tt ?_ | refine ff ?_ | exact ⟨trivial⟩ | exact sAll rfl | exact sF1 rfl | exact sBld (by repeat' (first | exact trivial | rfl | exact Nat.le_of_ble_eq_true rfl | refine And.intro ?_ ?_)) rfl | exact sBS (by repeat' (first | exact trivial | rfl | exact Nat.le_of_ble_eq_true rfl | refine And.intro ?_ ?_)) rfl rfl rfl rfl | exact sLe rfl | exact Chk.mk (by kernel_rfl) | exact ⟨Chk.mk (by kernel_rfl)⟩ | exact sLeEq rfl rfl | exact sAnd (by repeat' constructor) (c_spec_ExecSame _ zeroRun he zeroRun_ok) | refine fun h => ?_)
  all_goals (refine Side.mk ?_; simp_all [zeroE])
  all_goals repeat' (first | rfl | refine And.intro ?_ ?_)
def leadS (n : Node) : Bool :=
  if n.phase = 0 then n.bal == 0 && (n.fro.length : Int) == 0 && (n.best.length : Int) == 0 && decide (n.cur = zeroE false) && (n.votes.length : Int) == 0 else
  if n.phase = 1 then inr n.bal 1 3000 && decide (n.bal ≤ n.acc.p) && owner n.bal == n.id && (n.fro.length : Int) == 3 && n.fro.getD n.id.toNat default && votesOk n.best && decide (n.cur = zeroE false) && (n.votes.length : Int) == 0 else
  if n.phase = 2 then inr n.bal 1 3000 && decide (n.bal ≤ n.acc.p) && owner n.bal == n.id && (n.fro.length : Int) == 0 && votesOk n.best && decide (n.cur = zeroE false) && (n.votes.length : Int) == 0 else
  if n.phase = 3 then inr n.bal 1 3000 && decide (n.bal ≤ n.acc.p) && owner n.bal == n.id && (n.fro.length : Int) == 0 && votesOk n.best && entryOk n.cur && (n.votes.length : Int) == 3 && n.votes.getD n.id.toNat default && decide ((n.known.length : Int) < 40) else false
set_option maxHeartbeats 4000000 in
theorem c_l8Lead (n : Node) (hn : n.ok lim) (hid : inr n.id 0 2 = true) : Pure PP false 36 [.agg n.cells] (ob (leadS n)) := by
  obtain ⟨id, ac, kn, sq, ph, ba, fr, be, cu, vo, bu, pr, wa, qu⟩ := n
  have hid : inr id 0 2 = true := hid
  have hb := hn.best
  refine Pure.vc [(25, .res (ob (decide (cu = zeroE false)))), (37, .res (ob (inr ba 1 3000))), (49, .res (oi (owner ba))), (65, .row (Bool.cells (fr.getD id.toNat default))), (71, .res (ob (votesOk be))), (76, .res (ob (decide (cu = zeroE false)))), (89, .res (ob (inr ba 1 3000))), (102, .res (oi (owner ba))), (116, .res (ob (votesOk be))), (124, .res (ob (decide (cu = zeroE false)))), (133, .res (ob (entryOk cu))), (145, .row (Bool.cells (vo.getD id.toNat default)))] TTok hmo Go.Proofs.Tryz.func36 (by kernel_rfl) rfl (by kernel_rfl) ?_
  repeat' (first | refine And.intro ?_ ?_ | exact tf | exact ft | refine tt ?_ | refine ff ?_ | exact ⟨trivial⟩ | exact sAll rfl | exact sF1 rfl | exact sBld (by repeat' (first | exact trivial | rfl | exact Nat.le_of_ble_eq_true rfl | refine And.intro ?_ ?_)) rfl | exact sBS (by repeat' (first | exact trivial | rfl | exact Nat.le_of_ble_eq_true rfl | refine And.intro ?_ ?_)) rfl rfl rfl rfl | exact sLe rfl | exact Chk.mk (by kernel_rfl) | exact ⟨Chk.mk (by kernel_rfl)⟩ | exact sLeEq rfl rfl | exact sAnd (by repeat' constructor) (c_l7None' _ hn.cur) | exact sAnd (by repeat' constructor) (c_l6Bal _) | exact sAnd (by repeat' constructor) (c_spec_AccOwner _) | exact sAnd (by repeat' constructor) (c_l6Votes _ (Nat.le_trans hb.1 (by decide)) hb.2) | exact sAnd (by repeat' constructor) (c_spec_CertEntry _ hn.cur) | refine fun h => ?_)
  all_goals try dsimp only at *
  all_goals simp only [List.length_map, beq_iff_eq, beq_eq_false_iff_ne, ne_eq, decide_eq_true_eq, decide_eq_false_iff_not, Bool.not_eq_true', Bool.not_eq_false', bne_iff_ne, bne_eq_false_iff_eq] at *
  all_goals try (exact sRow (by simp only [inr, Bool.and_eq_true, decide_eq_true_eq] at hid; omega) (bool_at hid (by assumption)) rfl)
  all_goals (refine Side.mk ?_)
  all_goals simp_all [leadS]
  all_goals (intro hle; exfalso; omega)
def leadI (n : Node) : Bool :=
  if n.phase = 0 then n.bal == 0 && (n.fro.length : Int) == 0 && (n.best.length : Int) == 0 && (decide (n.cur = zeroE false) && (n.votes.length : Int) == 0) else
  if (!(owner n.bal == n.id) || !decide (n.bal ≤ n.acc.p) || !votesOk n.best) = true then false else
  if n.phase = 1 then marksOk n.fro n.id && (decide (n.cur = zeroE false) && (n.votes.length : Int) == 0) else
  if n.phase = 2 then (n.fro.length : Int) == 0 && (decide (n.cur = zeroE false) && (n.votes.length : Int) == 0) else
  if n.phase = 3 then (n.fro.length : Int) == 0 && entryOk n.cur && marksOk n.votes n.id && decide ((n.known.length : Int) < 40) else false
set_option maxHeartbeats 4000000 in
theorem c_impl_leadOk (n : Node) (hn : n.ok lim) (hid : inr n.id 0 2 = true) : Pure PP false 52 [.agg n.cells] (ob (leadI n)) := by
  obtain ⟨id, ac, kn, sq, ph, ba, fr, be, cu, vo, bu, pr, wa, qu⟩ := n
  have hid : inr id 0 2 = true := hid
  have hb := hn.best
  refine Pure.vc [(8, .res (ob (decide (cu = zeroE false)))), (39, .res (oi (owner ba))), (54, .res (ob (votesOk be))), (65, .res (ob (marksOk fr id))), (81, .res (ob (entryOk cu))), (88, .res (ob (marksOk vo id)))] TTok hmo Go.Proofs.Tryz.func52 (by kernel_rfl) rfl (by kernel_rfl) ?_
  repeat' (first | refine And.intro ?_ ?_ | exact tf | exact ft | refine tt ?_ | refine ff ?_ | exact ⟨trivial⟩ | exact sAll rfl | exact sF1 rfl | exact sBld (by repeat' (first | exact trivial | rfl | exact Nat.le_of_ble_eq_true rfl | refine And.intro ?_ ?_)) rfl | exact sBS (by repeat' (first | exact trivial | rfl | exact Nat.le_of_ble_eq_true rfl | refine And.intro ?_ ?_)) rfl rfl rfl rfl | exact sLe rfl | exact Chk.mk (by kernel_rfl) | exact ⟨Chk.mk (by kernel_rfl)⟩ | exact sLeEq rfl rfl | exact sAnd (by repeat' constructor) (c_impl_CertLike _ (zeroE false) hn.cur zeroRun_ok) | exact sAnd (by repeat' constructor) (c_impl_AccOwner _) | exact sAnd (by repeat' constructor) (c_impl_votesOk _ (Nat.le_trans hb.1 (by decide)) hb.2) | exact sAnd (by repeat' constructor) (c_impl_marksOk _ _ hid) | exact sAnd (by repeat' constructor) (c_impl_CertEntry _ hn.cur) | refine fun h => ?_)
  all_goals try dsimp only at *
  all_goals (refine Side.mk ?_)
  all_goals simp only [List.length_map, beq_iff_eq, beq_eq_false_iff_ne, ne_eq, decide_eq_true_eq, decide_eq_false_iff_not, Bool.not_eq_true', Bool.not_eq_false', bne_iff_ne, bne_eq_false_iff_eq] at *
  all_goals simp_all [leadI]
theorem lead_eq (n : Node) (hid : inr n.id 0 2 = true) : leadI n = leadS n := by
  have hO : owner n.bal = n.id → inr n.bal 1 3000 = true := fun h => by
    unfold owner at h
    split at h
    · assumption
    · simp only [inr, Bool.and_eq_true, decide_eq_true_eq] at hid; omega
  unfold leadI leadS marksOk
  by_cases h0 : n.phase = 0
  · simp [h0, Bool.and_assoc]
  by_cases ho : owner n.bal = n.id
  · have hB := hO ho
    rw [hB]
    by_cases h1 : n.phase = 1 <;> by_cases h2 : n.phase = 2 <;> by_cases h3 : n.phase = 3
    all_goals try (exfalso; omega)
    all_goals simp only [h0, h1, h2, h3, if_false, if_true, ho, beq_self_eq_true, Bool.true_and, Bool.not_true, Bool.false_or]
    all_goals (generalize decide (n.bal ≤ n.acc.p) = b1; generalize votesOk n.best = b2; generalize decide (n.cur = zeroE false) = b3; generalize entryOk n.cur = b4; generalize decide ((n.known.length : Int) < 40) = b5)
    all_goals (generalize ((n.fro.length : Int) == 0) = b6; generalize ((n.votes.length : Int) == 0) = b7; generalize ((n.fro.length : Int) == 3) = b8; generalize ((n.votes.length : Int) == 3) = b9; generalize n.fro.getD n.id.toNat default = c1; generalize n.votes.getD n.id.toNat default = c2)
    all_goals (cases b1 <;> cases b2 <;> cases b3 <;> cases b4 <;> cases b6 <;> cases b8 <;> cases c1 <;> simp)
  · have ho' : (owner n.bal == n.id) = false := by simpa using ho
    simp [h0, ho', ho]
def wantsOk (n : Node) : Bool := if n.busy = true then progOk n.prog && entryOk n.want && !n.want.none && decide (n.want.q = ⟨n.id, n.seq⟩) else (n.prog.length : Int) == 0 && decide (n.want = zeroE false)
theorem c_l8Wants (n : Node) (hn : n.ok lim) : Pure PP false 37 [.agg n.cells] (ob (wantsOk n)) := by
  obtain ⟨id, ac, kn, sq, ph, ba, fr, be, cu, vo, bu, pr, ⟨wn, ⟨q1, q2⟩, wr⟩, qu⟩ := n
  refine Pure.vc [(13, .res (ob (decide (Entry.mk wn ⟨q1, q2⟩ wr = zeroE false)))), (17, .res (ob (progOk pr))), (21, .res (ob (entryOk ⟨wn, ⟨q1, q2⟩, wr⟩)))] TTok hmo Go.Proofs.Tryz.func37 (by kernel_rfl) rfl (by kernel_rfl) ?_
  repeat' (first | refine And.intro ?_ ?_ | exact tf | exact ft | refine tt ?_ | refine ff ?_ | exact ⟨trivial⟩ | exact sAll rfl | exact sF1 rfl | exact sBld (by repeat' (first | exact trivial | rfl | exact Nat.le_of_ble_eq_true rfl | refine And.intro ?_ ?_)) rfl | exact sBS (by repeat' (first | exact trivial | rfl | exact Nat.le_of_ble_eq_true rfl | refine And.intro ?_ ?_)) rfl rfl rfl rfl | exact sLe rfl | exact Chk.mk (by kernel_rfl) | exact ⟨Chk.mk (by kernel_rfl)⟩ | exact sLeEq rfl rfl | exact sAnd (by repeat' constructor) (c_l7None' ⟨wn, ⟨q1, q2⟩, wr⟩ hn.want) | exact sAnd (by repeat' constructor) (c_spec_ProgOk _ (Nat.le_trans hn.prog (by decide))) | exact sAnd (by repeat' constructor) (c_spec_CertEntry ⟨wn, ⟨q1, q2⟩, wr⟩ hn.want) | refine fun h => ?_)
  all_goals (refine Side.mk ?_; simp_all [wantsOk])
  all_goals first
    | exact ⟨Nat.le_of_ble_eq_true rfl, rfl⟩
    | (rw [Bool.eq_iff_iff]; simp)
theorem all_split {α : Type} [Inhabited α] {f : α → Bool} {xs : List α} {i : Nat} (h : i < xs.length) (he : f (xs.getD i default) = false) : xs.all f = false := all_bad h he
def queueOk (e : Entry) : Bool := entryOk e && !e.none
@[reducible] def nodeA (id : Int) (ac : Acc) (kn : List Entry) (sq ph ba : Int) (fr : List Bool) (be : List Vote) (cu : Entry) (vo : List Bool) (bu : Bool) (pr : List Ins) (wa : Entry) (qu : List Entry) : List MC :=
  [i6 id, i6 ac.p, .ag (ac.votes.map Vote.cells), .ag (kn.map Entry.cells), i6 sq, i6 ph, i6 ba, .ag (fr.map Bool.cells), .ag (be.map Vote.cells), bo cu.none, i6 cu.q.a, i6 cu.q.b, .ag (cu.run.reads.map Two.cells), .ag (cu.run.puts.map Two.cells), i6 cu.run.c, i6 cu.run.d,
    .ag (vo.map Bool.cells), bo bu, .ag (pr.map Ins.cells), bo wa.none, i6 wa.q.a, i6 wa.q.b, .ag (wa.run.reads.map Two.cells), .ag (wa.run.puts.map Two.cells), i6 wa.run.c, i6 wa.run.d, .ag (qu.map Entry.cells)]
def nodeOk (n : Node) : Bool := inr n.id 0 2 && accOk n.acc && entsOk n.known && inr n.seq 0 1000 && decide ((n.queue.length : Int) ≤ 4) && leadS n && wantsOk n && n.queue.all queueOk
set_option maxHeartbeats 8000000 in
theorem c_spec_NodeOk (n : Node) (hn : n.ok lim) : Pure PP false 13 [.agg n.cells] (ob (nodeOk n)) := by
  by_cases hid : inr n.id 0 2 = true
  · have hl8 := c_l8Lead n hn hid
    have hw8 := c_l8Wants n hn
    obtain ⟨lb, hlb⟩ : ∃ lb, leadS n = lb := ⟨_, rfl⟩
    obtain ⟨wb, hwb⟩ : ∃ wb, wantsOk n = wb := ⟨_, rfl⟩
    rw [hlb] at hl8
    rw [hwb] at hw8
    have hN : nodeOk n = (inr n.id 0 2 && accOk n.acc && entsOk n.known && inr n.seq 0 1000 && decide ((n.queue.length : Int) ≤ 4) && lb && wb && n.queue.all queueOk) := by unfold nodeOk; rw [hlb, hwb]
    rw [hN]
    obtain ⟨id, ac, kn, sq, ph, ba, fr, be, cu, vo, bu, pr, wa, qu⟩ := n
    have hid : inr id 0 2 = true := hid
    have hk := hn.known
    have hql : qu.length ≤ 1048576 := hn.queue.1
    have hqu : ∀ v ∈ qu, v.ok lim := hn.queue.2
    refine Pure.vc [(15, .res (ob (accOk ac))), (21, .res (ob (entsOk kn))), (42, .res (ob lb)), (47, .res (ob wb))] TTok hmo Go.Proofs.Tryz.func13 (by kernel_rfl) rfl (by kernel_rfl) ?_
    repeat' (first | refine And.intro ?_ ?_ | exact tf | exact ft | refine tt ?_ | refine ff ?_ | exact ⟨trivial⟩ | exact sAll rfl | exact sF1 rfl | exact sBld (by repeat' (first | exact trivial | rfl | exact Nat.le_of_ble_eq_true rfl | refine And.intro ?_ ?_)) rfl | exact sBS (by repeat' (first | exact trivial | rfl | exact Nat.le_of_ble_eq_true rfl | refine And.intro ?_ ?_)) rfl rfl rfl rfl | exact sLe rfl | exact Chk.mk (by kernel_rfl) | exact ⟨Chk.mk (by kernel_rfl)⟩ | exact sLeEq rfl rfl | exact sAnd (by repeat' constructor) (c_spec_AccOk _ hn.acc) | exact sAnd (by repeat' constructor) (c_l8Known _ (Nat.le_trans hk.1 (by decide)) hk.2) | exact sAnd (by repeat' constructor) (hl8) | exact sAnd (by repeat' constructor) (hw8) | refine fun h => ?_)
    all_goals try dsimp only at *
    all_goals try simp only [List.length_map, beq_iff_eq, beq_eq_false_iff_ne, ne_eq, decide_eq_true_eq, decide_eq_false_iff_not, Bool.not_eq_true', Bool.not_eq_false', bne_iff_ne, bne_eq_false_iff_eq] at *
    all_goals try (refine Side.mk ?_; simp_all [inr]; done)
    all_goals try (refine Side.mk ?_; simp_all [inr]; omega)
    refine W.loopC (D := Nat) (fun i => [(60, .row (qu.getD i default).cells), (62, .res (ob (entryOk (qu.getD i default)))), (68, .row (qu.getD i default).cells)]) TTok hmo
      (fun i => ⟨72, 1, [(1, .one (.ptr 0 0 0)), (2, ob false), (3, oi i)], [(0, .box (nodeA id ac kn sq ph ba fr be cu vo bu pr wa qu))]⟩) (fun i => qu.length - i) (fun i => i ≤ qu.length ∧ (qu.take i).all queueOk = true) 0 [] ⟨by omega, by simp⟩ ?_ ?_
    · show subC _ _ _ _
      repeat' (first | exact trivial | exact Side.mk rfl | exact Chk.mk (by kernel_rfl) | exact ⟨Chk.mk (by kernel_rfl)⟩ | refine And.intro ?_ ?_ | rfl)
    · intro i ⟨hi, hp⟩
      clear hN hlb hwb hl8 hw8
      repeat' (first | refine And.intro ?_ ?_ | exact tf | exact ft | refine tt ?_ | refine ff ?_ | exact ⟨trivial⟩ | exact sAll rfl | exact sF1 rfl | exact sBld (by repeat' (first | exact trivial | rfl | exact Nat.le_of_ble_eq_true rfl | refine And.intro ?_ ?_)) rfl | exact sBS (by repeat' (first | exact trivial | rfl | exact Nat.le_of_ble_eq_true rfl | refine And.intro ?_ ?_)) rfl rfl rfl rfl | exact sLe rfl | exact Chk.mk (by kernel_rfl) | exact ⟨Chk.mk (by kernel_rfl)⟩ | exact sLeEq rfl rfl | refine fun h => ?_)
      all_goals simp only [decide_eq_true_eq, decide_eq_false_iff_not, List.length_map, Bool.not_eq_true', Bool.not_eq_false', Bool.not_eq_eq_eq_not, Bool.not_true, Bool.not_false, bne_iff_ne, ne_eq, bne_eq_false_iff_eq, beq_iff_eq, beq_eq_false_iff_ne] at *
      · exact sRow (by omega) (row_at qu _ (by omega)) rfl
      · exact sAnd (by repeat' constructor) (c_spec_CertEntry _ (hqu _ (getD_mem (by omega))))
      · exact sRow (by omega) (row_at qu _ (by omega)) rfl
      · refine ⟨?_⟩; have := all_bad (f := queueOk) (xs := qu) (i := i) (by omega) (by simp_all [queueOk]); simp [this]
      · refine ⟨i + 1, [], by omega, ⟨by omega, all_step (by omega) hp (by simp_all [queueOk])⟩, ?_⟩
        repeat' (first | exact trivial | exact Side.mk rfl | exact Chk.mk (by kernel_rfl) | exact ⟨Chk.mk (by kernel_rfl)⟩ | exact ⟨wrap_succ (n := qu.length) (by omega) (by omega)⟩ | refine And.intro ?_ ?_ | rfl)
      · refine ⟨?_⟩; have := all_bad (f := queueOk) (xs := qu) (i := i) (by omega) (by simp_all [queueOk]); simp [this]
      · refine ⟨?_⟩; have := all_end (by omega) hp; simp_all [inr]
  · have hN : nodeOk n = false := by
      have : inr n.id 0 2 = false := by simpa using hid
      simp [nodeOk, this]
    rw [hN]
    obtain ⟨id, ac, kn, sq, ph, ba, fr, be, cu, vo, bu, pr, wa, qu⟩ := n
    have hid : ¬ inr id 0 2 = true := hid
    by_cases h0 : id < 0
    · refine Pure.vc [] TTok hmo Go.Proofs.Tryz.func13 (by kernel_rfl) rfl (by kernel_rfl) ?_
      repeat' (first | refine And.intro ?_ ?_ | exact tf | exact ft | refine tt ?_ | refine ff ?_ | exact fun h => absurd h0 (of_decide_eq_false h) | exact ⟨trivial⟩ | exact sAll rfl | exact sF1 rfl | exact sBld (by repeat' (first | exact trivial | rfl | exact Nat.le_of_ble_eq_true rfl | refine And.intro ?_ ?_)) rfl | exact sBS (by repeat' (first | exact trivial | rfl | exact Nat.le_of_ble_eq_true rfl | refine And.intro ?_ ?_)) rfl rfl rfl rfl | exact sLe rfl | exact Chk.mk (by kernel_rfl) | exact ⟨Chk.mk (by kernel_rfl)⟩ | exact sLeEq rfl rfl | refine fun h => ?_)
      all_goals (refine Side.mk ?_; simp)
    have h3 : id ≥ 3 := by
      simp only [inr, Bool.and_eq_true, decide_eq_true_eq] at hid; omega
    refine Pure.vc [] TTok hmo Go.Proofs.Tryz.func13 (by kernel_rfl) rfl (by kernel_rfl) ?_
    repeat' (first | refine And.intro ?_ ?_ | exact tf | exact ft | refine tt ?_ | refine ff ?_ | exact fun h => absurd (of_decide_eq_true h) h0 | exact fun h => absurd h3 (of_decide_eq_false h) | exact ⟨trivial⟩ | exact sAll rfl | exact sF1 rfl | exact sBld (by repeat' (first | exact trivial | rfl | exact Nat.le_of_ble_eq_true rfl | refine And.intro ?_ ?_)) rfl | exact sBS (by repeat' (first | exact trivial | rfl | exact Nat.le_of_ble_eq_true rfl | refine And.intro ?_ ?_)) rfl rfl rfl rfl | exact sLe rfl | exact Chk.mk (by kernel_rfl) | exact ⟨Chk.mk (by kernel_rfl)⟩ | exact sLeEq rfl rfl | refine fun h => ?_)
    all_goals (refine Side.mk ?_; simp)
end Mg
