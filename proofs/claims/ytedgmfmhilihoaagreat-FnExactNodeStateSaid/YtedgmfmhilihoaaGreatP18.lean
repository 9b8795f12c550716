/- Parts of the abstract state logic and of the walks, one behind the other: N2, R2C, R2E, N3. No condition. -/
import Derived.Test.YtedgmfmhilihoaaGreatP17
import Derived.Test.YtedgmfmhilihoaaGreatP15
/- What a node has of leading, and what it was asked. No condition. -/
namespace Mg
open Go Go.RowKit
set_option maxRecDepth 100000
set_option linter.unusedVariables false
set_option linter.unusedSimpArgs false
attribute [local irreducible] W Pure
theorem c_l7None' (e : Entry) (he : e.ok lim) : Pure PP false 129 [.agg e.cells] (ob (decide (e = zeroE false))) := by
  obtain ⟨n, ⟨q1, q2⟩, r⟩ := e
  refine Pure.vc [(16, .res (ob (decide (r = zeroRun))))] TTok hmo Go.Proofs.Tryz.func129 (by kernel_rfl) rfl (by kernel_rfl) ?_
  repeat' (first | refine And.intro ?_ ?_ | exact tf | exact ft | refine tt ?_ | refine ff ?_ | exact ⟨trivial⟩ | exact sAll rfl | exact sF1 rfl | exact sBld (by repeat' (first | exact trivial | rfl | exact Nat.le_of_ble_eq_true rfl | refine And.intro ?_ ?_)) rfl | exact sBS (by repeat' (first | exact trivial | rfl | exact Nat.le_of_ble_eq_true rfl | refine And.intro ?_ ?_)) rfl rfl rfl rfl | exact sBSF (by repeat' (first | exact trivial | rfl | exact Nat.le_of_ble_eq_true rfl | refine And.intro ?_ ?_)) rfl rfl rfl rfl | exact sLe rfl | exact Chk.mk (by kernel_rfl) | exact ⟨Chk.mk (by kernel_rfl)⟩ | exact sLeEq rfl rfl | exact sAnd (by repeat' constructor) (c_spec_ExecSame _ zeroRun he zeroRun_ok) | refine fun h => ?_)
  all_goals (refine Side.mk ?_; simp_all [zeroE])
  all_goals repeat' (first | rfl | refine And.intro ?_ ?_)
def leadS (n : Node) : Bool :=
  if n.phase = 0 then n.bal == 0 && (n.fro.length : Int) == 0 && (n.best.length : Int) == 0 && decide (n.cur = zeroE false) && (n.votes.length : Int) == 0 else
  if n.phase = 1 then inr n.bal 1 3000 && decide (n.bal ≤ n.acc.p) && owner n.bal == n.id && (n.fro.length : Int) == 3 && n.fro.getD n.id.toNat default && votesOk n.best && decide (n.cur = zeroE false) && (n.votes.length : Int) == 0 else
  if n.phase = 2 then inr n.bal 1 3000 && decide (n.bal ≤ n.acc.p) && owner n.bal == n.id && (n.fro.length : Int) == 0 && votesOk n.best && decide (n.cur = zeroE false) && (n.votes.length : Int) == 0 else
  if n.phase = 3 then inr n.bal 1 3000 && decide (n.bal ≤ n.acc.p) && owner n.bal == n.id && (n.fro.length : Int) == 0 && votesOk n.best && entryOk n.cur && (n.votes.length : Int) == 3 && n.votes.getD n.id.toNat default && decide ((n.known.length : Int) < 40) else false
set_option maxHeartbeats 4000000 in
theorem c_l8Lead (n : Node) (hn : n.ok lim) (hid : inr n.id 0 2 = true) : Pure PP false 86 [.agg n.cells] (ob (leadS n)) := by
  obtain ⟨id, ac, kn, sq, ph, ba, fr, be, cu, vo, bu, pr, wa, qu⟩ := n
  have hid : inr id 0 2 = true := hid
  have hb := hn.best
  refine Pure.vc [(25, .res (ob (decide (cu = zeroE false)))), (37, .res (ob (inr ba 1 3000))), (49, .res (oi (owner ba))), (65, .row (Bool.cells (fr.getD id.toNat default))), (71, .res (ob (votesOk be))), (76, .res (ob (decide (cu = zeroE false)))), (89, .res (ob (inr ba 1 3000))), (102, .res (oi (owner ba))), (116, .res (ob (votesOk be))), (124, .res (ob (decide (cu = zeroE false)))), (133, .res (ob (entryOk cu))), (145, .row (Bool.cells (vo.getD id.toNat default)))] TTok hmo Go.Proofs.Tryz.func86 (by kernel_rfl) rfl (by kernel_rfl) ?_
  repeat' (first | refine And.intro ?_ ?_ | exact tf | exact ft | refine tt ?_ | refine ff ?_ | exact ⟨trivial⟩ | exact sAll rfl | exact sF1 rfl | exact sBld (by repeat' (first | exact trivial | rfl | exact Nat.le_of_ble_eq_true rfl | refine And.intro ?_ ?_)) rfl | exact sBS (by repeat' (first | exact trivial | rfl | exact Nat.le_of_ble_eq_true rfl | refine And.intro ?_ ?_)) rfl rfl rfl rfl | exact sBSF (by repeat' (first | exact trivial | rfl | exact Nat.le_of_ble_eq_true rfl | refine And.intro ?_ ?_)) rfl rfl rfl rfl | exact sLe rfl | exact Chk.mk (by kernel_rfl) | exact ⟨Chk.mk (by kernel_rfl)⟩ | exact sLeEq rfl rfl | exact sAnd (by repeat' constructor) (c_l7None' _ hn.cur) | exact sAnd (by repeat' constructor) (c_l6Bal _) | exact sAnd (by repeat' constructor) (c_spec_AccOwner _) | exact sAnd (by repeat' constructor) (c_l6Votes _ (Nat.le_trans hb.1 (by decide)) hb.2) | exact sAnd (by repeat' constructor) (c_spec_CertEntry _ hn.cur) | refine fun h => ?_)
  all_goals try dsimp only at *
  all_goals simp only [List.length_map, beq_iff_eq, beq_eq_false_iff_ne, ne_eq, decide_eq_true_eq, decide_eq_false_iff_not, Bool.not_eq_true', Bool.not_eq_false', bne_iff_ne, bne_eq_false_iff_eq] at *
  all_goals try (exact sRow (by simp only [inr, Bool.and_eq_true, decide_eq_true_eq] at hid; omega) (bool_at hid (by assumption)) rfl)
  all_goals (refine Side.mk ?_)
  all_goals simp_all [leadS]
  all_goals (intro hle; exfalso; omega)
def leadI (n : Node) : Bool :=
  if n.phase = 0 then n.bal == 0 && (n.fro.length : Int) == 0 && (n.best.length : Int) == 0 && (decide (n.cur = zeroE false) && (n.votes.length : Int) == 0) else
  if (!(owner n.bal == n.id) || !decide (n.bal ≤ n.acc.p) || !votesOk n.best) = true then false else
  if n.phase = 1 then marksOk n.fro n.id && (decide (n.cur = zeroE false) && (n.votes.length : Int) == 0) else
  if n.phase = 2 then (n.fro.length : Int) == 0 && (decide (n.cur = zeroE false) && (n.votes.length : Int) == 0) else
  if n.phase = 3 then (n.fro.length : Int) == 0 && entryOk n.cur && marksOk n.votes n.id && decide ((n.known.length : Int) < 40) else false
set_option maxHeartbeats 4000000 in
theorem c_impl_leadOk (n : Node) (hn : n.ok lim) (hid : inr n.id 0 2 = true) : Pure PP false 102 [.agg n.cells] (ob (leadI n)) := by
  obtain ⟨id, ac, kn, sq, ph, ba, fr, be, cu, vo, bu, pr, wa, qu⟩ := n
  have hid : inr id 0 2 = true := hid
  have hb := hn.best
  refine Pure.vc [(8, .res (ob (decide (cu = zeroE false)))), (39, .res (oi (owner ba))), (54, .res (ob (votesOk be))), (65, .res (ob (marksOk fr id))), (81, .res (ob (entryOk cu))), (88, .res (ob (marksOk vo id)))] TTok hmo Go.Proofs.Tryz.func102 (by kernel_rfl) rfl (by kernel_rfl) ?_
  repeat' (first | refine And.intro ?_ ?_ | exact tf | exact ft | refine tt ?_ | refine ff ?_ | exact ⟨trivial⟩ | exact sAll rfl | exact sF1 rfl | exact sBld (by repeat' (first | exact trivial | rfl | exact Nat.le_of_ble_eq_true rfl | refine And.intro ?_ ?_)) rfl | exact sBS (by repeat' (first | exact trivial | rfl | exact Nat.le_of_ble_eq_true rfl | refine And.intro ?_ ?_)) rfl rfl rfl rfl | exact sBSF (by repeat' (first | exact trivial | rfl | exact Nat.le_of_ble_eq_true rfl | refine And.intro ?_ ?_)) rfl rfl rfl rfl | exact sLe rfl | exact Chk.mk (by kernel_rfl) | exact ⟨Chk.mk (by kernel_rfl)⟩ | exact sLeEq rfl rfl | exact sAnd (by repeat' constructor) (c_impl_CertLike _ (zeroE false) hn.cur zeroRun_ok) | exact sAnd (by repeat' constructor) (c_impl_AccOwner _) | exact sAnd (by repeat' constructor) (c_impl_votesOk _ (Nat.le_trans hb.1 (by decide)) hb.2) | exact sAnd (by repeat' constructor) (c_impl_marksOk _ _ hid) | exact sAnd (by repeat' constructor) (c_impl_CertEntry _ hn.cur) | refine fun h => ?_)
  all_goals try dsimp only at *
  all_goals (refine Side.mk ?_)
  all_goals simp only [List.length_map, beq_iff_eq, beq_eq_false_iff_ne, ne_eq, decide_eq_true_eq, decide_eq_false_iff_not, Bool.not_eq_true', Bool.not_eq_false', bne_iff_ne, bne_eq_false_iff_eq] at *
  all_goals simp_all [leadI]
theorem lead_eq (n : Node) (hid : inr n.id 0 2 = true) : leadI n = leadS n := by
  have hO : owner n.bal = n.id → inr n.bal 1 3000 = true := fun h => by
    unfold owner at h
    split at h
    · assumption
    · simp only [inr, Bool.and_eq_true, decide_eq_true_eq] at hid; omega
  unfold leadI leadS marksOk
  by_cases h0 : n.phase = 0
  · simp [h0, Bool.and_assoc]
  by_cases ho : owner n.bal = n.id
  · have hB := hO ho
    rw [hB]
    by_cases h1 : n.phase = 1 <;> by_cases h2 : n.phase = 2 <;> by_cases h3 : n.phase = 3
    all_goals try (exfalso; omega)
    all_goals simp only [h0, h1, h2, h3, if_false, if_true, ho, beq_self_eq_true, Bool.true_and, Bool.not_true, Bool.false_or]
    all_goals (generalize decide (n.bal ≤ n.acc.p) = b1; generalize votesOk n.best = b2; generalize decide (n.cur = zeroE false) = b3; generalize entryOk n.cur = b4; generalize decide ((n.known.length : Int) < 40) = b5)
    all_goals (generalize ((n.fro.length : Int) == 0) = b6; generalize ((n.votes.length : Int) == 0) = b7; generalize ((n.fro.length : Int) == 3) = b8; generalize ((n.votes.length : Int) == 3) = b9; generalize n.fro.getD n.id.toNat default = c1; generalize n.votes.getD n.id.toNat default = c2)
    all_goals (cases b1 <;> cases b2 <;> cases b3 <;> cases b4 <;> cases b6 <;> cases b8 <;> cases c1 <;> simp)
  · have ho' : (owner n.bal == n.id) = false := by simpa using ho
    simp [h0, ho', ho]
def wantsOk (n : Node) : Bool := if n.busy = true then progOk n.prog && entryOk n.want && !n.want.none && decide (n.want.q = ⟨n.id, n.seq⟩) else (n.prog.length : Int) == 0 && decide (n.want = zeroE false)
theorem c_l8Wants (n : Node) (hn : n.ok lim) : Pure PP false 87 [.agg n.cells] (ob (wantsOk n)) := by
  obtain ⟨id, ac, kn, sq, ph, ba, fr, be, cu, vo, bu, pr, ⟨wn, ⟨q1, q2⟩, wr⟩, qu⟩ := n
  refine Pure.vc [(13, .res (ob (decide (Entry.mk wn ⟨q1, q2⟩ wr = zeroE false)))), (17, .res (ob (progOk pr))), (21, .res (ob (entryOk ⟨wn, ⟨q1, q2⟩, wr⟩)))] TTok hmo Go.Proofs.Tryz.func87 (by kernel_rfl) rfl (by kernel_rfl) ?_
  repeat' (first | refine And.intro ?_ ?_ | exact tf | exact ft | refine tt ?_ | refine ff ?_ | exact ⟨trivial⟩ | exact sAll rfl | exact sF1 rfl | exact sBld (by repeat' (first | exact trivial | rfl | exact Nat.le_of_ble_eq_true rfl | refine And.intro ?_ ?_)) rfl | exact sBS (by repeat' (first | exact trivial | rfl | exact Nat.le_of_ble_eq_true rfl | refine And.intro ?_ ?_)) rfl rfl rfl rfl | exact sBSF (by repeat' (first | exact trivial | rfl | exact Nat.le_of_ble_eq_true rfl | refine And.intro ?_ ?_)) rfl rfl rfl rfl | exact sLe rfl | exact Chk.mk (by kernel_rfl) | exact ⟨Chk.mk (by kernel_rfl)⟩ | exact sLeEq rfl rfl | exact sAnd (by repeat' constructor) (c_l7None' ⟨wn, ⟨q1, q2⟩, wr⟩ hn.want) | exact sAnd (by repeat' constructor) (c_spec_ProgOk _ (Nat.le_trans hn.prog (by decide))) | exact sAnd (by repeat' constructor) (c_spec_CertEntry ⟨wn, ⟨q1, q2⟩, wr⟩ hn.want) | refine fun h => ?_)
  all_goals (refine Side.mk ?_; simp_all [wantsOk])
  all_goals first
    | exact ⟨Nat.le_of_ble_eq_true rfl, rfl⟩
    | (rw [Bool.eq_iff_iff]; simp)
theorem all_split {α : Type} [Inhabited α] {f : α → Bool} {xs : List α} {i : Nat} (h : i < xs.length) (he : f (xs.getD i default) = false) : xs.all f = false := all_bad h he
def queueOk (e : Entry) : Bool := entryOk e && !e.none
@[reducible] def nodeA (id : Int) (ac : Acc) (kn : List Entry) (sq ph ba : Int) (fr : List Bool) (be : List Vote) (cu : Entry) (vo : List Bool) (bu : Bool) (pr : List Ins) (wa : Entry) (qu : List Entry) : List MC :=
  [i6 id, i6 ac.p, .ag (ac.votes.map Vote.cells), .ag (kn.map Entry.cells), i6 sq, i6 ph, i6 ba, .ag (fr.map Bool.cells), .ag (be.map Vote.cells), bo cu.none, i6 cu.q.a, i6 cu.q.b, .ag (cu.run.reads.map Two.cells), .ag (cu.run.puts.map Two.cells), i6 cu.run.c, i6 cu.run.d,
    .ag (vo.map Bool.cells), bo bu, .ag (pr.map Ins.cells), bo wa.none, i6 wa.q.a, i6 wa.q.b, .ag (wa.run.reads.map Two.cells), .ag (wa.run.puts.map Two.cells), i6 wa.run.c, i6 wa.run.d, .ag (qu.map Entry.cells)]
def nodeOk (n : Node) : Bool := inr n.id 0 2 && accOk n.acc && entsOk n.known && inr n.seq 0 1000 && decide ((n.queue.length : Int) ≤ 4) && leadS n && wantsOk n && n.queue.all queueOk
set_option maxHeartbeats 8000000 in
theorem c_spec_NodeOk (n : Node) (hn : n.ok lim) : Pure PP false 29 [.agg n.cells] (ob (nodeOk n)) := by
  by_cases hid : inr n.id 0 2 = true
  · have hl8 := c_l8Lead n hn hid
    have hw8 := c_l8Wants n hn
    obtain ⟨lb, hlb⟩ : ∃ lb, leadS n = lb := ⟨_, rfl⟩
    obtain ⟨wb, hwb⟩ : ∃ wb, wantsOk n = wb := ⟨_, rfl⟩
    rw [hlb] at hl8
    rw [hwb] at hw8
    have hN : nodeOk n = (inr n.id 0 2 && accOk n.acc && entsOk n.known && inr n.seq 0 1000 && decide ((n.queue.length : Int) ≤ 4) && lb && wb && n.queue.all queueOk) := by unfold nodeOk; rw [hlb, hwb]
    rw [hN]
    obtain ⟨id, ac, kn, sq, ph, ba, fr, be, cu, vo, bu, pr, wa, qu⟩ := n
    have hid : inr id 0 2 = true := hid
    have hk := hn.known
    have hql : qu.length ≤ 1048576 := hn.queue.1
    have hqu : ∀ v ∈ qu, v.ok lim := hn.queue.2
    refine Pure.vc [(15, .res (ob (accOk ac))), (21, .res (ob (entsOk kn))), (42, .res (ob lb)), (47, .res (ob wb))] TTok hmo Go.Proofs.Tryz.func29 (by kernel_rfl) rfl (by kernel_rfl) ?_
    repeat' (first | refine And.intro ?_ ?_ | exact tf | exact ft | refine tt ?_ | refine ff ?_ | exact ⟨trivial⟩ | exact sAll rfl | exact sF1 rfl | exact sBld (by repeat' (first | exact trivial | rfl | exact Nat.le_of_ble_eq_true rfl | refine And.intro ?_ ?_)) rfl | exact sBS (by repeat' (first | exact trivial | rfl | exact Nat.le_of_ble_eq_true rfl | refine And.intro ?_ ?_)) rfl rfl rfl rfl | exact sBSF (by repeat' (first | exact trivial | rfl | exact Nat.le_of_ble_eq_true rfl | refine And.intro ?_ ?_)) rfl rfl rfl rfl | exact sLe rfl | exact Chk.mk (by kernel_rfl) | exact ⟨Chk.mk (by kernel_rfl)⟩ | exact sLeEq rfl rfl | exact sAnd (by repeat' constructor) (c_spec_AccOk _ hn.acc) | exact sAnd (by repeat' constructor) (c_l8Known _ (Nat.le_trans hk.1 (by decide)) hk.2) | exact sAnd (by repeat' constructor) (hl8) | exact sAnd (by repeat' constructor) (hw8) | refine fun h => ?_)
    all_goals try dsimp only at *
    all_goals try simp only [List.length_map, beq_iff_eq, beq_eq_false_iff_ne, ne_eq, decide_eq_true_eq, decide_eq_false_iff_not, Bool.not_eq_true', Bool.not_eq_false', bne_iff_ne, bne_eq_false_iff_eq] at *
    all_goals try (refine Side.mk ?_; simp_all [inr]; done)
    all_goals try (refine Side.mk ?_; simp_all [inr]; omega)
    refine W.loopC (D := Nat) (fun i => [(60, .row (qu.getD i default).cells), (62, .res (ob (entryOk (qu.getD i default)))), (68, .row (qu.getD i default).cells)]) TTok hmo
      (fun i => ⟨72, 1, [(1, .one (.ptr 0 0 0)), (2, ob false), (3, oi i)], [(0, .box (nodeA id ac kn sq ph ba fr be cu vo bu pr wa qu))]⟩) (fun i => qu.length - i) (fun i => i ≤ qu.length ∧ (qu.take i).all queueOk = true) 0 [] ⟨by omega, by simp⟩ ?_ ?_
    · show subC _ _ _ _
      repeat' (first | exact trivial | exact Side.mk rfl | exact Chk.mk (by kernel_rfl) | exact ⟨Chk.mk (by kernel_rfl)⟩ | refine And.intro ?_ ?_ | rfl)
    · intro i ⟨hi, hp⟩
      clear hN hlb hwb hl8 hw8
      repeat' (first | refine And.intro ?_ ?_ | exact tf | exact ft | refine tt ?_ | refine ff ?_ | exact ⟨trivial⟩ | exact sAll rfl | exact sF1 rfl | exact sBld (by repeat' (first | exact trivial | rfl | exact Nat.le_of_ble_eq_true rfl | refine And.intro ?_ ?_)) rfl | exact sBS (by repeat' (first | exact trivial | rfl | exact Nat.le_of_ble_eq_true rfl | refine And.intro ?_ ?_)) rfl rfl rfl rfl | exact sBSF (by repeat' (first | exact trivial | rfl | exact Nat.le_of_ble_eq_true rfl | refine And.intro ?_ ?_)) rfl rfl rfl rfl | exact sLe rfl | exact Chk.mk (by kernel_rfl) | exact ⟨Chk.mk (by kernel_rfl)⟩ | exact sLeEq rfl rfl | refine fun h => ?_)
      all_goals simp only [decide_eq_true_eq, decide_eq_false_iff_not, List.length_map, Bool.not_eq_true', Bool.not_eq_false', Bool.not_eq_eq_eq_not, Bool.not_true, Bool.not_false, bne_iff_ne, ne_eq, bne_eq_false_iff_eq, beq_iff_eq, beq_eq_false_iff_ne] at *
      · exact sRow (by omega) (row_at qu _ (by omega)) rfl
      · exact sAnd (by repeat' constructor) (c_spec_CertEntry _ (hqu _ (getD_mem (by omega))))
      · exact sRow (by omega) (row_at qu _ (by omega)) rfl
      · refine ⟨?_⟩; have := all_bad (f := queueOk) (xs := qu) (i := i) (by omega) (by simp_all [queueOk]); simp [this]
      · refine ⟨i + 1, [], by omega, ⟨by omega, all_step (by omega) hp (by simp_all [queueOk])⟩, ?_⟩
        repeat' (first | exact trivial | exact Side.mk rfl | exact Chk.mk (by kernel_rfl) | exact ⟨Chk.mk (by kernel_rfl)⟩ | exact ⟨wrap_succ (n := qu.length) (by omega) (by omega)⟩ | refine And.intro ?_ ?_ | rfl)
      · refine ⟨?_⟩; have := all_bad (f := queueOk) (xs := qu) (i := i) (by omega) (by simp_all [queueOk]); simp [this]
      · refine ⟨?_⟩; have := all_end (by omega) hp; simp_all [inr]
  · have hN : nodeOk n = false := by
      have : inr n.id 0 2 = false := by simpa using hid
      simp [nodeOk, this]
    rw [hN]
    obtain ⟨id, ac, kn, sq, ph, ba, fr, be, cu, vo, bu, pr, wa, qu⟩ := n
    have hid : ¬ inr id 0 2 = true := hid
    by_cases h0 : id < 0
    · refine Pure.vc [] TTok hmo Go.Proofs.Tryz.func29 (by kernel_rfl) rfl (by kernel_rfl) ?_
      repeat' (first | refine And.intro ?_ ?_ | exact tf | exact ft | refine tt ?_ | refine ff ?_ | exact fun h => absurd h0 (of_decide_eq_false h) | exact ⟨trivial⟩ | exact sAll rfl | exact sF1 rfl | exact sBld (by repeat' (first | exact trivial | rfl | exact Nat.le_of_ble_eq_true rfl | refine And.intro ?_ ?_)) rfl | exact sBS (by repeat' (first | exact trivial | rfl | exact Nat.le_of_ble_eq_true rfl | refine And.intro ?_ ?_)) rfl rfl rfl rfl | exact sBSF (by repeat' (first | exact trivial | rfl | exact Nat.le_of_ble_eq_true rfl | refine And.intro ?_ ?_)) rfl rfl rfl rfl | exact sLe rfl | exact Chk.mk (by kernel_rfl) | exact ⟨Chk.mk (by kernel_rfl)⟩ | exact sLeEq rfl rfl | refine fun h => ?_)
      all_goals (refine Side.mk ?_; simp)
    have h3 : id ≥ 3 := by
      simp only [inr, Bool.and_eq_true, decide_eq_true_eq] at hid; omega
    refine Pure.vc [] TTok hmo Go.Proofs.Tryz.func29 (by kernel_rfl) rfl (by kernel_rfl) ?_
    repeat' (first | refine And.intro ?_ ?_ | exact tf | exact ft | refine tt ?_ | refine ff ?_ | exact fun h => absurd (of_decide_eq_true h) h0 | exact fun h => absurd h3 (of_decide_eq_false h) | exact ⟨trivial⟩ | exact sAll rfl | exact sF1 rfl | exact sBld (by repeat' (first | exact trivial | rfl | exact Nat.le_of_ble_eq_true rfl | refine And.intro ?_ ?_)) rfl | exact sBS (by repeat' (first | exact trivial | rfl | exact Nat.le_of_ble_eq_true rfl | refine And.intro ?_ ?_)) rfl rfl rfl rfl | exact sBSF (by repeat' (first | exact trivial | rfl | exact Nat.le_of_ble_eq_true rfl | refine And.intro ?_ ?_)) rfl rfl rfl rfl | exact sLe rfl | exact Chk.mk (by kernel_rfl) | exact ⟨Chk.mk (by kernel_rfl)⟩ | exact sLeEq rfl rfl | refine fun h => ?_)
    all_goals (refine Side.mk ?_; simp)
end Mg

/- Helpers of nodes. No condition. -/
namespace Mg
open Go Go.RowKit
set_option maxRecDepth 100000
set_option linter.unusedVariables false
set_option linter.unusedSimpArgs false
attribute [local irreducible] W Pure
theorem Ins.eq_iff {x y : Ins} : x = y ↔ x.kind = y.kind ∧ x.a = y.a ∧ x.b = y.b ∧ x.n = y.n := by
  cases x; cases y; simp
theorem Told.eq_iff {x y : Told} : x = y ↔ x.node = y.node ∧ x.q = y.q ∧ x.code = y.code ∧ x.val = y.val := by
  cases x; cases y; simp

theorem c_toIns (x : Ins) :
    Pure PP false 95 [.agg x.cells] (.agg x.cells) := by
  refine Pure.vc [] TTok hmo Go.Proofs.Tryz.func95 (by kernel_rfl) rfl (by kernel_rfl) ?_
  repeat' (first | refine And.intro ?_ ?_ | exact tf | exact ft | refine tt ?_ | refine ff ?_ | exact ⟨trivial⟩ | exact sLe rfl | exact Chk.mk (by kernel_rfl) | exact ⟨Chk.mk (by kernel_rfl)⟩ | exact sLeEq rfl rfl | refine fun h => ?_)
  all_goals (refine ⟨?_⟩; repeat' (first | exact trivial | exact Nat.le_of_ble_eq_true rfl | rfl | refine And.intro ?_ ?_))

theorem c_eqIns (x y : Ins)  :
    Pure PP false 112 [.agg x.cells, .agg y.cells] (ob (decide (x = y))) := by
  obtain ⟨k, a, b, n⟩ := x
  obtain ⟨k', a', b', n'⟩ := y
  refine Pure.vc [] TTok hmo Go.Proofs.Tryz.func112 (by kernel_rfl) rfl (by kernel_rfl) ?_
  repeat' (first | refine And.intro ?_ ?_ | exact tf | exact ft | refine tt ?_ | refine ff ?_ | exact ⟨trivial⟩ | exact sLe rfl | exact Chk.mk (by kernel_rfl) | exact ⟨Chk.mk (by kernel_rfl)⟩ | exact sLeEq rfl rfl | refine fun h => ?_)
  all_goals (refine ⟨?_⟩; simp_all)
  all_goals rfl

theorem c_eqInsS (xs ys : List Ins) (hx : xs.length ≤ maxLen) (hy : ys.length ≤ maxLen)  :
    Pure PP false 44 [.one (.fz (xs.map Ins.cells)), .one (.fz (ys.map Ins.cells))] (ob (decide (xs = ys))) := by
  refine Pure.vc [] TTok hmo Go.Proofs.Tryz.func44 (by kernel_rfl) rfl (by kernel_rfl) ?_
  repeat' (first | refine And.intro ?_ ?_ | exact tf | exact ft | refine tt ?_ | refine ff ?_ | exact ⟨trivial⟩ | exact sLe rfl | exact Chk.mk (by kernel_rfl) | exact ⟨Chk.mk (by kernel_rfl)⟩ | exact sLeEq rfl rfl | refine fun h => ?_)
  · refine ⟨?_⟩
    simp at *
    intro e; subst e; simp at h
  · have hl : xs.length = ys.length := by simp at h; omega
    unfold maxLen at hx hy
    refine W.loopC (D := Nat) (fun i => [(19, .row (xs.getD i default).cells), (23, .row (ys.getD i default).cells), (25, .res (ob (decide (xs.getD i default = ys.getD i default))))]) TTok hmo
      (fun i => ⟨27, 0, [(0, .one (.ag (xs.map Ins.cells))), (1, .one (.ag (ys.map Ins.cells))), (4, ob false), (5, oi i)], []⟩) (fun i => xs.length - i) (fun i => i ≤ xs.length ∧ xs.take i = ys.take i) 0 [] ⟨by omega, by simp⟩ ?_ ?_
    · repeat' (first | exact trivial | exact ⟨rfl⟩ | exact Chk.mk (by kernel_rfl) | refine And.intro ?_ ?_ | rfl)
    · intro i ⟨hi, hp⟩
      repeat' (first | refine And.intro ?_ ?_ | exact tf | exact ft | refine tt ?_ | refine ff ?_ | exact ⟨trivial⟩ | exact sLe rfl | exact Chk.mk (by kernel_rfl) | exact ⟨Chk.mk (by kernel_rfl)⟩ | exact sLeEq rfl rfl | exact sAnd (by repeat' constructor) (c_eqIns _ _) | refine fun h => ?_)
      all_goals simp only [decide_eq_true_eq, decide_eq_false_iff_not, List.length_map, Bool.not_eq_true', Bool.not_eq_false', Bool.not_eq_eq_eq_not, Bool.not_true, Bool.not_false] at *
      · exact sRow (by omega) (row_at xs _ (by omega)) rfl
      · exact sRow (by omega) (row_at ys _ (by omega)) rfl
      · refine ⟨?_⟩
        simp
        intro e; subst e; contradiction
      · refine ⟨i + 1, [], by omega, ⟨by omega, eq_upto hl (by omega) hp (by assumption)⟩, ?_⟩
        repeat' (first | exact trivial | exact ⟨rfl⟩ | exact Chk.mk (by kernel_rfl) | refine And.intro ?_ ?_ | rfl)
        exact ⟨by rw [wrapi] <;> omega⟩
      · refine ⟨?_⟩
        simp
        exact eq_all hl (by omega) hp

theorem c_toInsS (xs : List Ins) (hx : xs.length ≤ lim)  :
    Pure PP false 36 [.one (.fz (xs.map Ins.cells))] (.one (.fz (xs.map Ins.cells))) := by
  have hx0 : xs.length ≤ 1048576 := hx
  refine Pure.vc [] TTok hmo Go.Proofs.Tryz.func36 (by kernel_rfl) rfl (by kernel_rfl) ?_
  repeat' (first | refine And.intro ?_ ?_ | exact tf | exact ft | refine tt ?_ | refine ff ?_ | exact ⟨trivial⟩ | exact sLe rfl | exact Chk.mk (by kernel_rfl) | exact ⟨Chk.mk (by kernel_rfl)⟩ | exact sLeEq rfl rfl | refine fun h => ?_)
  · refine ⟨?_⟩
    simp at *
    omega
  · refine W.loopC (D := Nat) (fun i => [(18, .row (xs.getD i default).cells), (20, .res (.agg (xs.getD i default).cells))]) TTok hmo
      (fun i => ⟨23, 1, [(0, .one (.ag (xs.map Ins.cells))), (2, .one .nil), (3, .one (.ref 0 0 xs.length)), (4, oi i)], [(0, .arr (part Ins.cells [i6 0, i6 0, i6 0, i6 0] xs i))]⟩) (fun i => xs.length - i) (fun i => i ≤ xs.length) 0 [] (by omega) ?_ ?_
    · repeat' (first | exact trivial | exact ⟨rfl⟩ | exact Chk.mk (by kernel_rfl) | exact sPart0 (by simp) | exact sFlat Ins.flat rfl | refine And.intro ?_ ?_ | rfl)
      all_goals exact ⟨by simp⟩
    · intro i hi
      repeat' (first | refine And.intro ?_ ?_ | exact tf | exact ft | refine tt ?_ | refine ff ?_ | exact ⟨trivial⟩ | exact sLe rfl | exact Chk.mk (by kernel_rfl) | exact ⟨Chk.mk (by kernel_rfl)⟩ | exact sLeEq rfl rfl | exact sAnd (by repeat' constructor) (c_toIns _) | refine fun h => ?_)
      all_goals simp only [decide_eq_true_eq, decide_eq_false_iff_not, List.length_map] at *
      · exact sRow (by omega) (row_at xs _ (by omega)) rfl
      · exact sIdx (by omega) rfl rfl
      · exact sPut (by omega) rfl rfl
      · refine ⟨i + 1, [], by omega, by omega, ?_⟩
        repeat' (first | exact trivial | exact ⟨rfl⟩ | exact Chk.mk (by kernel_rfl) | exact ⟨wrap_succ (n := xs.length) (by omega) (by omega)⟩ | exact sPartS (by omega) rfl | exact sFlat Ins.flat rfl | refine And.intro ?_ ?_ | rfl)
      · refine ⟨⟨trivial, trivial⟩, ⟨part_end (by omega) rfl, ?_⟩, trivial⟩
        show AllF _
        rw [part_all (by omega)]
        exact map_frz Ins.frz

theorem c_eqEntryS (xs ys : List Entry) (hx : xs.length ≤ maxLen) (hy : ys.length ≤ maxLen) (hvx : ∀ v ∈ xs, v.ok lim) (hvy : ∀ v ∈ ys, v.ok lim) :
    Pure PP false 40 [.one (.fz (xs.map Entry.cells)), .one (.fz (ys.map Entry.cells))] (ob (decide (xs = ys))) := by
  refine Pure.vc [] TTok hmo Go.Proofs.Tryz.func40 (by kernel_rfl) rfl (by kernel_rfl) ?_
  repeat' (first | refine And.intro ?_ ?_ | exact tf | exact ft | refine tt ?_ | refine ff ?_ | exact ⟨trivial⟩ | exact sLe rfl | exact Chk.mk (by kernel_rfl) | exact ⟨Chk.mk (by kernel_rfl)⟩ | exact sLeEq rfl rfl | refine fun h => ?_)
  · refine ⟨?_⟩
    simp at *
    intro e; subst e; simp at h
  · have hl : xs.length = ys.length := by simp at h; omega
    unfold maxLen at hx hy
    refine W.loopC (D := Nat) (fun i => [(19, .row (xs.getD i default).cells), (23, .row (ys.getD i default).cells), (25, .res (ob (decide (xs.getD i default = ys.getD i default))))]) TTok hmo
      (fun i => ⟨27, 0, [(0, .one (.ag (xs.map Entry.cells))), (1, .one (.ag (ys.map Entry.cells))), (4, ob false), (5, oi i)], []⟩) (fun i => xs.length - i) (fun i => i ≤ xs.length ∧ xs.take i = ys.take i) 0 [] ⟨by omega, by simp⟩ ?_ ?_
    · repeat' (first | exact trivial | exact ⟨rfl⟩ | exact Chk.mk (by kernel_rfl) | refine And.intro ?_ ?_ | rfl)
    · intro i ⟨hi, hp⟩
      repeat' (first | refine And.intro ?_ ?_ | exact tf | exact ft | refine tt ?_ | refine ff ?_ | exact ⟨trivial⟩ | exact sLe rfl | exact Chk.mk (by kernel_rfl) | exact ⟨Chk.mk (by kernel_rfl)⟩ | exact sLeEq rfl rfl | refine fun h => ?_)
      all_goals simp only [decide_eq_true_eq, decide_eq_false_iff_not, List.length_map, Bool.not_eq_true', Bool.not_eq_false', Bool.not_eq_eq_eq_not, Bool.not_true, Bool.not_false] at *
      · exact sRow (by omega) (row_at xs _ (by omega)) rfl
      · exact sRow (by omega) (row_at ys _ (by omega)) rfl
      · exact sAnd (by repeat' constructor) (c_eqEntry _ _ (hvx _ (getD_mem (by omega))) (hvy _ (getD_mem (by omega))))
      · refine ⟨?_⟩
        simp
        intro e; subst e; contradiction
      · refine ⟨i + 1, [], by omega, ⟨by omega, eq_upto hl (by omega) hp (by assumption)⟩, ?_⟩
        repeat' (first | exact trivial | exact ⟨rfl⟩ | exact Chk.mk (by kernel_rfl) | refine And.intro ?_ ?_ | rfl)
        exact ⟨by rw [wrapi] <;> omega⟩
      · refine ⟨?_⟩
        simp
        exact eq_all hl (by omega) hp

theorem c_toEntryS (xs : List Entry) (hx : xs.length ≤ lim) (hv : ∀ v ∈ xs, v.ok lim) :
    Pure PP false 32 [.one (.fz (xs.map Entry.cells))] (.one (.fz (xs.map Entry.cells))) := by
  have hx0 : xs.length ≤ 1048576 := hx
  refine Pure.vc [] TTok hmo Go.Proofs.Tryz.func32 (by kernel_rfl) rfl (by kernel_rfl) ?_
  repeat' (first | refine And.intro ?_ ?_ | exact tf | exact ft | refine tt ?_ | refine ff ?_ | exact ⟨trivial⟩ | exact sLe rfl | exact Chk.mk (by kernel_rfl) | exact ⟨Chk.mk (by kernel_rfl)⟩ | exact sLeEq rfl rfl | refine fun h => ?_)
  · refine ⟨?_⟩
    simp at *
    omega
  · refine W.loopC (D := Nat) (fun i => [(18, .row (xs.getD i default).cells), (20, .res (.agg (xs.getD i default).cells))]) TTok hmo
      (fun i => ⟨23, 1, [(0, .one (.ag (xs.map Entry.cells))), (2, .one .nil), (3, .one (.ref 0 0 xs.length)), (4, oi i)], [(0, .arr (part Entry.cells [bo false, i6 0, i6 0, .nil, .nil, i6 0, i6 0] xs i))]⟩) (fun i => xs.length - i) (fun i => i ≤ xs.length) 0 [] (by omega) ?_ ?_
    · repeat' (first | exact trivial | exact ⟨rfl⟩ | exact Chk.mk (by kernel_rfl) | exact sPart0 (by simp) | exact sFlat Entry.flat rfl | refine And.intro ?_ ?_ | rfl)
      all_goals exact ⟨by simp⟩
    · intro i hi
      repeat' (first | refine And.intro ?_ ?_ | exact tf | exact ft | refine tt ?_ | refine ff ?_ | exact ⟨trivial⟩ | exact sLe rfl | exact Chk.mk (by kernel_rfl) | exact ⟨Chk.mk (by kernel_rfl)⟩ | exact sLeEq rfl rfl | refine fun h => ?_)
      all_goals simp only [decide_eq_true_eq, decide_eq_false_iff_not, List.length_map] at *
      · exact sRow (by omega) (row_at xs _ (by omega)) rfl
      · exact sAnd (by repeat' constructor) (c_toEntry _ (hv _ (getD_mem (by omega))))
      · exact sIdx (by omega) rfl rfl
      · exact sPut (by omega) rfl rfl
      · refine ⟨i + 1, [], by omega, by omega, ?_⟩
        repeat' (first | exact trivial | exact ⟨rfl⟩ | exact Chk.mk (by kernel_rfl) | exact ⟨wrap_succ (n := xs.length) (by omega) (by omega)⟩ | exact sPartS (by omega) rfl | exact sFlat Entry.flat rfl | refine And.intro ?_ ?_ | rfl)
      · refine ⟨⟨trivial, trivial⟩, ⟨part_end (by omega) rfl, ?_⟩, trivial⟩
        show AllF _
        rw [part_all (by omega)]
        exact map_frz Entry.frz

theorem c_toBoolS (xs : List Bool) (hx : xs.length ≤ lim)  :
    Pure PP false 33 [.one (.fz (xs.map Bool.cells))] (.one (.fz (xs.map Bool.cells))) := by
  have hx0 : xs.length ≤ 1048576 := hx
  refine Pure.vc [] TTok hmo Go.Proofs.Tryz.func33 (by kernel_rfl) rfl (by kernel_rfl) ?_
  repeat' (first | refine And.intro ?_ ?_ | exact tf | exact ft | refine tt ?_ | refine ff ?_ | exact ⟨trivial⟩ | exact sLe rfl | exact Chk.mk (by kernel_rfl) | exact ⟨Chk.mk (by kernel_rfl)⟩ | exact sLeEq rfl rfl | refine fun h => ?_)
  · refine ⟨?_⟩
    simp at *
    omega
  · refine W.loopC (D := Nat) (fun i => [(18, .row (Bool.cells (xs.getD i default)))]) TTok hmo
      (fun i => ⟨22, 1, [(0, .one (.ag (xs.map Bool.cells))), (2, .one .nil), (3, .one (.ref 0 0 xs.length)), (4, oi i)], [(0, .arr (part Bool.cells [bo false] xs i))]⟩) (fun i => xs.length - i) (fun i => i ≤ xs.length) 0 [] (by omega) ?_ ?_
    · repeat' (first | exact trivial | exact ⟨rfl⟩ | exact Chk.mk (by kernel_rfl) | exact sPart0 (by simp) | exact sFlat Bool.flat rfl | refine And.intro ?_ ?_ | rfl)
      all_goals exact ⟨by simp⟩
    · intro i hi
      repeat' (first | refine And.intro ?_ ?_ | exact tf | exact ft | refine tt ?_ | refine ff ?_ | exact ⟨trivial⟩ | exact sAll rfl | exact sF1 rfl | exact sBld (by repeat' (first | exact trivial | rfl | exact Nat.le_of_ble_eq_true rfl | refine And.intro ?_ ?_)) rfl | exact sBS (by repeat' (first | exact trivial | rfl | exact Nat.le_of_ble_eq_true rfl | refine And.intro ?_ ?_)) rfl rfl rfl rfl | exact sBSF (by repeat' (first | exact trivial | rfl | exact Nat.le_of_ble_eq_true rfl | refine And.intro ?_ ?_)) rfl rfl rfl rfl | exact sLe rfl | exact Chk.mk (by kernel_rfl) | exact ⟨Chk.mk (by kernel_rfl)⟩ | exact sLeEq rfl rfl | refine fun h => ?_)
      all_goals simp only [decide_eq_true_eq, decide_eq_false_iff_not, List.length_map] at *
      · exact sRow (by omega) (row_at xs _ (by omega)) rfl
      · exact sIdx (by omega) rfl rfl
      · exact sPut (by omega) rfl rfl
      · refine ⟨i + 1, [], by omega, by omega, ?_⟩
        repeat' (first | exact trivial | exact ⟨rfl⟩ | exact Chk.mk (by kernel_rfl) | exact ⟨wrap_succ (n := xs.length) (by omega) (by omega)⟩ | exact sPartS (by omega) rfl | exact sFlat Bool.flat rfl | refine And.intro ?_ ?_ | rfl)
      · refine ⟨⟨trivial, trivial⟩, ⟨part_end (by omega) rfl, ?_⟩, trivial⟩
        show AllF _
        rw [part_all (by omega)]
        exact map_frz Bool.frz

theorem c_eqBoolS (xs ys : List Bool) (hx : xs.length ≤ maxLen) (hy : ys.length ≤ maxLen)  : Pure PP false 41 [.one (.fz (xs.map Bool.cells)), .one (.fz (ys.map Bool.cells))] (ob (decide (xs = ys))) := by
  refine Pure.vc [] TTok hmo Go.Proofs.Tryz.func41 (by kernel_rfl) rfl (by kernel_rfl) ?_
  repeat' (first | refine And.intro ?_ ?_ | exact tf | exact ft | refine tt ?_ | refine ff ?_ | exact ⟨trivial⟩ | exact sLe rfl | exact Chk.mk (by kernel_rfl) | exact ⟨Chk.mk (by kernel_rfl)⟩ | exact sLeEq rfl rfl | refine fun h => ?_)
  · refine ⟨?_⟩
    simp at *
    intro e; subst e; simp at h
  · have hl : xs.length = ys.length := by simp at h; omega
    unfold maxLen at hx hy
    refine W.loopC (D := Nat) (fun i => [(19, .row (Bool.cells (xs.getD i default))), (23, .row (Bool.cells (ys.getD i default)))]) TTok hmo
      (fun i => ⟨26, 0, [(0, .one (.ag (xs.map Bool.cells))), (1, .one (.ag (ys.map Bool.cells))), (4, ob false), (5, oi i)], []⟩) (fun i => xs.length - i) (fun i => i ≤ xs.length ∧ xs.take i = ys.take i) 0 [] ⟨by omega, by simp⟩ ?_ ?_
    · repeat' (first | exact trivial | exact ⟨rfl⟩ | exact Chk.mk (by kernel_rfl) | refine And.intro ?_ ?_ | rfl)
      all_goals exact ⟨by simp⟩
    · intro i ⟨hi, hp⟩
      repeat' (first | refine And.intro ?_ ?_ | exact tf | exact ft | refine tt ?_ | refine ff ?_ | exact ⟨trivial⟩ | exact sLe rfl | exact Chk.mk (by kernel_rfl) | exact ⟨Chk.mk (by kernel_rfl)⟩ | exact sLeEq rfl rfl | refine fun h => ?_)
      all_goals simp only [decide_eq_true_eq, decide_eq_false_iff_not, List.length_map, Bool.not_eq_true', Bool.not_eq_false', Bool.not_eq_eq_eq_not, Bool.not_true, Bool.not_false, bne_iff_ne, ne_eq, bne_eq_false_iff_eq] at *
      · exact sRow (by omega) (row_at xs _ (by omega)) rfl
      · exact sRow (by omega) (row_at ys _ (by omega)) rfl
      · refine ⟨?_⟩
        simp
        intro e; subst e; simp_all
      · refine ⟨i + 1, [], by omega, ⟨by omega, eq_upto hl (by omega) hp (by simp_all [])⟩, ?_⟩
        repeat' (first | exact trivial | exact ⟨rfl⟩ | exact Chk.mk (by kernel_rfl) | exact ⟨wrap_succ (n := xs.length) (by omega) (by omega)⟩ | refine And.intro ?_ ?_ | rfl)
      · refine ⟨?_⟩
        simp
        exact eq_all hl (by omega) hp

theorem c_toNode (x : Node) (hx : x.ok lim) :
    Pure PP false 8 [.agg x.cells] (.agg x.cells) := by
  refine Pure.vc [(9, .res (.agg x.acc.cells)), (13, .res (.one (.fz (x.known.map Entry.cells)))), (26, .res (.one (.fz (x.fro.map Bool.cells)))), (30, .res (.one (.fz (x.best.map Vote.cells)))), (34, .res (.agg x.cur.cells)), (38, .res (.one (.fz (x.votes.map Bool.cells)))), (45, .res (.one (.fz (x.prog.map Ins.cells)))), (49, .res (.agg x.want.cells)), (53, .res (.one (.fz (x.queue.map Entry.cells))))] TTok hmo Go.Proofs.Tryz.func8 (by kernel_rfl) rfl (by kernel_rfl) ?_
  repeat' (first | refine And.intro ?_ ?_ | exact tf | exact ft | refine tt ?_ | refine ff ?_ | exact ⟨trivial⟩ | exact sLe rfl | exact Chk.mk (by kernel_rfl) | exact ⟨Chk.mk (by kernel_rfl)⟩ | exact sLeEq rfl rfl | exact sAnd (by repeat' constructor) (c_toAcc _ hx.acc) | exact sAnd (by repeat' constructor) (c_toEntryS _ hx.known.1 hx.known.2) | exact sAnd (by repeat' constructor) (c_toBoolS _ hx.fro) | exact sAnd (by repeat' constructor) (c_toVoteS _ hx.best.1 hx.best.2) | exact sAnd (by repeat' constructor) (c_toEntry _ hx.cur) | exact sAnd (by repeat' constructor) (c_toBoolS _ hx.votes) | exact sAnd (by repeat' constructor) (c_toInsS _ hx.prog) | exact sAnd (by repeat' constructor) (c_toEntry _ hx.want) | exact sAnd (by repeat' constructor) (c_toEntryS _ hx.queue.1 hx.queue.2) | refine fun h => ?_)
  all_goals (refine ⟨?_⟩; repeat' (first | exact trivial | exact Nat.le_of_ble_eq_true rfl | rfl | refine And.intro ?_ ?_))

theorem c_eqNode (x y : Node) (hx : x.ok lim) (hy : y.ok lim) :
    Pure PP false 10 [.agg x.cells, .agg y.cells] (ob (decide (x = y))) := by
  obtain ⟨id, ac, kn, sq, ph, ba, fr, be, cu, vo, bu, pr, wa, qu⟩ := x
  obtain ⟨id', ac', kn', sq', ph', ba', fr', be', cu', vo', bu', pr', wa', qu'⟩ := y
  refine Pure.vc [(14, .res (ob (decide (ac = ac')))), (20, .res (ob (decide (kn = kn')))), (41, .res (ob (decide (fr = fr')))), (47, .res (ob (decide (be = be')))), (53, .res (ob (decide (cu = cu')))), (59, .res (ob (decide (vo = vo')))), (70, .res (ob (decide (pr = pr')))), (76, .res (ob (decide (wa = wa')))), (82, .res (ob (decide (qu = qu'))))] TTok hmo Go.Proofs.Tryz.func10 (by kernel_rfl) rfl (by kernel_rfl) ?_
  repeat' (first | refine And.intro ?_ ?_ | exact tf | exact ft | refine tt ?_ | refine ff ?_ | exact ⟨trivial⟩ | exact sLe rfl | exact Chk.mk (by kernel_rfl) | exact ⟨Chk.mk (by kernel_rfl)⟩ | exact sLeEq rfl rfl | exact sAnd (by repeat' constructor) (c_eqAcc _ _ hx.acc hy.acc) | exact sAnd (by repeat' constructor) (c_eqEntryS _ _ (Nat.le_trans hx.known.1 (by decide)) (Nat.le_trans hy.known.1 (by decide)) hx.known.2 hy.known.2) | exact sAnd (by repeat' constructor) (c_eqBoolS _ _ (Nat.le_trans hx.fro (by decide)) (Nat.le_trans hy.fro (by decide))) | exact sAnd (by repeat' constructor) (c_eqVoteS _ _ (Nat.le_trans hx.best.1 (by decide)) (Nat.le_trans hy.best.1 (by decide)) hx.best.2 hy.best.2) | exact sAnd (by repeat' constructor) (c_eqEntry _ _ hx.cur hy.cur) | exact sAnd (by repeat' constructor) (c_eqBoolS _ _ (Nat.le_trans hx.votes (by decide)) (Nat.le_trans hy.votes (by decide))) | exact sAnd (by repeat' constructor) (c_eqInsS _ _ (Nat.le_trans hx.prog (by decide)) (Nat.le_trans hy.prog (by decide))) | exact sAnd (by repeat' constructor) (c_eqEntry _ _ hx.want hy.want) | exact sAnd (by repeat' constructor) (c_eqEntryS _ _ (Nat.le_trans hx.queue.1 (by decide)) (Nat.le_trans hy.queue.1 (by decide)) hx.queue.2 hy.queue.2) | refine fun h => ?_)
  all_goals (refine ⟨?_⟩; simp_all)
  all_goals rfl

end Mg

/- Sizes of nodes. No condition. -/
namespace Mg
open Go Go.RowKit
set_option maxRecDepth 100000
set_option linter.unusedVariables false
set_option linter.unusedSimpArgs false
attribute [local irreducible] W Pure
theorem c_szBoolS (xs : List Bool) (l : Int) (h0 : 0 ≤ l) (h1 : l ≤ lim) (hx : xs.length ≤ maxLen) : Pure PP false 25 [.one (.fz (xs.map Bool.cells)), oi l] (oi (szT xs.length l)) := by
  have hw : IntKind.i64.wrap (l - ((xs.map Bool.cells).length : Int)) = l - xs.length := by
    unfold maxLen at hx; unfold lim at h1; rw [List.length_map, wrapi] <;> omega
  refine Pure.vc [] TTok hmo Go.Proofs.Tryz.func25 (by kernel_rfl) rfl (by kernel_rfl) ?_
  repeat' (first | refine And.intro ?_ ?_ | exact tf | exact ft | refine tt ?_ | refine ff ?_ | exact ⟨trivial⟩ | exact sAll rfl | exact sF1 rfl | exact sBld (by repeat' (first | exact trivial | rfl | exact Nat.le_of_ble_eq_true rfl | refine And.intro ?_ ?_)) rfl | exact sBS (by repeat' (first | exact trivial | rfl | exact Nat.le_of_ble_eq_true rfl | refine And.intro ?_ ?_)) rfl rfl rfl rfl | exact sBSF (by repeat' (first | exact trivial | rfl | exact Nat.le_of_ble_eq_true rfl | refine And.intro ?_ ?_)) rfl rfl rfl rfl | exact sLe rfl | exact Chk.mk (by kernel_rfl) | exact ⟨Chk.mk (by kernel_rfl)⟩ | exact sLeEq rfl rfl | refine fun h => ?_)
  all_goals (rw [hw] at h; refine ⟨?_⟩; simp_all [szT, sg])
  omega

theorem c_szInsS (xs : List Ins) (l : Int) (h0 : 0 ≤ l) (h1 : l ≤ lim) (hx : xs.length ≤ maxLen) : Pure PP false 28 [.one (.fz (xs.map Ins.cells)), oi l] (oi (szT xs.length l)) := by
  have hw : IntKind.i64.wrap (l - ((xs.map Ins.cells).length : Int)) = l - xs.length := by
    unfold maxLen at hx; unfold lim at h1; rw [List.length_map, wrapi] <;> omega
  refine Pure.vc [] TTok hmo Go.Proofs.Tryz.func28 (by kernel_rfl) rfl (by kernel_rfl) ?_
  repeat' (first | refine And.intro ?_ ?_ | exact tf | exact ft | refine tt ?_ | refine ff ?_ | exact ⟨trivial⟩ | exact sAll rfl | exact sF1 rfl | exact sBld (by repeat' (first | exact trivial | rfl | exact Nat.le_of_ble_eq_true rfl | refine And.intro ?_ ?_)) rfl | exact sBS (by repeat' (first | exact trivial | rfl | exact Nat.le_of_ble_eq_true rfl | refine And.intro ?_ ?_)) rfl rfl rfl rfl | exact sBSF (by repeat' (first | exact trivial | rfl | exact Nat.le_of_ble_eq_true rfl | refine And.intro ?_ ?_)) rfl rfl rfl rfl | exact sLe rfl | exact Chk.mk (by kernel_rfl) | exact ⟨Chk.mk (by kernel_rfl)⟩ | exact sLeEq rfl rfl | refine fun h => ?_)
  all_goals (rw [hw] at h; refine ⟨?_⟩; simp_all [szT, sg])
  omega

theorem c_szEntryS (xs : List Entry) (l : Int) (h0 : 0 ≤ l) (h1 : l ≤ lim) (hx : xs.length ≤ maxLen) (hv : ∀ v ∈ xs, v.ok maxLen) : Pure PP false 24 [.one (.fz (xs.map Entry.cells)), oi l] (oi (szS szEntry xs l)) := by
  have hw : IntKind.i64.wrap (l - ((xs.map Entry.cells).length : Int)) = l - xs.length := by
    unfold maxLen at hx; unfold lim at h1; rw [List.length_map, wrapi] <;> omega
  have hx' : xs.length ≤ 9223372036854775807 := hx
  refine Pure.vc [] TTok hmo Go.Proofs.Tryz.func24 (by kernel_rfl) rfl (by kernel_rfl) ?_
  repeat' (first | refine And.intro ?_ ?_ | exact tf | exact ft | refine tt ?_ | refine ff ?_ | exact ⟨trivial⟩ | exact sAll rfl | exact sF1 rfl | exact sBld (by repeat' (first | exact trivial | rfl | exact Nat.le_of_ble_eq_true rfl | refine And.intro ?_ ?_)) rfl | exact sBS (by repeat' (first | exact trivial | rfl | exact Nat.le_of_ble_eq_true rfl | refine And.intro ?_ ?_)) rfl rfl rfl rfl | exact sBSF (by repeat' (first | exact trivial | rfl | exact Nat.le_of_ble_eq_true rfl | refine And.intro ?_ ?_)) rfl rfl rfl rfl | exact sLe rfl | exact Chk.mk (by kernel_rfl) | exact ⟨Chk.mk (by kernel_rfl)⟩ | exact sLeEq rfl rfl | refine fun h => ?_)
  · rw [hw] at h; refine ⟨?_⟩; simp_all [szS, thenI]
  · rw [hw] at h
    simp only [decide_eq_false_iff_not] at h
    refine W.loopC (D := Nat × Int) (fun d => [(20, .row (xs.getD d.1 default).cells), (23, .res (oi (szEntry (xs.getD d.1 default) d.2)))]) TTok hmo
      (fun d => ⟨27, 0, [(0, .one (.ag (xs.map Entry.cells))), (1, oi d.2), (4, oi 0), (5, oi d.1)], []⟩) (fun d => xs.length - d.1) (fun d => d.1 ≤ xs.length ∧ 0 ≤ d.2 ∧ d.2 ≤ lim ∧ szS szEntry xs l = szL szEntry (xs.drop d.1) d.2) (0, l - xs.length) [] ⟨by simp, by simp only; omega, by simp only; omega, by simp [szS, thenI]; omega⟩ ?_ ?_
    · repeat' (first | exact trivial | exact ⟨rfl⟩ | exact Chk.mk (by kernel_rfl) | refine And.intro ?_ ?_ | rfl)
      exact ⟨hw.symm⟩
    · intro ⟨i, a⟩ ⟨hi, ha0, ha1, hp⟩
      simp only at hi ha0 ha1 hp
      repeat' (first | refine And.intro ?_ ?_ | exact tf | exact ft | refine tt ?_ | refine ff ?_ | exact ⟨trivial⟩ | exact sAll rfl | exact sF1 rfl | exact sBld (by repeat' (first | exact trivial | rfl | exact Nat.le_of_ble_eq_true rfl | refine And.intro ?_ ?_)) rfl | exact sBS (by repeat' (first | exact trivial | rfl | exact Nat.le_of_ble_eq_true rfl | refine And.intro ?_ ?_)) rfl rfl rfl rfl | exact sBSF (by repeat' (first | exact trivial | rfl | exact Nat.le_of_ble_eq_true rfl | refine And.intro ?_ ?_)) rfl rfl rfl rfl | exact sLe rfl | exact Chk.mk (by kernel_rfl) | exact ⟨Chk.mk (by kernel_rfl)⟩ | exact sLeEq rfl rfl | refine fun h => ?_)
      all_goals simp only [decide_eq_true_eq, decide_eq_false_iff_not, List.length_map] at *
      · exact sRow (by omega) (row_at xs _ (by omega)) rfl
      · exact sAnd (by repeat' constructor) (c_szEntry _ _ ha0 ha1 (hv _ (getD_mem (by omega))))
      · rw [szL_step _ _ _ (by omega)] at hp
        refine ⟨?_⟩; simp_all [thenI]
      · rw [szL_step _ _ _ (by omega)] at hp
        have hle := (szOk_entry (xs.getD i default)).le _ ha0
        refine ⟨(i + 1, szEntry (xs.getD i default) a), [], by simp only; omega, ⟨by simp only; omega, by simp only; omega, by simp only; omega, by simp only; rw [hp, thenI, if_neg (by assumption)]⟩, ?_⟩
        repeat' (first | exact trivial | exact ⟨rfl⟩ | exact Chk.mk (by kernel_rfl) | exact ⟨wrap_succ (n := xs.length) (by omega) (by omega)⟩ | refine And.intro ?_ ?_ | rfl)
      · rw [List.drop_eq_nil_of_le (by omega)] at hp
        refine ⟨?_⟩; simp_all [szL]

set_option maxHeartbeats 2000000 in
theorem c_szNode (x : Node) (l : Int) (h0 : 0 ≤ l) (h1 : l ≤ lim) (hx : x.ok maxLen) : Pure PP false 6 [.agg x.cells, oi l] (oi (szNode x l)) := by
  have h1' : l ≤ 1048576 := h1
  obtain ⟨l1, k1⟩ : ∃ l1, szAcc x.acc l = l1 := ⟨_, rfl⟩
  have e1 :  l1 ≤ l := k1 ▸ (szOk_acc x.acc).le l h0
  have c1 :=  c_szAcc _ l h0 h1 hx.acc
  simp only [k1] at c1
  obtain ⟨l2, k2⟩ : ∃ l2, szS szEntry x.known l1 = l2 := ⟨_, rfl⟩
  have e2 : ∀ (g1 : 0 ≤ l1), l2 ≤ l1 := fun g1 => k2 ▸ (szOk_entries x.known).le l1 g1
  have c2 := fun (g1 : 0 ≤ l1) => c_szEntryS _ l1 g1 (show (l1 : Int) ≤ 1048576 by have := e1; omega) hx.known.1 hx.known.2
  simp only [k2] at c2
  obtain ⟨l3, k3⟩ : ∃ l3, szT x.fro.length l2 = l3 := ⟨_, rfl⟩
  have e3 : ∀ (g1 : 0 ≤ l1) (g2 : 0 ≤ l2), l3 ≤ l2 := fun g1 g2 => k3 ▸ (szOk_T x.fro.length).le l2 g2
  have c3 := fun (g1 : 0 ≤ l1) (g2 : 0 ≤ l2) => c_szBoolS _ l2 g2 (show (l2 : Int) ≤ 1048576 by have := e1; have := e2 g1; omega) hx.fro
  simp only [k3] at c3
  obtain ⟨l4, k4⟩ : ∃ l4, szVoteS x.best l3 = l4 := ⟨_, rfl⟩
  have e4 : ∀ (g1 : 0 ≤ l1) (g2 : 0 ≤ l2) (g3 : 0 ≤ l3), l4 ≤ l3 := fun g1 g2 g3 => k4 ▸ (szOk_votes x.best).le l3 g3
  have c4 := fun (g1 : 0 ≤ l1) (g2 : 0 ≤ l2) (g3 : 0 ≤ l3) => c_szVoteS _ l3 g3 (show (l3 : Int) ≤ 1048576 by have := e1; have := e2 g1; have := e3 g1 g2; omega) hx.best.1 hx.best.2
  simp only [k4] at c4
  obtain ⟨l5, k5⟩ : ∃ l5, szEntry x.cur l4 = l5 := ⟨_, rfl⟩
  have e5 : ∀ (g1 : 0 ≤ l1) (g2 : 0 ≤ l2) (g3 : 0 ≤ l3) (g4 : 0 ≤ l4), l5 ≤ l4 := fun g1 g2 g3 g4 => k5 ▸ (szOk_entry x.cur).le l4 g4
  have c5 := fun (g1 : 0 ≤ l1) (g2 : 0 ≤ l2) (g3 : 0 ≤ l3) (g4 : 0 ≤ l4) => c_szEntry _ l4 g4 (show (l4 : Int) ≤ 1048576 by have := e1; have := e2 g1; have := e3 g1 g2; have := e4 g1 g2 g3; omega) hx.cur
  simp only [k5] at c5
  obtain ⟨l6, k6⟩ : ∃ l6, szT x.votes.length l5 = l6 := ⟨_, rfl⟩
  have e6 : ∀ (g1 : 0 ≤ l1) (g2 : 0 ≤ l2) (g3 : 0 ≤ l3) (g4 : 0 ≤ l4) (g5 : 0 ≤ l5), l6 ≤ l5 := fun g1 g2 g3 g4 g5 => k6 ▸ (szOk_T x.votes.length).le l5 g5
  have c6 := fun (g1 : 0 ≤ l1) (g2 : 0 ≤ l2) (g3 : 0 ≤ l3) (g4 : 0 ≤ l4) (g5 : 0 ≤ l5) => c_szBoolS _ l5 g5 (show (l5 : Int) ≤ 1048576 by have := e1; have := e2 g1; have := e3 g1 g2; have := e4 g1 g2 g3; have := e5 g1 g2 g3 g4; omega) hx.votes
  simp only [k6] at c6
  obtain ⟨l7, k7⟩ : ∃ l7, szT x.prog.length l6 = l7 := ⟨_, rfl⟩
  have e7 : ∀ (g1 : 0 ≤ l1) (g2 : 0 ≤ l2) (g3 : 0 ≤ l3) (g4 : 0 ≤ l4) (g5 : 0 ≤ l5) (g6 : 0 ≤ l6), l7 ≤ l6 := fun g1 g2 g3 g4 g5 g6 => k7 ▸ (szOk_T x.prog.length).le l6 g6
  have c7 := fun (g1 : 0 ≤ l1) (g2 : 0 ≤ l2) (g3 : 0 ≤ l3) (g4 : 0 ≤ l4) (g5 : 0 ≤ l5) (g6 : 0 ≤ l6) => c_szInsS _ l6 g6 (show (l6 : Int) ≤ 1048576 by have := e1; have := e2 g1; have := e3 g1 g2; have := e4 g1 g2 g3; have := e5 g1 g2 g3 g4; have := e6 g1 g2 g3 g4 g5; omega) hx.prog
  simp only [k7] at c7
  obtain ⟨l8, k8⟩ : ∃ l8, szEntry x.want l7 = l8 := ⟨_, rfl⟩
  have e8 : ∀ (g1 : 0 ≤ l1) (g2 : 0 ≤ l2) (g3 : 0 ≤ l3) (g4 : 0 ≤ l4) (g5 : 0 ≤ l5) (g6 : 0 ≤ l6) (g7 : 0 ≤ l7), l8 ≤ l7 := fun g1 g2 g3 g4 g5 g6 g7 => k8 ▸ (szOk_entry x.want).le l7 g7
  have c8 := fun (g1 : 0 ≤ l1) (g2 : 0 ≤ l2) (g3 : 0 ≤ l3) (g4 : 0 ≤ l4) (g5 : 0 ≤ l5) (g6 : 0 ≤ l6) (g7 : 0 ≤ l7) => c_szEntry _ l7 g7 (show (l7 : Int) ≤ 1048576 by have := e1; have := e2 g1; have := e3 g1 g2; have := e4 g1 g2 g3; have := e5 g1 g2 g3 g4; have := e6 g1 g2 g3 g4 g5; have := e7 g1 g2 g3 g4 g5 g6; omega) hx.want
  simp only [k8] at c8
  obtain ⟨l9, k9⟩ : ∃ l9, szS szEntry x.queue l8 = l9 := ⟨_, rfl⟩
  have e9 : ∀ (g1 : 0 ≤ l1) (g2 : 0 ≤ l2) (g3 : 0 ≤ l3) (g4 : 0 ≤ l4) (g5 : 0 ≤ l5) (g6 : 0 ≤ l6) (g7 : 0 ≤ l7) (g8 : 0 ≤ l8), l9 ≤ l8 := fun g1 g2 g3 g4 g5 g6 g7 g8 => k9 ▸ (szOk_entries x.queue).le l8 g8
  have c9 := fun (g1 : 0 ≤ l1) (g2 : 0 ≤ l2) (g3 : 0 ≤ l3) (g4 : 0 ≤ l4) (g5 : 0 ≤ l5) (g6 : 0 ≤ l6) (g7 : 0 ≤ l7) (g8 : 0 ≤ l8) => c_szEntryS _ l8 g8 (show (l8 : Int) ≤ 1048576 by have := e1; have := e2 g1; have := e3 g1 g2; have := e4 g1 g2 g3; have := e5 g1 g2 g3 g4; have := e6 g1 g2 g3 g4 g5; have := e7 g1 g2 g3 g4 g5 g6; have := e8 g1 g2 g3 g4 g5 g6 g7; omega) hx.queue.1 hx.queue.2
  simp only [k9] at c9
  have hN : szNode x l = _ := rfl
  rw [hN]
  simp only [szNode, thenI, sg, k1, k2, k3, k4, k5, k6, k7, k8, k9]
  clear hN
  refine Pure.vc [(8, .res (oi l1)), (14, .res (oi l2)), (20, .res (oi l3)), (26, .res (oi l4)), (32, .res (oi l5)), (38, .res (oi l6)), (44, .res (oi l7)), (50, .res (oi l8)), (56, .res (oi l9))] TTok hmo Go.Proofs.Tryz.func6 (by kernel_rfl) rfl (by kernel_rfl) ?_
  repeat' (first | refine And.intro ?_ ?_ | exact tf | exact ft | refine tt ?_ | refine ff ?_ | exact ⟨trivial⟩ | exact sAll rfl | exact sF1 rfl | exact sBld (by repeat' (first | exact trivial | rfl | exact Nat.le_of_ble_eq_true rfl | refine And.intro ?_ ?_)) rfl | exact sBS (by repeat' (first | exact trivial | rfl | exact Nat.le_of_ble_eq_true rfl | refine And.intro ?_ ?_)) rfl rfl rfl rfl | exact sBSF (by repeat' (first | exact trivial | rfl | exact Nat.le_of_ble_eq_true rfl | refine And.intro ?_ ?_)) rfl rfl rfl rfl | exact sLe rfl | exact Chk.mk (by kernel_rfl) | exact ⟨Chk.mk (by kernel_rfl)⟩ | exact sLeEq rfl rfl | exact sAnd (by repeat' constructor) (c1) | exact sAnd (by repeat' constructor) (c2 (by simp only [decide_eq_false_iff_not, decide_eq_true_eq] at *; omega)) | exact sAnd (by repeat' constructor) (c3 (by simp only [decide_eq_false_iff_not, decide_eq_true_eq] at *; omega) (by simp only [decide_eq_false_iff_not, decide_eq_true_eq] at *; omega)) | exact sAnd (by repeat' constructor) (c4 (by simp only [decide_eq_false_iff_not, decide_eq_true_eq] at *; omega) (by simp only [decide_eq_false_iff_not, decide_eq_true_eq] at *; omega) (by simp only [decide_eq_false_iff_not, decide_eq_true_eq] at *; omega)) | exact sAnd (by repeat' constructor) (c5 (by simp only [decide_eq_false_iff_not, decide_eq_true_eq] at *; omega) (by simp only [decide_eq_false_iff_not, decide_eq_true_eq] at *; omega) (by simp only [decide_eq_false_iff_not, decide_eq_true_eq] at *; omega) (by simp only [decide_eq_false_iff_not, decide_eq_true_eq] at *; omega)) | exact sAnd (by repeat' constructor) (c6 (by simp only [decide_eq_false_iff_not, decide_eq_true_eq] at *; omega) (by simp only [decide_eq_false_iff_not, decide_eq_true_eq] at *; omega) (by simp only [decide_eq_false_iff_not, decide_eq_true_eq] at *; omega) (by simp only [decide_eq_false_iff_not, decide_eq_true_eq] at *; omega) (by simp only [decide_eq_false_iff_not, decide_eq_true_eq] at *; omega)) | exact sAnd (by repeat' constructor) (c7 (by simp only [decide_eq_false_iff_not, decide_eq_true_eq] at *; omega) (by simp only [decide_eq_false_iff_not, decide_eq_true_eq] at *; omega) (by simp only [decide_eq_false_iff_not, decide_eq_true_eq] at *; omega) (by simp only [decide_eq_false_iff_not, decide_eq_true_eq] at *; omega) (by simp only [decide_eq_false_iff_not, decide_eq_true_eq] at *; omega) (by simp only [decide_eq_false_iff_not, decide_eq_true_eq] at *; omega)) | exact sAnd (by repeat' constructor) (c8 (by simp only [decide_eq_false_iff_not, decide_eq_true_eq] at *; omega) (by simp only [decide_eq_false_iff_not, decide_eq_true_eq] at *; omega) (by simp only [decide_eq_false_iff_not, decide_eq_true_eq] at *; omega) (by simp only [decide_eq_false_iff_not, decide_eq_true_eq] at *; omega) (by simp only [decide_eq_false_iff_not, decide_eq_true_eq] at *; omega) (by simp only [decide_eq_false_iff_not, decide_eq_true_eq] at *; omega) (by simp only [decide_eq_false_iff_not, decide_eq_true_eq] at *; omega)) | exact sAnd (by repeat' constructor) (c9 (by simp only [decide_eq_false_iff_not, decide_eq_true_eq] at *; omega) (by simp only [decide_eq_false_iff_not, decide_eq_true_eq] at *; omega) (by simp only [decide_eq_false_iff_not, decide_eq_true_eq] at *; omega) (by simp only [decide_eq_false_iff_not, decide_eq_true_eq] at *; omega) (by simp only [decide_eq_false_iff_not, decide_eq_true_eq] at *; omega) (by simp only [decide_eq_false_iff_not, decide_eq_true_eq] at *; omega) (by simp only [decide_eq_false_iff_not, decide_eq_true_eq] at *; omega) (by simp only [decide_eq_false_iff_not, decide_eq_true_eq] at *; omega)) | refine fun h => ?_)
  all_goals clear c9 e9 k9 c8 e8 k8 c7 e7 k7 c6 e6 k6 c5 e5 k5 c4 e4 k4 c3 e3 k3 c2 e2 k2 c1 e1 k1
  all_goals (refine Side.mk ?_; simp_all)
  all_goals try (intro hz; omega)
  all_goals repeat rw [if_neg (by omega)]

end Mg

/- Nodes that are right, impl's walk; the law of NodeOk. No condition. -/
namespace Mg
open Go Go.RowKit
set_option maxRecDepth 100000
set_option linter.unusedVariables false
set_option linter.unusedSimpArgs false
attribute [local irreducible] W Pure
theorem beq_two {a b c d : Int} : (a == c && b == d) = decide (a = c ∧ b = d) := by
  rw [Bool.eq_iff_iff]; simp
set_option maxHeartbeats 8000000 in
theorem c_impl_NodeOk (n : Node) (hn : n.ok lim) : Pure PP false 37 [.agg n.cells] (ob (nodeOk n)) := by
  by_cases hid : inr n.id 0 2 = true
  · have hl8 := c_impl_leadOk n hn hid
    rw [lead_eq n hid] at hl8
    obtain ⟨lb, hlb⟩ : ∃ lb, leadS n = lb := ⟨_, rfl⟩
    rw [hlb] at hl8
    have hN : nodeOk n = (inr n.id 0 2 && accOk n.acc && entsOk n.known && inr n.seq 0 1000 && decide ((n.queue.length : Int) ≤ 4) && lb && wantsOk n && n.queue.all queueOk) := by unfold nodeOk; rw [hlb]
    rw [hN]
    obtain ⟨id, ac, kn, sq, ph, ba, fr, be, cu, vo, bu, pr, ⟨wn, ⟨q1, q2⟩, wr⟩, qu⟩ := n
    have hid : inr id 0 2 = true := hid
    have hk := hn.known
    have hql : qu.length ≤ 1048576 := hn.queue.1
    have hqu : ∀ v ∈ qu, v.ok lim := hn.queue.2
    have hwa : Entry.ok lim ⟨wn, ⟨q1, q2⟩, wr⟩ := hn.want
    refine Pure.vc [(7, .res (ob (inr id 0 2))), (12, .res (ob (accOk ac))), (18, .res (ob (entsOk kn))), (24, .res (ob (inr sq 0 1000))), (52, .res (ob (progOk pr))), (57, .res (ob (entryOk ⟨wn, ⟨q1, q2⟩, wr⟩))), (84, .res (ob (decide (Entry.mk wn ⟨q1, q2⟩ wr = zeroE false)))), (88, .res (ob lb))] TTok hmo Go.Proofs.Tryz.func37 (by kernel_rfl) rfl (by kernel_rfl) ?_
    repeat' (first | refine And.intro ?_ ?_ | exact tf | exact ft | refine tt ?_ | refine ff ?_ | exact ⟨trivial⟩ | exact sAll rfl | exact sF1 rfl | exact sBld (by repeat' (first | exact trivial | rfl | exact Nat.le_of_ble_eq_true rfl | refine And.intro ?_ ?_)) rfl | exact sBS (by repeat' (first | exact trivial | rfl | exact Nat.le_of_ble_eq_true rfl | refine And.intro ?_ ?_)) rfl rfl rfl rfl | exact sBSF (by repeat' (first | exact trivial | rfl | exact Nat.le_of_ble_eq_true rfl | refine And.intro ?_ ?_)) rfl rfl rfl rfl | exact sLe rfl | exact Chk.mk (by kernel_rfl) | exact ⟨Chk.mk (by kernel_rfl)⟩ | exact sLeEq rfl rfl | exact sAnd (by repeat' constructor) (c_impl_in _ _ _) | exact sAnd (by repeat' constructor) (c_impl_AccOk _ hn.acc) | exact sAnd (by repeat' constructor) (c_impl_listOk _ (Nat.le_trans hk.1 (by decide)) hk.2) | refine fun h => ?_)
    all_goals try dsimp only at *
    all_goals try simp only [List.length_map, beq_iff_eq, beq_eq_false_iff_ne, ne_eq, decide_eq_true_eq, decide_eq_false_iff_not, Bool.not_eq_true', Bool.not_eq_false', bne_iff_ne, bne_eq_false_iff_eq] at *
    all_goals try (refine Side.mk ?_; simp_all; done)
    all_goals try (refine Side.mk ?_; simp_all; omega)
    refine W.loopC (D := Nat) (fun i => [(38, .row (qu.getD i default).cells), (41, .res (ob (entryOk (qu.getD i default))))]) TTok hmo
      (fun i => ⟨89, 1, [(1, .one (.ptr 0 0 0)), (2, ob false), (34, .one (.ag (qu.map Entry.cells))), (35, oi qu.length), (36, oi i)], [(0, .box (nodeA id ac kn sq ph ba fr be cu vo bu pr ⟨wn, ⟨q1, q2⟩, wr⟩ qu))]⟩) (fun i => qu.length - i) (fun i => i ≤ qu.length ∧ (qu.take i).all queueOk = true) 0 [] ⟨by omega, by simp⟩ ?_ ?_
    · show subC _ _ _ _
      repeat' (first | exact trivial | exact Side.mk rfl | exact Chk.mk (by kernel_rfl) | exact ⟨Chk.mk (by kernel_rfl)⟩ | refine And.intro ?_ ?_ | rfl)
      all_goals exact ⟨by simp⟩
    · intro i ⟨hi, hp⟩
      clear hN hlb
      repeat' (first | refine And.intro ?_ ?_ | exact tf | exact ft | refine tt ?_ | refine ff ?_ | exact ⟨trivial⟩ | exact sAll rfl | exact sF1 rfl | exact sBld (by repeat' (first | exact trivial | rfl | exact Nat.le_of_ble_eq_true rfl | refine And.intro ?_ ?_)) rfl | exact sBS (by repeat' (first | exact trivial | rfl | exact Nat.le_of_ble_eq_true rfl | refine And.intro ?_ ?_)) rfl rfl rfl rfl | exact sBSF (by repeat' (first | exact trivial | rfl | exact Nat.le_of_ble_eq_true rfl | refine And.intro ?_ ?_)) rfl rfl rfl rfl | exact sLe rfl | exact Chk.mk (by kernel_rfl) | exact ⟨Chk.mk (by kernel_rfl)⟩ | exact sLeEq rfl rfl | exact sAnd (by repeat' constructor) (c_impl_ProgOk _ (Nat.le_trans hn.prog (by decide))) | exact sAnd (by repeat' constructor) (c_impl_CertEntry _ hwa) | exact sAnd (by repeat' constructor) (c_impl_CertLike ⟨wn, ⟨q1, q2⟩, wr⟩ (zeroE false) hwa zeroRun_ok) | exact sAnd (by repeat' constructor) (hl8) | refine fun h => ?_)
      all_goals clear hl8
      all_goals try simp only [decide_eq_true_eq, decide_eq_false_iff_not, List.length_map, Bool.not_eq_true', Bool.not_eq_false', Bool.not_eq_eq_eq_not, Bool.not_true, Bool.not_false, bne_iff_ne, ne_eq, bne_eq_false_iff_eq, beq_iff_eq, beq_eq_false_iff_ne] at *
      all_goals try (exact sRow (by omega) (row_at qu _ (by omega)) rfl)
      all_goals try (exact sAnd (by repeat' constructor) (c_impl_CertEntry _ (hqu _ (getD_mem (by omega)))))
      all_goals try (exact ⟨⟨trivial, Nat.le_of_ble_eq_true rfl⟩, fun g hg => by simp at hg; rcases hg with rfl | rfl <;> rfl⟩)
      · refine ⟨?_⟩; have := all_bad (f := queueOk) (xs := qu) (i := i) (by omega) (by simp_all [queueOk]); simp [this]
      · refine ⟨i + 1, [], by omega, ⟨by omega, all_step (by omega) hp (by simp_all [queueOk])⟩, ?_⟩
        repeat' (first | exact trivial | exact Side.mk rfl | exact Chk.mk (by kernel_rfl) | exact ⟨Chk.mk (by kernel_rfl)⟩ | exact ⟨wrap_succ (n := qu.length) (by omega) (by omega)⟩ | refine And.intro ?_ ?_ | rfl)
      · refine ⟨?_⟩; have := all_bad (f := queueOk) (xs := qu) (i := i) (by omega) (by simp_all [queueOk]); simp [this]
      all_goals (have hq := all_end (by omega) hp; clear hp; refine Side.mk ?_)
      all_goals try (simp_all [wantsOk]; done)
      all_goals try (simp_all [wantsOk]; omega)
      all_goals have hpr : pr ≠ [] := fun e => by (subst e; simp at h)
      all_goals simp_all [wantsOk]
  · have hN : nodeOk n = false := by
      have : inr n.id 0 2 = false := by simpa using hid
      simp [nodeOk, this]
    rw [hN]
    obtain ⟨id, ac, kn, sq, ph, ba, fr, be, cu, vo, bu, pr, wa, qu⟩ := n
    have hid : ¬ inr id 0 2 = true := hid
    refine Pure.vc [(7, .res (ob (inr id 0 2)))] TTok hmo Go.Proofs.Tryz.func37 (by kernel_rfl) rfl (by kernel_rfl) ?_
    repeat' (first | refine And.intro ?_ ?_ | exact tf | exact ft | refine tt ?_ | refine ff ?_ | exact fun h => absurd (show inr id 0 2 = true by simpa using h) hid | exact ⟨trivial⟩ | exact sAll rfl | exact sF1 rfl | exact sBld (by repeat' (first | exact trivial | rfl | exact Nat.le_of_ble_eq_true rfl | refine And.intro ?_ ?_)) rfl | exact sBS (by repeat' (first | exact trivial | rfl | exact Nat.le_of_ble_eq_true rfl | refine And.intro ?_ ?_)) rfl rfl rfl rfl | exact sBSF (by repeat' (first | exact trivial | rfl | exact Nat.le_of_ble_eq_true rfl | refine And.intro ?_ ?_)) rfl rfl rfl rfl | exact sLe rfl | exact Chk.mk (by kernel_rfl) | exact ⟨Chk.mk (by kernel_rfl)⟩ | exact sLeEq rfl rfl | exact sAnd (by repeat' constructor) (c_impl_in _ _ _) | refine fun h => ?_)
    all_goals (refine Side.mk ?_; simp)
end Mg
