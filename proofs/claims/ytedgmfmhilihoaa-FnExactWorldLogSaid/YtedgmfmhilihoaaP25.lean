/- Parts of the abstract state logic and of the walks, one behind the other: NF2, NF3, NB, NF4, R2G. No condition. -/
import Derived.Test.YtedgmfmhilihoaaP24
import Derived.Test.YtedgmfmhilihoaaP22
import Derived.Test.YtedgmfmhilihoaaP23
import Derived.Test.YtedgmfmhilihoaaP14
/- Nodes copied in the program's own way; a node that falls. No condition. -/
namespace Mg
open Go Go.RowKit
set_option maxRecDepth 100000
set_option linter.unusedVariables false
set_option linter.unusedSimpArgs false
attribute [local irreducible] W Pure Con TPure TMark

set_option maxHeartbeats 4000000 in
theorem t_nodeCopy (x : Node) (hx : x.ok lim) : TPure PP 52 [.agg x.cells] (.agg x.cells) := by
  refine TPure.vc [(7, .tre true (fun _ => .agg x.acc.cells)), (11, .tre true (fun _ => .one (.fz (x.known.map Entry.cells)))), (15, .tre true (fun _ => .one (.fz (x.fro.map Bool.cells)))), (19, .tre true (fun _ => .one (.fz (x.best.map Vote.cells)))), (23, .tre true (fun _ => .agg x.cur.cells)), (27, .tre true (fun _ => .one (.fz (x.votes.map Bool.cells)))), (31, .tre true (fun _ => .one (.fz (x.prog.map Ins.cells)))), (35, .tre true (fun _ => .agg x.want.cells)), (39, .tre true (fun _ => .one (.fz (x.queue.map Entry.cells))))] TTok hmo Go.Proofs.Try.func52 (by kernel_rfl) rfl (by kernel_rfl) ?_
  repeat' (first | refine And.intro ?_ ?_ | exact tf | exact ft | refine tt ?_ | refine ff ?_ | exact ⟨trivial⟩ | exact sAll rfl | exact sF1 rfl | exact sBld (by repeat' (first | exact trivial | rfl | exact Nat.le_of_ble_eq_true rfl | refine And.intro ?_ ?_)) rfl | exact sBS (by repeat' (first | exact trivial | rfl | exact Nat.le_of_ble_eq_true rfl | refine And.intro ?_ ?_)) rfl rfl rfl rfl | exact sBSF (by repeat' (first | exact trivial | rfl | exact Nat.le_of_ble_eq_true rfl | refine And.intro ?_ ?_)) rfl rfl rfl rfl | exact sLe rfl | exact Chk.mk (by kernel_rfl) | exact ⟨Chk.mk (by kernel_rfl)⟩ | exact sLeEq rfl rfl | refine fun h => ?_)
  all_goals try (exact Side.mk (t_accCopy _ hx.acc))
  all_goals try (exact Side.mk (t_entriesCopy _ hx.known.1 hx.known.2))
  all_goals try (exact Side.mk (t_copied_Bool _ hx.fro))
  all_goals try (exact Side.mk (t_votesCopy _ hx.best.1 hx.best.2))
  all_goals try (exact Side.mk (t_entryCopy _ hx.cur))
  all_goals try (exact Side.mk (t_copied_Bool _ hx.votes))
  all_goals try (exact Side.mk (t_copied_Ins _ hx.prog))
  all_goals try (exact Side.mk (t_entryCopy _ hx.want))
  all_goals try (exact Side.mk (t_entriesCopy _ hx.queue.1 hx.queue.2))
  all_goals try (rename_i B0 hA0 hD0 B1 hA1 hD1 B2 hA2 hD2 B3 hA3 hD3 B4 hA4 hD4 B5 hA5 hD5 B6 hA6 hD6 B7 hA7 hD7 B8 hA8; refine Side.mk (apart_agg ?_); exact And.intro (And.intro (fun x h1 h2 => (hD1.st 2 _ rfl _ (List.mem_of_getElem? (i := 2) rfl)) x h1 ⟨0, 0, h2⟩) (And.intro (fun x h1 h2 => (hD2.st 2 _ rfl _ (List.mem_of_getElem? (i := 2) rfl)) x h1 ⟨0, 0, h2⟩) (And.intro (fun x h1 h2 => (hD3.st 2 _ rfl _ (List.mem_of_getElem? (i := 2) rfl)) x h1 ⟨0, 0, h2⟩) (And.intro (fun x h1 h2 => (hD4.st 2 _ rfl _ (List.mem_of_getElem? (i := 2) rfl)) x h1 ⟨0, 3, h2⟩) (And.intro (fun x h1 h2 => (hD4.st 2 _ rfl _ (List.mem_of_getElem? (i := 2) rfl)) x h1 ⟨0, 4, h2⟩) (And.intro (fun x h1 h2 => (hD5.st 2 _ rfl _ (List.mem_of_getElem? (i := 2) rfl)) x h1 ⟨0, 0, h2⟩) (And.intro (fun x h1 h2 => (hD6.st 2 _ rfl _ (List.mem_of_getElem? (i := 2) rfl)) x h1 ⟨0, 0, h2⟩) (And.intro (fun x h1 h2 => (hD7.st 2 _ rfl _ (List.mem_of_getElem? (i := 2) rfl)) x h1 ⟨0, 3, h2⟩) (And.intro (fun x h1 h2 => (hD7.st 2 _ rfl _ (List.mem_of_getElem? (i := 2) rfl)) x h1 ⟨0, 4, h2⟩) (And.intro (fun x h1 h2 => (h.st 2 _ rfl _ (List.mem_of_getElem? (i := 2) rfl)) x h1 ⟨0, 0, h2⟩) (trivial))))))))))) (And.intro (And.intro (fun x h1 h2 => (hD2.st 2 _ rfl _ (List.mem_of_getElem? (i := 3) rfl)) x h1 ⟨0, 0, h2⟩) (And.intro (fun x h1 h2 => (hD3.st 2 _ rfl _ (List.mem_of_getElem? (i := 3) rfl)) x h1 ⟨0, 0, h2⟩) (And.intro (fun x h1 h2 => (hD4.st 2 _ rfl _ (List.mem_of_getElem? (i := 3) rfl)) x h1 ⟨0, 3, h2⟩) (And.intro (fun x h1 h2 => (hD4.st 2 _ rfl _ (List.mem_of_getElem? (i := 3) rfl)) x h1 ⟨0, 4, h2⟩) (And.intro (fun x h1 h2 => (hD5.st 2 _ rfl _ (List.mem_of_getElem? (i := 3) rfl)) x h1 ⟨0, 0, h2⟩) (And.intro (fun x h1 h2 => (hD6.st 2 _ rfl _ (List.mem_of_getElem? (i := 3) rfl)) x h1 ⟨0, 0, h2⟩) (And.intro (fun x h1 h2 => (hD7.st 2 _ rfl _ (List.mem_of_getElem? (i := 3) rfl)) x h1 ⟨0, 3, h2⟩) (And.intro (fun x h1 h2 => (hD7.st 2 _ rfl _ (List.mem_of_getElem? (i := 3) rfl)) x h1 ⟨0, 4, h2⟩) (And.intro (fun x h1 h2 => (h.st 2 _ rfl _ (List.mem_of_getElem? (i := 3) rfl)) x h1 ⟨0, 0, h2⟩) (trivial)))))))))) (And.intro (And.intro (fun x h1 h2 => (hD3.st 2 _ rfl _ (List.mem_of_getElem? (i := 7) rfl)) x h1 ⟨0, 0, h2⟩) (And.intro (fun x h1 h2 => (hD4.st 2 _ rfl _ (List.mem_of_getElem? (i := 7) rfl)) x h1 ⟨0, 3, h2⟩) (And.intro (fun x h1 h2 => (hD4.st 2 _ rfl _ (List.mem_of_getElem? (i := 7) rfl)) x h1 ⟨0, 4, h2⟩) (And.intro (fun x h1 h2 => (hD5.st 2 _ rfl _ (List.mem_of_getElem? (i := 7) rfl)) x h1 ⟨0, 0, h2⟩) (And.intro (fun x h1 h2 => (hD6.st 2 _ rfl _ (List.mem_of_getElem? (i := 7) rfl)) x h1 ⟨0, 0, h2⟩) (And.intro (fun x h1 h2 => (hD7.st 2 _ rfl _ (List.mem_of_getElem? (i := 7) rfl)) x h1 ⟨0, 3, h2⟩) (And.intro (fun x h1 h2 => (hD7.st 2 _ rfl _ (List.mem_of_getElem? (i := 7) rfl)) x h1 ⟨0, 4, h2⟩) (And.intro (fun x h1 h2 => (h.st 2 _ rfl _ (List.mem_of_getElem? (i := 7) rfl)) x h1 ⟨0, 0, h2⟩) (trivial))))))))) (And.intro (And.intro (fun x h1 h2 => (hD4.st 2 _ rfl _ (List.mem_of_getElem? (i := 8) rfl)) x h1 ⟨0, 3, h2⟩) (And.intro (fun x h1 h2 => (hD4.st 2 _ rfl _ (List.mem_of_getElem? (i := 8) rfl)) x h1 ⟨0, 4, h2⟩) (And.intro (fun x h1 h2 => (hD5.st 2 _ rfl _ (List.mem_of_getElem? (i := 8) rfl)) x h1 ⟨0, 0, h2⟩) (And.intro (fun x h1 h2 => (hD6.st 2 _ rfl _ (List.mem_of_getElem? (i := 8) rfl)) x h1 ⟨0, 0, h2⟩) (And.intro (fun x h1 h2 => (hD7.st 2 _ rfl _ (List.mem_of_getElem? (i := 8) rfl)) x h1 ⟨0, 3, h2⟩) (And.intro (fun x h1 h2 => (hD7.st 2 _ rfl _ (List.mem_of_getElem? (i := 8) rfl)) x h1 ⟨0, 4, h2⟩) (And.intro (fun x h1 h2 => (h.st 2 _ rfl _ (List.mem_of_getElem? (i := 8) rfl)) x h1 ⟨0, 0, h2⟩) (trivial)))))))) (And.intro (And.intro (fun x h1 h2 => absurd (hA4 0 3 0 4 x h1 h2).2 (by decide)) (And.intro (fun x h1 h2 => (hD5.st 2 _ rfl _ (List.mem_of_getElem? (i := 12) rfl)) x h1 ⟨0, 0, h2⟩) (And.intro (fun x h1 h2 => (hD6.st 2 _ rfl _ (List.mem_of_getElem? (i := 12) rfl)) x h1 ⟨0, 0, h2⟩) (And.intro (fun x h1 h2 => (hD7.st 2 _ rfl _ (List.mem_of_getElem? (i := 12) rfl)) x h1 ⟨0, 3, h2⟩) (And.intro (fun x h1 h2 => (hD7.st 2 _ rfl _ (List.mem_of_getElem? (i := 12) rfl)) x h1 ⟨0, 4, h2⟩) (And.intro (fun x h1 h2 => (h.st 2 _ rfl _ (List.mem_of_getElem? (i := 12) rfl)) x h1 ⟨0, 0, h2⟩) (trivial))))))) (And.intro (And.intro (fun x h1 h2 => (hD5.st 2 _ rfl _ (List.mem_of_getElem? (i := 13) rfl)) x h1 ⟨0, 0, h2⟩) (And.intro (fun x h1 h2 => (hD6.st 2 _ rfl _ (List.mem_of_getElem? (i := 13) rfl)) x h1 ⟨0, 0, h2⟩) (And.intro (fun x h1 h2 => (hD7.st 2 _ rfl _ (List.mem_of_getElem? (i := 13) rfl)) x h1 ⟨0, 3, h2⟩) (And.intro (fun x h1 h2 => (hD7.st 2 _ rfl _ (List.mem_of_getElem? (i := 13) rfl)) x h1 ⟨0, 4, h2⟩) (And.intro (fun x h1 h2 => (h.st 2 _ rfl _ (List.mem_of_getElem? (i := 13) rfl)) x h1 ⟨0, 0, h2⟩) (trivial)))))) (And.intro (And.intro (fun x h1 h2 => (hD6.st 2 _ rfl _ (List.mem_of_getElem? (i := 16) rfl)) x h1 ⟨0, 0, h2⟩) (And.intro (fun x h1 h2 => (hD7.st 2 _ rfl _ (List.mem_of_getElem? (i := 16) rfl)) x h1 ⟨0, 3, h2⟩) (And.intro (fun x h1 h2 => (hD7.st 2 _ rfl _ (List.mem_of_getElem? (i := 16) rfl)) x h1 ⟨0, 4, h2⟩) (And.intro (fun x h1 h2 => (h.st 2 _ rfl _ (List.mem_of_getElem? (i := 16) rfl)) x h1 ⟨0, 0, h2⟩) (trivial))))) (And.intro (And.intro (fun x h1 h2 => (hD7.st 2 _ rfl _ (List.mem_of_getElem? (i := 18) rfl)) x h1 ⟨0, 3, h2⟩) (And.intro (fun x h1 h2 => (hD7.st 2 _ rfl _ (List.mem_of_getElem? (i := 18) rfl)) x h1 ⟨0, 4, h2⟩) (And.intro (fun x h1 h2 => (h.st 2 _ rfl _ (List.mem_of_getElem? (i := 18) rfl)) x h1 ⟨0, 0, h2⟩) (trivial)))) (And.intro (And.intro (fun x h1 h2 => absurd (hA7 0 3 0 4 x h1 h2).2 (by decide)) (And.intro (fun x h1 h2 => (h.st 2 _ rfl _ (List.mem_of_getElem? (i := 22) rfl)) x h1 ⟨0, 0, h2⟩) (trivial))) (And.intro (And.intro (fun x h1 h2 => (h.st 2 _ rfl _ (List.mem_of_getElem? (i := 23) rfl)) x h1 ⟨0, 0, h2⟩) (trivial)) (And.intro (trivial) (trivial))))))))))))
  all_goals first | exact trivial | exact Side.mk rfl | exact Side.mk (by repeat' (first | exact trivial | exact Nat.le_of_ble_eq_true rfl | rfl | refine And.intro ?_ ?_))

def nodeFall (n : Node) : Node := if nodeOk n = true then ⟨n.id, n.acc, n.known, n.seq, 0, 0, [], [], zeroE false, [], false, [], zeroE false, []⟩ else default

end Mg

/- A node that falls, on both sides. No condition. -/
namespace Mg
open Go Go.RowKit
set_option maxRecDepth 100000
set_option linter.unusedVariables false
set_option linter.unusedSimpArgs false
attribute [local irreducible] W Pure Con TPure TMark
theorem disAll_row {B : Nat → Tk} {S : Bk} : ∀ {cs : List MC} (o : Nat), cs.all plainC = true → (∀ j x, o ≤ j → S x → ¬ (B j).B x) → disAll S (labRow true B o cs)
  | [], o, _, _ => trivial
  | c :: cs, o, hp, h => by
    have hp' : cs.all plainC = true := by simp only [List.all_cons, Bool.and_eq_true] at hp; exact hp.2
    have hc : plainC c = true := by simp only [List.all_cons, Bool.and_eq_true] at hp; exact hp.1
    have ht := disAll_row (o + 1) hp' fun j x hj => h j x (by omega)
    cases c <;> first | exact ht | (cases hc; done) | exact ⟨fun x hx => h o x (Nat.le_refl _) hx, ht⟩
theorem apartL_row {B : Nat → Tk} (hB : ∀ j j' x, (B j).B x → (B j').B x → j = j') : ∀ {cs : List MC} (o : Nat), cs.all plainC = true → apartL (labRow true B o cs)
  | [], o, _ => trivial
  | c :: cs, o, hp => by
    have hp' : cs.all plainC = true := by simp only [List.all_cons, Bool.and_eq_true] at hp; exact hp.2
    have hc : plainC c = true := by simp only [List.all_cons, Bool.and_eq_true] at hp; exact hp.1
    have ht := apartL_row hB (cs := cs) (o + 1) hp'
    cases c <;> first | exact ht | (cases hc; done) | exact ⟨disAll_row (o + 1) hp' fun j x hj h1 h2 => absurd (hB _ _ _ h1 h2) (by omega), ht⟩
theorem nodeFall_ok {n : Node} (h : n.ok lim) : (nodeFall n).ok lim := by
  unfold nodeFall
  split
  · exact ⟨h.acc, h.known, Nat.zero_le _, ⟨Nat.zero_le _, fun v hv => by cases hv⟩, ⟨Nat.zero_le _, Nat.zero_le _⟩, Nat.zero_le _, Nat.zero_le _, ⟨Nat.zero_le _, Nat.zero_le _⟩, ⟨Nat.zero_le _, fun v hv => by cases hv⟩⟩
  · exact ⟨⟨Nat.zero_le _, fun v hv => by cases hv⟩, ⟨Nat.zero_le _, fun v hv => by cases hv⟩, Nat.zero_le _, ⟨Nat.zero_le _, fun v hv => by cases hv⟩, ⟨Nat.zero_le _, Nat.zero_le _⟩, Nat.zero_le _, Nat.zero_le _, ⟨Nat.zero_le _, Nat.zero_le _⟩, ⟨Nat.zero_le _, fun v hv => by cases hv⟩⟩
end Mg

/- What a right node is, part by part. No condition. -/
namespace Mg
open Go Go.RowKit
set_option linter.unusedVariables false
set_option linter.unusedSimpArgs false
structure Node.bd (n : Node) : Prop where
  id : inr n.id 0 2 = true
  acc : accOk n.acc = true
  known : n.known.length ≤ 40
  knownOk : ∀ e ∈ n.known, entryOk e = true
  seq : inr n.seq 0 1000 = true
  queue : n.queue.length ≤ 4
  lead : leadS n = true
  wants : wantsOk n = true
  queueOk : n.queue.all queueOk = true
theorem nodeOk_bd {n : Node} (h : nodeOk n = true) : n.bd := by
  unfold nodeOk entsOk at h
  simp only [Bool.and_eq_true, decide_eq_true_eq, List.all_eq_true] at h
  obtain ⟨⟨⟨⟨⟨⟨⟨h1, h2⟩, h3, h3'⟩, h4⟩, h5⟩, h6⟩, h7⟩, h8⟩ := h
  exact ⟨h1, h2, h3, h3', h4, by omega, h6, h7, List.all_eq_true.2 h8⟩
end Mg

/- A node that falls, on the other side. No condition. -/
namespace Mg
open Go Go.RowKit
set_option maxRecDepth 100000
set_option linter.unusedVariables false
set_option linter.unusedSimpArgs false
attribute [local irreducible] W Pure Con TPure TMark
theorem sAppB {α : Type} {a : Prop} {c : α → List MC} {xs : List α} {k b : Nat} {rows2 : List (List MC)} (ha : a) (hc : ∀ x, (c x).length = k) (h2 : (rows2.all fun r => r.length == k) = true) (hl : xs.length ≤ 2000000) (hl2 : Nat.ble rows2.length 1000000 = true) (hb : Nat.ble b 1000000 = true) :
    Side (a ∧ (∀ r ∈ xs.map c, r.length = k) ∧ (∀ r ∈ rows2, r.length = k) ∧ ((xs.map c).length + rows2.length) * b ≤ 140737488355328 ∧ (xs.map c).length + rows2.length ≤ 140737488355328) := by
  have h2' := Nat.le_of_ble_eq_true hl2
  have hb' := Nat.le_of_ble_eq_true hb
  refine ⟨ha, fun r hr => by obtain ⟨x, _, rfl⟩ := List.mem_map.1 hr; exact hc x, fun r hr => by simpa using List.all_eq_true.1 h2 r hr, ?_, ?_⟩
  · rw [List.length_map]
    exact Nat.le_trans (Nat.mul_le_mul (Nat.add_le_add hl h2') hb') (by decide)
  · rw [List.length_map]; omega
set_option maxHeartbeats 4000000 in
theorem c_l8EntriesP (vs : List Entry) (hx : vs.length ≤ 2000000) (hv : ∀ v ∈ vs, v.ok lim) : Pure PP false 36 [.one (.fz (vs.map Entry.cells))] (.one (.own (vs.map Entry.cells))) := by
  refine Pure.vc [] TTok hmo Go.Proofs.Try.func36 (by kernel_rfl) rfl (by kernel_rfl) ?_
  repeat' (first | refine And.intro ?_ ?_ | exact tf | exact ft | refine tt ?_ | refine ff ?_ | exact ⟨trivial⟩ | exact sAll rfl | exact sF1 rfl | exact sBld (by repeat' (first | exact trivial | rfl | exact Nat.le_of_ble_eq_true rfl | refine And.intro ?_ ?_)) rfl | exact sBS (by repeat' (first | exact trivial | rfl | exact Nat.le_of_ble_eq_true rfl | refine And.intro ?_ ?_)) rfl rfl rfl rfl | exact sBSF (by repeat' (first | exact trivial | rfl | exact Nat.le_of_ble_eq_true rfl | refine And.intro ?_ ?_)) rfl rfl rfl rfl | exact sLe rfl | exact Chk.mk (by kernel_rfl) | exact ⟨Chk.mk (by kernel_rfl)⟩ | exact sLeEq rfl rfl | refine fun h => ?_)
  · refine W.vslot 3 rfl ?_
    refine W.loopC (D := Nat) (fun i => [(15, .row (vs.getD i default).cells), (17, .res (.agg (vs.getD i default).cells)), (18, .row [])]) TTok hmo
      (fun i => ⟨21, 1, [(0, .one (.ag (vs.map Entry.cells))), (3, .one (.ref 0 0 (vs.take i).length)), (4, oi i)], [(0, .arr ((vs.take i).map Entry.cells))]⟩) (fun i => vs.length - i) (fun i => i ≤ vs.length) 0 [] (Nat.zero_le _) ?_ ?_
    · repeat' (first | exact trivial | exact ⟨trivial⟩ | exact Side.mk rfl | exact sF1 rfl | exact Chk.mk (by kernel_rfl) | exact ⟨Chk.mk (by kernel_rfl)⟩ | exact sMapF Entry.flat | refine And.intro ?_ ?_ | rfl)
    · intro i hi
      repeat' (first | refine And.intro ?_ ?_ | exact tf | exact ft | refine tt ?_ | refine ff ?_ | exact ⟨trivial⟩ | exact sAll rfl | exact sF1 rfl | exact sBld (by repeat' (first | exact trivial | rfl | exact Nat.le_of_ble_eq_true rfl | refine And.intro ?_ ?_)) rfl | exact sBS (by repeat' (first | exact trivial | rfl | exact Nat.le_of_ble_eq_true rfl | refine And.intro ?_ ?_)) rfl rfl rfl rfl | exact sBSF (by repeat' (first | exact trivial | rfl | exact Nat.le_of_ble_eq_true rfl | refine And.intro ?_ ?_)) rfl rfl rfl rfl | exact sLe rfl | exact Chk.mk (by kernel_rfl) | exact ⟨Chk.mk (by kernel_rfl)⟩ | exact sLeEq rfl rfl | refine fun h => ?_)
      all_goals try (exact ⟨rfl⟩)
      all_goals try (exact trivial)
      all_goals try (have hl : i < vs.length := by (have h3 := of_decide_eq_true ‹decide ((i : Int) < ((vs.map Entry.cells).length : Int)) = true›; rw [List.length_map] at h3; omega))
      all_goals try (exact ⟨⟨⟨trivial, trivial, trivial, trivial, trivial, trivial, trivial, trivial⟩, trivial⟩, c_l5Entry (vs.getD i default) (hv _ (getD_mem hl))⟩)
      all_goals try (exact sAppB (xs := vs.take i) (c := Entry.cells) (by simp) (fun _ => rfl) rfl (by simp; omega) rfl rfl)
      all_goals simp only [decide_eq_true_eq, decide_eq_false_iff_not, List.length_map, Bool.not_eq_true', Bool.not_eq_false', Bool.not_eq_eq_eq_not, Bool.not_true, Bool.not_false, bne_iff_ne, ne_eq, bne_eq_false_iff_eq, beq_iff_eq, beq_eq_false_iff_ne] at *
      all_goals try (exact sRow (by omega) (by rw [Int.toNat_natCast, List.getElem?_map, List.getD_eq_getElem?_getD, List.getElem?_eq_getElem (by omega)]; rfl) rfl)
      all_goals try (first | exact ⟨trivial, trivial⟩ | exact ⟨Nat.le_of_ble_eq_true rfl, trivial⟩ | exact ⟨trivial, Nat.le_of_ble_eq_true rfl, trivial⟩ | exact ⟨Nat.le_of_ble_eq_true rfl, trivial, trivial⟩)
      · refine ⟨i + 1, [(0, 1)], by omega, by omega, ?_⟩
        repeat' (first | exact trivial | exact ⟨trivial⟩ | exact Side.mk rfl | exact sF1 rfl | exact Chk.mk (by kernel_rfl) | exact ⟨Chk.mk (by kernel_rfl)⟩ | exact sTkR (by omega) rfl | exact sTkL (by omega) rfl rfl | exact sTkL2 (by omega) rfl rfl | exact sMapF Entry.flat | exact ⟨by rw [wrapi] <;> omega⟩ | refine And.intro ?_ ?_ | rfl)
      · exact ⟨⟨trivial, trivial⟩, ⟨trivial, trivial, by rw [List.take_of_length_le (by omega)], allF Entry.frz⟩, trivial⟩
theorem c_l8EntriesF (vs : List Entry) (hx : vs.length ≤ 2000000) (hv : ∀ v ∈ vs, v.ok lim) : Pure PP false 36 [.one (.fz (vs.map Entry.cells))] (.one (.fz (vs.map Entry.cells))) := (c_l8EntriesP vs hx hv).to rfl
structure Node.sm (n : Node) : Prop where
  acc : n.acc.votes.length ≤ 1000000
  known : n.known.length ≤ 1000000
  best : n.best.length ≤ 1000000
  queue : n.queue.length ≤ 1000000
theorem lead_best {n : Node} (h : leadS n = true) : n.best.length ≤ 40 := by
  unfold leadS at h
  repeat' split at h
  all_goals try simp only [Bool.and_eq_true, beq_iff_eq] at h
  · omega
  · exact votesOk_len h.1.1.2
  · exact votesOk_len h.1.1.2
  · exact votesOk_len h.1.1.1.1.2
  · cases h
theorem accLen {a : Acc} (h : accOk a = true) : a.votes.length ≤ 40 := (votesOk_iff.1 (accOk_iff.1 h).2.1).1
theorem nodeOk_sm {n : Node} (hn : n.ok lim) (h : nodeOk n = true) : n.sm := by
  have b := nodeOk_bd h
  have h1 := accLen b.acc
  have h2 := lead_best b.lead
  have h3 := b.known
  have h4 := b.queue
  exact ⟨by omega, by omega, by omega, by omega⟩
end Mg

/- Helpers of worlds. No condition. -/
namespace Mg
open Go Go.RowKit
set_option maxRecDepth 100000
set_option linter.unusedVariables false
set_option linter.unusedSimpArgs false
attribute [local irreducible] W Pure
theorem c_eqMsgS (xs ys : List Msg) (hx : xs.length ≤ maxLen) (hy : ys.length ≤ maxLen) (hvx : ∀ v ∈ xs, v.ok lim) (hvy : ∀ v ∈ ys, v.ok lim) :
    Pure PP false 21 [.one (.fz (xs.map Msg.cells)), .one (.fz (ys.map Msg.cells))] (ob (decide (xs = ys))) := by
  refine Pure.vc [] TTok hmo Go.Proofs.Try.func21 (by kernel_rfl) rfl (by kernel_rfl) ?_
  repeat' (first | refine And.intro ?_ ?_ | exact tf | exact ft | refine tt ?_ | refine ff ?_ | exact ⟨trivial⟩ | exact sLe rfl | exact Chk.mk (by kernel_rfl) | exact ⟨Chk.mk (by kernel_rfl)⟩ | exact sLeEq rfl rfl | refine fun h => ?_)
  · refine ⟨?_⟩
    simp at *
    intro e; subst e; simp at h
  · have hl : xs.length = ys.length := by simp at h; omega
    unfold maxLen at hx hy
    refine W.loopC (D := Nat) (fun i => [(19, .row (xs.getD i default).cells), (23, .row (ys.getD i default).cells), (25, .res (ob (decide (xs.getD i default = ys.getD i default))))]) TTok hmo
      (fun i => ⟨27, 0, [(0, .one (.ag (xs.map Msg.cells))), (1, .one (.ag (ys.map Msg.cells))), (4, ob false), (5, oi i)], []⟩) (fun i => xs.length - i) (fun i => i ≤ xs.length ∧ xs.take i = ys.take i) 0 [] ⟨by omega, by simp⟩ ?_ ?_
    · repeat' (first | exact trivial | exact ⟨rfl⟩ | exact Chk.mk (by kernel_rfl) | refine And.intro ?_ ?_ | rfl)
    · intro i ⟨hi, hp⟩
      repeat' (first | refine And.intro ?_ ?_ | exact tf | exact ft | refine tt ?_ | refine ff ?_ | exact ⟨trivial⟩ | exact sLe rfl | exact Chk.mk (by kernel_rfl) | exact ⟨Chk.mk (by kernel_rfl)⟩ | exact sLeEq rfl rfl | refine fun h => ?_)
      all_goals simp only [decide_eq_true_eq, decide_eq_false_iff_not, List.length_map, Bool.not_eq_true', Bool.not_eq_false', Bool.not_eq_eq_eq_not, Bool.not_true, Bool.not_false] at *
      · exact sRow (by omega) (row_at xs _ (by omega)) rfl
      · exact sRow (by omega) (row_at ys _ (by omega)) rfl
      · exact sAnd (by repeat' constructor) (c_eqMsg _ _ (hvx _ (getD_mem (by omega))) (hvy _ (getD_mem (by omega))))
      · refine ⟨?_⟩
        simp
        intro e; subst e; contradiction
      · refine ⟨i + 1, [], by omega, ⟨by omega, eq_upto hl (by omega) hp (by assumption)⟩, ?_⟩
        repeat' (first | exact trivial | exact ⟨rfl⟩ | exact Chk.mk (by kernel_rfl) | refine And.intro ?_ ?_ | rfl)
        exact ⟨by rw [wrapi] <;> omega⟩
      · refine ⟨?_⟩
        simp
        exact eq_all hl (by omega) hp

theorem c_toMsgS (xs : List Msg) (hx : xs.length ≤ lim) (hv : ∀ v ∈ xs, v.ok lim) :
    Pure PP false 38 [.one (.fz (xs.map Msg.cells))] (.one (.fz (xs.map Msg.cells))) := by
  have hx0 : xs.length ≤ 1048576 := hx
  refine Pure.vc [] TTok hmo Go.Proofs.Try.func38 (by kernel_rfl) rfl (by kernel_rfl) ?_
  repeat' (first | refine And.intro ?_ ?_ | exact tf | exact ft | refine tt ?_ | refine ff ?_ | exact ⟨trivial⟩ | exact sLe rfl | exact Chk.mk (by kernel_rfl) | exact ⟨Chk.mk (by kernel_rfl)⟩ | exact sLeEq rfl rfl | refine fun h => ?_)
  · refine ⟨?_⟩
    simp at *
    omega
  · refine W.loopC (D := Nat) (fun i => [(18, .row (xs.getD i default).cells), (20, .res (.agg (xs.getD i default).cells))]) TTok hmo
      (fun i => ⟨23, 1, [(0, .one (.ag (xs.map Msg.cells))), (2, .one .nil), (3, .one (.ref 0 0 xs.length)), (4, oi i)], [(0, .arr (part Msg.cells [i6 0, i6 0, i6 0, i6 0, i6 0, bo false, i6 0, i6 0, .nil, .nil, i6 0, i6 0, .nil] xs i))]⟩) (fun i => xs.length - i) (fun i => i ≤ xs.length) 0 [] (by omega) ?_ ?_
    · repeat' (first | exact trivial | exact ⟨rfl⟩ | exact Chk.mk (by kernel_rfl) | exact sPart0 (by simp) | exact sFlat Msg.flat rfl | refine And.intro ?_ ?_ | rfl)
      all_goals exact ⟨by simp⟩
    · intro i hi
      repeat' (first | refine And.intro ?_ ?_ | exact tf | exact ft | refine tt ?_ | refine ff ?_ | exact ⟨trivial⟩ | exact sLe rfl | exact Chk.mk (by kernel_rfl) | exact ⟨Chk.mk (by kernel_rfl)⟩ | exact sLeEq rfl rfl | refine fun h => ?_)
      all_goals simp only [decide_eq_true_eq, decide_eq_false_iff_not, List.length_map] at *
      · exact sRow (by omega) (row_at xs _ (by omega)) rfl
      · exact sAnd (by repeat' constructor) (c_toMsg _ (hv _ (getD_mem (by omega))))
      · exact sIdx (by omega) rfl rfl
      · exact sPut (by omega) rfl rfl
      · refine ⟨i + 1, [], by omega, by omega, ?_⟩
        repeat' (first | exact trivial | exact ⟨rfl⟩ | exact Chk.mk (by kernel_rfl) | exact ⟨wrap_succ (n := xs.length) (by omega) (by omega)⟩ | exact sPartS (by omega) rfl | exact sFlat Msg.flat rfl | refine And.intro ?_ ?_ | rfl)
      · refine ⟨⟨trivial, trivial⟩, ⟨part_end (by omega) rfl, ?_⟩, trivial⟩
        show AllF _
        rw [part_all (by omega)]
        exact map_frz Msg.frz

theorem c_toTold (x : Told)  :
    Pure PP false 71 [.agg x.cells] (.agg x.cells) := by
  refine Pure.vc [(9, .res (.agg x.q.cells))] TTok hmo Go.Proofs.Try.func71 (by kernel_rfl) rfl (by kernel_rfl) ?_
  repeat' (first | refine And.intro ?_ ?_ | exact tf | exact ft | refine tt ?_ | refine ff ?_ | exact ⟨trivial⟩ | exact sLe rfl | exact Chk.mk (by kernel_rfl) | exact ⟨Chk.mk (by kernel_rfl)⟩ | exact sLeEq rfl rfl | exact sAnd (by repeat' constructor) (c_toReq _) | refine fun h => ?_)
  all_goals (refine ⟨?_⟩; repeat' (first | exact trivial | exact Nat.le_of_ble_eq_true rfl | rfl | refine And.intro ?_ ?_))

theorem c_eqTold (x y : Told)  :
    Pure PP false 57 [.agg x.cells, .agg y.cells] (ob (decide (x = y))) := by
  obtain ⟨nd, q, c, v⟩ := x
  obtain ⟨nd', q', c', v'⟩ := y
  refine Pure.vc [(14, .res (ob (decide (q = q'))))] TTok hmo Go.Proofs.Try.func57 (by kernel_rfl) rfl (by kernel_rfl) ?_
  repeat' (first | refine And.intro ?_ ?_ | exact tf | exact ft | refine tt ?_ | refine ff ?_ | exact ⟨trivial⟩ | exact sLe rfl | exact Chk.mk (by kernel_rfl) | exact ⟨Chk.mk (by kernel_rfl)⟩ | exact sLeEq rfl rfl | exact sAnd (by repeat' constructor) (c_eqReq _ _) | refine fun h => ?_)
  all_goals (refine ⟨?_⟩; simp_all)
  all_goals rfl

theorem c_eqToldS (xs ys : List Told) (hx : xs.length ≤ maxLen) (hy : ys.length ≤ maxLen)  :
    Pure PP false 23 [.one (.fz (xs.map Told.cells)), .one (.fz (ys.map Told.cells))] (ob (decide (xs = ys))) := by
  refine Pure.vc [] TTok hmo Go.Proofs.Try.func23 (by kernel_rfl) rfl (by kernel_rfl) ?_
  repeat' (first | refine And.intro ?_ ?_ | exact tf | exact ft | refine tt ?_ | refine ff ?_ | exact ⟨trivial⟩ | exact sLe rfl | exact Chk.mk (by kernel_rfl) | exact ⟨Chk.mk (by kernel_rfl)⟩ | exact sLeEq rfl rfl | refine fun h => ?_)
  · refine ⟨?_⟩
    simp at *
    intro e; subst e; simp at h
  · have hl : xs.length = ys.length := by simp at h; omega
    unfold maxLen at hx hy
    refine W.loopC (D := Nat) (fun i => [(19, .row (xs.getD i default).cells), (23, .row (ys.getD i default).cells), (25, .res (ob (decide (xs.getD i default = ys.getD i default))))]) TTok hmo
      (fun i => ⟨27, 0, [(0, .one (.ag (xs.map Told.cells))), (1, .one (.ag (ys.map Told.cells))), (4, ob false), (5, oi i)], []⟩) (fun i => xs.length - i) (fun i => i ≤ xs.length ∧ xs.take i = ys.take i) 0 [] ⟨by omega, by simp⟩ ?_ ?_
    · repeat' (first | exact trivial | exact ⟨rfl⟩ | exact Chk.mk (by kernel_rfl) | refine And.intro ?_ ?_ | rfl)
    · intro i ⟨hi, hp⟩
      repeat' (first | refine And.intro ?_ ?_ | exact tf | exact ft | refine tt ?_ | refine ff ?_ | exact ⟨trivial⟩ | exact sLe rfl | exact Chk.mk (by kernel_rfl) | exact ⟨Chk.mk (by kernel_rfl)⟩ | exact sLeEq rfl rfl | exact sAnd (by repeat' constructor) (c_eqTold _ _) | refine fun h => ?_)
      all_goals simp only [decide_eq_true_eq, decide_eq_false_iff_not, List.length_map, Bool.not_eq_true', Bool.not_eq_false', Bool.not_eq_eq_eq_not, Bool.not_true, Bool.not_false] at *
      · exact sRow (by omega) (row_at xs _ (by omega)) rfl
      · exact sRow (by omega) (row_at ys _ (by omega)) rfl
      · refine ⟨?_⟩
        simp
        intro e; subst e; contradiction
      · refine ⟨i + 1, [], by omega, ⟨by omega, eq_upto hl (by omega) hp (by assumption)⟩, ?_⟩
        repeat' (first | exact trivial | exact ⟨rfl⟩ | exact Chk.mk (by kernel_rfl) | refine And.intro ?_ ?_ | rfl)
        exact ⟨by rw [wrapi] <;> omega⟩
      · refine ⟨?_⟩
        simp
        exact eq_all hl (by omega) hp

theorem c_toToldS (xs : List Told) (hx : xs.length ≤ lim)  :
    Pure PP false 40 [.one (.fz (xs.map Told.cells))] (.one (.fz (xs.map Told.cells))) := by
  have hx0 : xs.length ≤ 1048576 := hx
  refine Pure.vc [] TTok hmo Go.Proofs.Try.func40 (by kernel_rfl) rfl (by kernel_rfl) ?_
  repeat' (first | refine And.intro ?_ ?_ | exact tf | exact ft | refine tt ?_ | refine ff ?_ | exact ⟨trivial⟩ | exact sLe rfl | exact Chk.mk (by kernel_rfl) | exact ⟨Chk.mk (by kernel_rfl)⟩ | exact sLeEq rfl rfl | refine fun h => ?_)
  · refine ⟨?_⟩
    simp at *
    omega
  · refine W.loopC (D := Nat) (fun i => [(18, .row (xs.getD i default).cells), (20, .res (.agg (xs.getD i default).cells))]) TTok hmo
      (fun i => ⟨23, 1, [(0, .one (.ag (xs.map Told.cells))), (2, .one .nil), (3, .one (.ref 0 0 xs.length)), (4, oi i)], [(0, .arr (part Told.cells [i6 0, i6 0, i6 0, i6 0, i6 0] xs i))]⟩) (fun i => xs.length - i) (fun i => i ≤ xs.length) 0 [] (by omega) ?_ ?_
    · repeat' (first | exact trivial | exact ⟨rfl⟩ | exact Chk.mk (by kernel_rfl) | exact sPart0 (by simp) | exact sFlat Told.flat rfl | refine And.intro ?_ ?_ | rfl)
      all_goals exact ⟨by simp⟩
    · intro i hi
      repeat' (first | refine And.intro ?_ ?_ | exact tf | exact ft | refine tt ?_ | refine ff ?_ | exact ⟨trivial⟩ | exact sLe rfl | exact Chk.mk (by kernel_rfl) | exact ⟨Chk.mk (by kernel_rfl)⟩ | exact sLeEq rfl rfl | exact sAnd (by repeat' constructor) (c_toTold _) | refine fun h => ?_)
      all_goals simp only [decide_eq_true_eq, decide_eq_false_iff_not, List.length_map] at *
      · exact sRow (by omega) (row_at xs _ (by omega)) rfl
      · exact sIdx (by omega) rfl rfl
      · exact sPut (by omega) rfl rfl
      · refine ⟨i + 1, [], by omega, by omega, ?_⟩
        repeat' (first | exact trivial | exact ⟨rfl⟩ | exact Chk.mk (by kernel_rfl) | exact ⟨wrap_succ (n := xs.length) (by omega) (by omega)⟩ | exact sPartS (by omega) rfl | exact sFlat Told.flat rfl | refine And.intro ?_ ?_ | rfl)
      · refine ⟨⟨trivial, trivial⟩, ⟨part_end (by omega) rfl, ?_⟩, trivial⟩
        show AllF _
        rw [part_all (by omega)]
        exact map_frz Told.frz

theorem c_toAsked (x : Asked) (hx : x.ok lim) :
    Pure PP false 70 [.agg x.cells] (.agg x.cells) := by
  refine Pure.vc [(6, .res (.agg x.q.cells)), (10, .res (.one (.fz (x.prog.map Ins.cells))))] TTok hmo Go.Proofs.Try.func70 (by kernel_rfl) rfl (by kernel_rfl) ?_
  repeat' (first | refine And.intro ?_ ?_ | exact tf | exact ft | refine tt ?_ | refine ff ?_ | exact ⟨trivial⟩ | exact sLe rfl | exact Chk.mk (by kernel_rfl) | exact ⟨Chk.mk (by kernel_rfl)⟩ | exact sLeEq rfl rfl | exact sAnd (by repeat' constructor) (c_toReq _) | exact sAnd (by repeat' constructor) (c_toInsS _ hx) | refine fun h => ?_)
  all_goals (refine ⟨?_⟩; repeat' (first | exact trivial | exact Nat.le_of_ble_eq_true rfl | rfl | refine And.intro ?_ ?_))

theorem c_eqAsked (x y : Asked) (hx : x.ok lim) (hy : y.ok lim) :
    Pure PP false 56 [.agg x.cells, .agg y.cells] (ob (decide (x = y))) := by
  obtain ⟨q, ps⟩ := x
  obtain ⟨q', ps'⟩ := y
  refine Pure.vc [(9, .res (ob (decide (q = q')))), (15, .res (ob (decide (ps = ps'))))] TTok hmo Go.Proofs.Try.func56 (by kernel_rfl) rfl (by kernel_rfl) ?_
  repeat' (first | refine And.intro ?_ ?_ | exact tf | exact ft | refine tt ?_ | refine ff ?_ | exact ⟨trivial⟩ | exact sLe rfl | exact Chk.mk (by kernel_rfl) | exact ⟨Chk.mk (by kernel_rfl)⟩ | exact sLeEq rfl rfl | exact sAnd (by repeat' constructor) (c_eqReq _ _) | exact sAnd (by repeat' constructor) (c_eqInsS _ _ (Nat.le_trans hx (by decide)) (Nat.le_trans hy (by decide))) | refine fun h => ?_)
  all_goals (refine ⟨?_⟩; simp_all)
  all_goals rfl

theorem c_eqAskedS (xs ys : List Asked) (hx : xs.length ≤ maxLen) (hy : ys.length ≤ maxLen) (hvx : ∀ v ∈ xs, v.ok lim) (hvy : ∀ v ∈ ys, v.ok lim) :
    Pure PP false 22 [.one (.fz (xs.map Asked.cells)), .one (.fz (ys.map Asked.cells))] (ob (decide (xs = ys))) := by
  refine Pure.vc [] TTok hmo Go.Proofs.Try.func22 (by kernel_rfl) rfl (by kernel_rfl) ?_
  repeat' (first | refine And.intro ?_ ?_ | exact tf | exact ft | refine tt ?_ | refine ff ?_ | exact ⟨trivial⟩ | exact sLe rfl | exact Chk.mk (by kernel_rfl) | exact ⟨Chk.mk (by kernel_rfl)⟩ | exact sLeEq rfl rfl | refine fun h => ?_)
  · refine ⟨?_⟩
    simp at *
    intro e; subst e; simp at h
  · have hl : xs.length = ys.length := by simp at h; omega
    unfold maxLen at hx hy
    refine W.loopC (D := Nat) (fun i => [(19, .row (xs.getD i default).cells), (23, .row (ys.getD i default).cells), (25, .res (ob (decide (xs.getD i default = ys.getD i default))))]) TTok hmo
      (fun i => ⟨27, 0, [(0, .one (.ag (xs.map Asked.cells))), (1, .one (.ag (ys.map Asked.cells))), (4, ob false), (5, oi i)], []⟩) (fun i => xs.length - i) (fun i => i ≤ xs.length ∧ xs.take i = ys.take i) 0 [] ⟨by omega, by simp⟩ ?_ ?_
    · repeat' (first | exact trivial | exact ⟨rfl⟩ | exact Chk.mk (by kernel_rfl) | refine And.intro ?_ ?_ | rfl)
    · intro i ⟨hi, hp⟩
      repeat' (first | refine And.intro ?_ ?_ | exact tf | exact ft | refine tt ?_ | refine ff ?_ | exact ⟨trivial⟩ | exact sLe rfl | exact Chk.mk (by kernel_rfl) | exact ⟨Chk.mk (by kernel_rfl)⟩ | exact sLeEq rfl rfl | refine fun h => ?_)
      all_goals simp only [decide_eq_true_eq, decide_eq_false_iff_not, List.length_map, Bool.not_eq_true', Bool.not_eq_false', Bool.not_eq_eq_eq_not, Bool.not_true, Bool.not_false] at *
      · exact sRow (by omega) (row_at xs _ (by omega)) rfl
      · exact sRow (by omega) (row_at ys _ (by omega)) rfl
      · exact sAnd (by repeat' constructor) (c_eqAsked _ _ (hvx _ (getD_mem (by omega))) (hvy _ (getD_mem (by omega))))
      · refine ⟨?_⟩
        simp
        intro e; subst e; contradiction
      · refine ⟨i + 1, [], by omega, ⟨by omega, eq_upto hl (by omega) hp (by assumption)⟩, ?_⟩
        repeat' (first | exact trivial | exact ⟨rfl⟩ | exact Chk.mk (by kernel_rfl) | refine And.intro ?_ ?_ | rfl)
        exact ⟨by rw [wrapi] <;> omega⟩
      · refine ⟨?_⟩
        simp
        exact eq_all hl (by omega) hp

theorem c_toAskedS (xs : List Asked) (hx : xs.length ≤ lim) (hv : ∀ v ∈ xs, v.ok lim) :
    Pure PP false 39 [.one (.fz (xs.map Asked.cells))] (.one (.fz (xs.map Asked.cells))) := by
  have hx0 : xs.length ≤ 1048576 := hx
  refine Pure.vc [] TTok hmo Go.Proofs.Try.func39 (by kernel_rfl) rfl (by kernel_rfl) ?_
  repeat' (first | refine And.intro ?_ ?_ | exact tf | exact ft | refine tt ?_ | refine ff ?_ | exact ⟨trivial⟩ | exact sLe rfl | exact Chk.mk (by kernel_rfl) | exact ⟨Chk.mk (by kernel_rfl)⟩ | exact sLeEq rfl rfl | refine fun h => ?_)
  · refine ⟨?_⟩
    simp at *
    omega
  · refine W.loopC (D := Nat) (fun i => [(18, .row (xs.getD i default).cells), (20, .res (.agg (xs.getD i default).cells))]) TTok hmo
      (fun i => ⟨23, 1, [(0, .one (.ag (xs.map Asked.cells))), (2, .one .nil), (3, .one (.ref 0 0 xs.length)), (4, oi i)], [(0, .arr (part Asked.cells [i6 0, i6 0, .nil] xs i))]⟩) (fun i => xs.length - i) (fun i => i ≤ xs.length) 0 [] (by omega) ?_ ?_
    · repeat' (first | exact trivial | exact ⟨rfl⟩ | exact Chk.mk (by kernel_rfl) | exact sPart0 (by simp) | exact sFlat Asked.flat rfl | refine And.intro ?_ ?_ | rfl)
      all_goals exact ⟨by simp⟩
    · intro i hi
      repeat' (first | refine And.intro ?_ ?_ | exact tf | exact ft | refine tt ?_ | refine ff ?_ | exact ⟨trivial⟩ | exact sLe rfl | exact Chk.mk (by kernel_rfl) | exact ⟨Chk.mk (by kernel_rfl)⟩ | exact sLeEq rfl rfl | refine fun h => ?_)
      all_goals simp only [decide_eq_true_eq, decide_eq_false_iff_not, List.length_map] at *
      · exact sRow (by omega) (row_at xs _ (by omega)) rfl
      · exact sAnd (by repeat' constructor) (c_toAsked _ (hv _ (getD_mem (by omega))))
      · exact sIdx (by omega) rfl rfl
      · exact sPut (by omega) rfl rfl
      · refine ⟨i + 1, [], by omega, by omega, ?_⟩
        repeat' (first | exact trivial | exact ⟨rfl⟩ | exact Chk.mk (by kernel_rfl) | exact ⟨wrap_succ (n := xs.length) (by omega) (by omega)⟩ | exact sPartS (by omega) rfl | exact sFlat Asked.flat rfl | refine And.intro ?_ ?_ | rfl)
      · refine ⟨⟨trivial, trivial⟩, ⟨part_end (by omega) rfl, ?_⟩, trivial⟩
        show AllF _
        rw [part_all (by omega)]
        exact map_frz Asked.frz

theorem c_eqNodeS (xs ys : List Node) (hx : xs.length ≤ maxLen) (hy : ys.length ≤ maxLen) (hvx : ∀ v ∈ xs, v.ok lim) (hvy : ∀ v ∈ ys, v.ok lim) :
    Pure PP false 20 [.one (.fz (xs.map Node.cells)), .one (.fz (ys.map Node.cells))] (ob (decide (xs = ys))) := by
  refine Pure.vc [] TTok hmo Go.Proofs.Try.func20 (by kernel_rfl) rfl (by kernel_rfl) ?_
  repeat' (first | refine And.intro ?_ ?_ | exact tf | exact ft | refine tt ?_ | refine ff ?_ | exact ⟨trivial⟩ | exact sLe rfl | exact Chk.mk (by kernel_rfl) | exact ⟨Chk.mk (by kernel_rfl)⟩ | exact sLeEq rfl rfl | refine fun h => ?_)
  · refine ⟨?_⟩
    simp at *
    intro e; subst e; simp at h
  · have hl : xs.length = ys.length := by simp at h; omega
    unfold maxLen at hx hy
    refine W.loopC (D := Nat) (fun i => [(19, .row (xs.getD i default).cells), (23, .row (ys.getD i default).cells), (25, .res (ob (decide (xs.getD i default = ys.getD i default))))]) TTok hmo
      (fun i => ⟨27, 0, [(0, .one (.ag (xs.map Node.cells))), (1, .one (.ag (ys.map Node.cells))), (4, ob false), (5, oi i)], []⟩) (fun i => xs.length - i) (fun i => i ≤ xs.length ∧ xs.take i = ys.take i) 0 [] ⟨by omega, by simp⟩ ?_ ?_
    · repeat' (first | exact trivial | exact ⟨rfl⟩ | exact Chk.mk (by kernel_rfl) | refine And.intro ?_ ?_ | rfl)
    · intro i ⟨hi, hp⟩
      repeat' (first | refine And.intro ?_ ?_ | exact tf | exact ft | refine tt ?_ | refine ff ?_ | exact ⟨trivial⟩ | exact sLe rfl | exact Chk.mk (by kernel_rfl) | exact ⟨Chk.mk (by kernel_rfl)⟩ | exact sLeEq rfl rfl | refine fun h => ?_)
      all_goals simp only [decide_eq_true_eq, decide_eq_false_iff_not, List.length_map, Bool.not_eq_true', Bool.not_eq_false', Bool.not_eq_eq_eq_not, Bool.not_true, Bool.not_false] at *
      · exact sRow (by omega) (row_at xs _ (by omega)) rfl
      · exact sRow (by omega) (row_at ys _ (by omega)) rfl
      · exact sAnd (by repeat' constructor) (c_eqNode _ _ (hvx _ (getD_mem (by omega))) (hvy _ (getD_mem (by omega))))
      · refine ⟨?_⟩
        simp
        intro e; subst e; contradiction
      · refine ⟨i + 1, [], by omega, ⟨by omega, eq_upto hl (by omega) hp (by assumption)⟩, ?_⟩
        repeat' (first | exact trivial | exact ⟨rfl⟩ | exact Chk.mk (by kernel_rfl) | refine And.intro ?_ ?_ | rfl)
        exact ⟨by rw [wrapi] <;> omega⟩
      · refine ⟨?_⟩
        simp
        exact eq_all hl (by omega) hp

theorem c_toNodeS (xs : List Node) (hx : xs.length ≤ lim) (hv : ∀ v ∈ xs, v.ok lim) :
    Pure PP false 37 [.one (.fz (xs.map Node.cells))] (.one (.fz (xs.map Node.cells))) := by
  have hx0 : xs.length ≤ 1048576 := hx
  refine Pure.vc [] TTok hmo Go.Proofs.Try.func37 (by kernel_rfl) rfl (by kernel_rfl) ?_
  repeat' (first | refine And.intro ?_ ?_ | exact tf | exact ft | refine tt ?_ | refine ff ?_ | exact ⟨trivial⟩ | exact sLe rfl | exact Chk.mk (by kernel_rfl) | exact ⟨Chk.mk (by kernel_rfl)⟩ | exact sLeEq rfl rfl | refine fun h => ?_)
  · refine ⟨?_⟩
    simp at *
    omega
  · refine W.loopC (D := Nat) (fun i => [(18, .row (xs.getD i default).cells), (20, .res (.agg (xs.getD i default).cells))]) TTok hmo
      (fun i => ⟨23, 1, [(0, .one (.ag (xs.map Node.cells))), (2, .one .nil), (3, .one (.ref 0 0 xs.length)), (4, oi i)], [(0, .arr (part Node.cells [i6 0, i6 0, .nil, .nil, i6 0, i6 0, i6 0, .nil, .nil, bo false, i6 0, i6 0, .nil, .nil, i6 0, i6 0, .nil, bo false, .nil, bo false, i6 0, i6 0, .nil, .nil, i6 0, i6 0, .nil] xs i))]⟩) (fun i => xs.length - i) (fun i => i ≤ xs.length) 0 [] (by omega) ?_ ?_
    · repeat' (first | exact trivial | exact ⟨rfl⟩ | exact Chk.mk (by kernel_rfl) | exact sPart0 (by simp) | exact sFlat Node.flat rfl | refine And.intro ?_ ?_ | rfl)
      all_goals exact ⟨by simp⟩
    · intro i hi
      repeat' (first | refine And.intro ?_ ?_ | exact tf | exact ft | refine tt ?_ | refine ff ?_ | exact ⟨trivial⟩ | exact sLe rfl | exact Chk.mk (by kernel_rfl) | exact ⟨Chk.mk (by kernel_rfl)⟩ | exact sLeEq rfl rfl | refine fun h => ?_)
      all_goals simp only [decide_eq_true_eq, decide_eq_false_iff_not, List.length_map] at *
      · exact sRow (by omega) (row_at xs _ (by omega)) rfl
      · exact sAnd (by repeat' constructor) (c_toNode _ (hv _ (getD_mem (by omega))))
      · exact sIdx (by omega) rfl rfl
      · exact sPut (by omega) rfl rfl
      · refine ⟨i + 1, [], by omega, by omega, ?_⟩
        repeat' (first | exact trivial | exact ⟨rfl⟩ | exact Chk.mk (by kernel_rfl) | exact ⟨wrap_succ (n := xs.length) (by omega) (by omega)⟩ | exact sPartS (by omega) rfl | exact sFlat Node.flat rfl | refine And.intro ?_ ?_ | rfl)
      · refine ⟨⟨trivial, trivial⟩, ⟨part_end (by omega) rfl, ?_⟩, trivial⟩
        show AllF _
        rw [part_all (by omega)]
        exact map_frz Node.frz

theorem c_toWorld (x : World) (hx : x.ok lim) :
    Pure PP false 12 [.agg x.cells] (.agg x.cells) := by
  refine Pure.vc [(6, .res (.one (.fz (x.nodes.map Node.cells)))), (10, .res (.one (.fz (x.net.map Msg.cells)))), (14, .res (.one (.fz (x.asked.map Asked.cells)))), (18, .res (.one (.fz (x.told.map Told.cells))))] TTok hmo Go.Proofs.Try.func12 (by kernel_rfl) rfl (by kernel_rfl) ?_
  repeat' (first | refine And.intro ?_ ?_ | exact tf | exact ft | refine tt ?_ | refine ff ?_ | exact ⟨trivial⟩ | exact sLe rfl | exact Chk.mk (by kernel_rfl) | exact ⟨Chk.mk (by kernel_rfl)⟩ | exact sLeEq rfl rfl | exact sAnd (by repeat' constructor) (c_toNodeS _ hx.nodes.1 hx.nodes.2) | exact sAnd (by repeat' constructor) (c_toMsgS _ hx.net.1 hx.net.2) | exact sAnd (by repeat' constructor) (c_toAskedS _ hx.asked.1 hx.asked.2) | exact sAnd (by repeat' constructor) (c_toToldS _ hx.told) | refine fun h => ?_)
  all_goals (refine ⟨?_⟩; repeat' (first | exact trivial | exact Nat.le_of_ble_eq_true rfl | rfl | refine And.intro ?_ ?_))

theorem c_eqWorld (x y : World) (hx : x.ok lim) (hy : y.ok lim) :
    Pure PP false 7 [.agg x.cells, .agg y.cells] (ob (decide (x = y))) := by
  obtain ⟨ns, ms, aks, ts⟩ := x
  obtain ⟨ns', ms', aks', ts'⟩ := y
  refine Pure.vc [(9, .res (ob (decide (ns = ns')))), (15, .res (ob (decide (ms = ms')))), (21, .res (ob (decide (aks = aks')))), (27, .res (ob (decide (ts = ts'))))] TTok hmo Go.Proofs.Try.func7 (by kernel_rfl) rfl (by kernel_rfl) ?_
  repeat' (first | refine And.intro ?_ ?_ | exact tf | exact ft | refine tt ?_ | refine ff ?_ | exact ⟨trivial⟩ | exact sLe rfl | exact Chk.mk (by kernel_rfl) | exact ⟨Chk.mk (by kernel_rfl)⟩ | exact sLeEq rfl rfl | exact sAnd (by repeat' constructor) (c_eqNodeS _ _ (Nat.le_trans hx.nodes.1 (by decide)) (Nat.le_trans hy.nodes.1 (by decide)) hx.nodes.2 hy.nodes.2) | exact sAnd (by repeat' constructor) (c_eqMsgS _ _ (Nat.le_trans hx.net.1 (by decide)) (Nat.le_trans hy.net.1 (by decide)) hx.net.2 hy.net.2) | exact sAnd (by repeat' constructor) (c_eqAskedS _ _ (Nat.le_trans hx.asked.1 (by decide)) (Nat.le_trans hy.asked.1 (by decide)) hx.asked.2 hy.asked.2) | exact sAnd (by repeat' constructor) (c_eqToldS _ _ (Nat.le_trans hx.told (by decide)) (Nat.le_trans hy.told (by decide))) | refine fun h => ?_)
  all_goals (refine ⟨?_⟩; simp_all)
  all_goals rfl

end Mg
