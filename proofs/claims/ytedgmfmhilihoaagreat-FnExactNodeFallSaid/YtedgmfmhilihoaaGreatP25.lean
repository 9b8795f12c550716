/- Parts of the abstract state logic and of the walks, one behind the other: E18, NF1, N0, N1, N2. No condition. -/
import Derived.Test.YtedgmfmhilihoaaGreatP19
import Derived.Test.YtedgmfmhilihoaaGreatP24
import Derived.Test.YtedgmfmhilihoaaGreatP18
import Derived.Test.YtedgmfmhilihoaaGreatP14
import Derived.Test.YtedgmfmhilihoaaGreatP16
/- Nodes turned into the program's kinds, as trees. No condition. -/
namespace Mg
open Go Go.RowKit
set_option maxRecDepth 100000
set_option linter.unusedVariables false
set_option linter.unusedSimpArgs false
attribute [local irreducible] W Pure

set_option maxHeartbeats 4000000 in
theorem t_toNode (x : Node) (hx : x.ok lim) : TPure PP 8 [.agg x.cells] (.agg x.cells) := by
  refine TPure.vc [(9, .tre true (fun _ => .agg x.acc.cells)), (13, .tre true (fun _ => .one (.fz (x.known.map Entry.cells)))), (26, .tre true (fun _ => .one (.fz (x.fro.map Bool.cells)))), (30, .tre true (fun _ => .one (.fz (x.best.map Vote.cells)))), (34, .tre true (fun _ => .agg x.cur.cells)), (38, .tre true (fun _ => .one (.fz (x.votes.map Bool.cells)))), (45, .tre true (fun _ => .one (.fz (x.prog.map Ins.cells)))), (49, .tre true (fun _ => .agg x.want.cells)), (53, .tre true (fun _ => .one (.fz (x.queue.map Entry.cells))))] TTok hmo Go.Proofs.Tryz.func8 (by kernel_rfl) rfl (by kernel_rfl) ?_
  repeat' (first | refine And.intro ?_ ?_ | exact tf | exact ft | refine tt ?_ | refine ff ?_ | exact ⟨trivial⟩ | exact sAll rfl | exact sF1 rfl | exact sBld (by repeat' (first | exact trivial | rfl | exact Nat.le_of_ble_eq_true rfl | refine And.intro ?_ ?_)) rfl | exact sBS (by repeat' (first | exact trivial | rfl | exact Nat.le_of_ble_eq_true rfl | refine And.intro ?_ ?_)) rfl rfl rfl rfl | exact sBSF (by repeat' (first | exact trivial | rfl | exact Nat.le_of_ble_eq_true rfl | refine And.intro ?_ ?_)) rfl rfl rfl rfl | exact sLe rfl | exact Chk.mk (by kernel_rfl) | exact ⟨Chk.mk (by kernel_rfl)⟩ | exact sLeEq rfl rfl | refine fun h => ?_)
  all_goals try (exact Side.mk (t_toAcc _ hx.acc))
  all_goals try (exact Side.mk (t_toEntryS _ hx.known.1 hx.known.2))
  all_goals try (exact Side.mk (t_toBoolS _ hx.fro))
  all_goals try (exact Side.mk (t_toVoteS _ hx.best.1 hx.best.2))
  all_goals try (exact Side.mk (t_toEntry _ hx.cur))
  all_goals try (exact Side.mk (t_toBoolS _ hx.votes))
  all_goals try (exact Side.mk (t_toInsS _ hx.prog))
  all_goals try (exact Side.mk (t_toEntry _ hx.want))
  all_goals try (exact Side.mk (t_toEntryS _ hx.queue.1 hx.queue.2))
  all_goals try (rename_i B0 hA0 hD0 B1 hA1 hD1 B2 hA2 hD2 B3 hA3 hD3 B4 hA4 hD4 B5 hA5 hD5 B6 hA6 hD6 B7 hA7 hD7 B8 hA8; refine Side.mk (apart_agg ?_); exact And.intro (And.intro (fun x h1 h2 => (hD1.st 2 _ rfl _ (List.mem_of_getElem? (i := 2) rfl)) x h1 ⟨0, 0, h2⟩) (And.intro (fun x h1 h2 => (hD2.st 2 _ rfl _ (List.mem_of_getElem? (i := 2) rfl)) x h1 ⟨0, 0, h2⟩) (And.intro (fun x h1 h2 => (hD3.st 2 _ rfl _ (List.mem_of_getElem? (i := 2) rfl)) x h1 ⟨0, 0, h2⟩) (And.intro (fun x h1 h2 => (hD4.st 2 _ rfl _ (List.mem_of_getElem? (i := 2) rfl)) x h1 ⟨0, 3, h2⟩) (And.intro (fun x h1 h2 => (hD4.st 2 _ rfl _ (List.mem_of_getElem? (i := 2) rfl)) x h1 ⟨0, 4, h2⟩) (And.intro (fun x h1 h2 => (hD5.st 2 _ rfl _ (List.mem_of_getElem? (i := 2) rfl)) x h1 ⟨0, 0, h2⟩) (And.intro (fun x h1 h2 => (hD6.st 2 _ rfl _ (List.mem_of_getElem? (i := 2) rfl)) x h1 ⟨0, 0, h2⟩) (And.intro (fun x h1 h2 => (hD7.st 2 _ rfl _ (List.mem_of_getElem? (i := 2) rfl)) x h1 ⟨0, 3, h2⟩) (And.intro (fun x h1 h2 => (hD7.st 2 _ rfl _ (List.mem_of_getElem? (i := 2) rfl)) x h1 ⟨0, 4, h2⟩) (And.intro (fun x h1 h2 => (h.st 2 _ rfl _ (List.mem_of_getElem? (i := 2) rfl)) x h1 ⟨0, 0, h2⟩) (trivial))))))))))) (And.intro (And.intro (fun x h1 h2 => (hD2.st 2 _ rfl _ (List.mem_of_getElem? (i := 3) rfl)) x h1 ⟨0, 0, h2⟩) (And.intro (fun x h1 h2 => (hD3.st 2 _ rfl _ (List.mem_of_getElem? (i := 3) rfl)) x h1 ⟨0, 0, h2⟩) (And.intro (fun x h1 h2 => (hD4.st 2 _ rfl _ (List.mem_of_getElem? (i := 3) rfl)) x h1 ⟨0, 3, h2⟩) (And.intro (fun x h1 h2 => (hD4.st 2 _ rfl _ (List.mem_of_getElem? (i := 3) rfl)) x h1 ⟨0, 4, h2⟩) (And.intro (fun x h1 h2 => (hD5.st 2 _ rfl _ (List.mem_of_getElem? (i := 3) rfl)) x h1 ⟨0, 0, h2⟩) (And.intro (fun x h1 h2 => (hD6.st 2 _ rfl _ (List.mem_of_getElem? (i := 3) rfl)) x h1 ⟨0, 0, h2⟩) (And.intro (fun x h1 h2 => (hD7.st 2 _ rfl _ (List.mem_of_getElem? (i := 3) rfl)) x h1 ⟨0, 3, h2⟩) (And.intro (fun x h1 h2 => (hD7.st 2 _ rfl _ (List.mem_of_getElem? (i := 3) rfl)) x h1 ⟨0, 4, h2⟩) (And.intro (fun x h1 h2 => (h.st 2 _ rfl _ (List.mem_of_getElem? (i := 3) rfl)) x h1 ⟨0, 0, h2⟩) (trivial)))))))))) (And.intro (And.intro (fun x h1 h2 => (hD3.st 2 _ rfl _ (List.mem_of_getElem? (i := 7) rfl)) x h1 ⟨0, 0, h2⟩) (And.intro (fun x h1 h2 => (hD4.st 2 _ rfl _ (List.mem_of_getElem? (i := 7) rfl)) x h1 ⟨0, 3, h2⟩) (And.intro (fun x h1 h2 => (hD4.st 2 _ rfl _ (List.mem_of_getElem? (i := 7) rfl)) x h1 ⟨0, 4, h2⟩) (And.intro (fun x h1 h2 => (hD5.st 2 _ rfl _ (List.mem_of_getElem? (i := 7) rfl)) x h1 ⟨0, 0, h2⟩) (And.intro (fun x h1 h2 => (hD6.st 2 _ rfl _ (List.mem_of_getElem? (i := 7) rfl)) x h1 ⟨0, 0, h2⟩) (And.intro (fun x h1 h2 => (hD7.st 2 _ rfl _ (List.mem_of_getElem? (i := 7) rfl)) x h1 ⟨0, 3, h2⟩) (And.intro (fun x h1 h2 => (hD7.st 2 _ rfl _ (List.mem_of_getElem? (i := 7) rfl)) x h1 ⟨0, 4, h2⟩) (And.intro (fun x h1 h2 => (h.st 2 _ rfl _ (List.mem_of_getElem? (i := 7) rfl)) x h1 ⟨0, 0, h2⟩) (trivial))))))))) (And.intro (And.intro (fun x h1 h2 => (hD4.st 2 _ rfl _ (List.mem_of_getElem? (i := 8) rfl)) x h1 ⟨0, 3, h2⟩) (And.intro (fun x h1 h2 => (hD4.st 2 _ rfl _ (List.mem_of_getElem? (i := 8) rfl)) x h1 ⟨0, 4, h2⟩) (And.intro (fun x h1 h2 => (hD5.st 2 _ rfl _ (List.mem_of_getElem? (i := 8) rfl)) x h1 ⟨0, 0, h2⟩) (And.intro (fun x h1 h2 => (hD6.st 2 _ rfl _ (List.mem_of_getElem? (i := 8) rfl)) x h1 ⟨0, 0, h2⟩) (And.intro (fun x h1 h2 => (hD7.st 2 _ rfl _ (List.mem_of_getElem? (i := 8) rfl)) x h1 ⟨0, 3, h2⟩) (And.intro (fun x h1 h2 => (hD7.st 2 _ rfl _ (List.mem_of_getElem? (i := 8) rfl)) x h1 ⟨0, 4, h2⟩) (And.intro (fun x h1 h2 => (h.st 2 _ rfl _ (List.mem_of_getElem? (i := 8) rfl)) x h1 ⟨0, 0, h2⟩) (trivial)))))))) (And.intro (And.intro (fun x h1 h2 => absurd (hA4 0 3 0 4 x h1 h2).2 (by decide)) (And.intro (fun x h1 h2 => (hD5.st 2 _ rfl _ (List.mem_of_getElem? (i := 12) rfl)) x h1 ⟨0, 0, h2⟩) (And.intro (fun x h1 h2 => (hD6.st 2 _ rfl _ (List.mem_of_getElem? (i := 12) rfl)) x h1 ⟨0, 0, h2⟩) (And.intro (fun x h1 h2 => (hD7.st 2 _ rfl _ (List.mem_of_getElem? (i := 12) rfl)) x h1 ⟨0, 3, h2⟩) (And.intro (fun x h1 h2 => (hD7.st 2 _ rfl _ (List.mem_of_getElem? (i := 12) rfl)) x h1 ⟨0, 4, h2⟩) (And.intro (fun x h1 h2 => (h.st 2 _ rfl _ (List.mem_of_getElem? (i := 12) rfl)) x h1 ⟨0, 0, h2⟩) (trivial))))))) (And.intro (And.intro (fun x h1 h2 => (hD5.st 2 _ rfl _ (List.mem_of_getElem? (i := 13) rfl)) x h1 ⟨0, 0, h2⟩) (And.intro (fun x h1 h2 => (hD6.st 2 _ rfl _ (List.mem_of_getElem? (i := 13) rfl)) x h1 ⟨0, 0, h2⟩) (And.intro (fun x h1 h2 => (hD7.st 2 _ rfl _ (List.mem_of_getElem? (i := 13) rfl)) x h1 ⟨0, 3, h2⟩) (And.intro (fun x h1 h2 => (hD7.st 2 _ rfl _ (List.mem_of_getElem? (i := 13) rfl)) x h1 ⟨0, 4, h2⟩) (And.intro (fun x h1 h2 => (h.st 2 _ rfl _ (List.mem_of_getElem? (i := 13) rfl)) x h1 ⟨0, 0, h2⟩) (trivial)))))) (And.intro (And.intro (fun x h1 h2 => (hD6.st 2 _ rfl _ (List.mem_of_getElem? (i := 16) rfl)) x h1 ⟨0, 0, h2⟩) (And.intro (fun x h1 h2 => (hD7.st 2 _ rfl _ (List.mem_of_getElem? (i := 16) rfl)) x h1 ⟨0, 3, h2⟩) (And.intro (fun x h1 h2 => (hD7.st 2 _ rfl _ (List.mem_of_getElem? (i := 16) rfl)) x h1 ⟨0, 4, h2⟩) (And.intro (fun x h1 h2 => (h.st 2 _ rfl _ (List.mem_of_getElem? (i := 16) rfl)) x h1 ⟨0, 0, h2⟩) (trivial))))) (And.intro (And.intro (fun x h1 h2 => (hD7.st 2 _ rfl _ (List.mem_of_getElem? (i := 18) rfl)) x h1 ⟨0, 3, h2⟩) (And.intro (fun x h1 h2 => (hD7.st 2 _ rfl _ (List.mem_of_getElem? (i := 18) rfl)) x h1 ⟨0, 4, h2⟩) (And.intro (fun x h1 h2 => (h.st 2 _ rfl _ (List.mem_of_getElem? (i := 18) rfl)) x h1 ⟨0, 0, h2⟩) (trivial)))) (And.intro (And.intro (fun x h1 h2 => absurd (hA7 0 3 0 4 x h1 h2).2 (by decide)) (And.intro (fun x h1 h2 => (h.st 2 _ rfl _ (List.mem_of_getElem? (i := 22) rfl)) x h1 ⟨0, 0, h2⟩) (trivial))) (And.intro (And.intro (fun x h1 h2 => (h.st 2 _ rfl _ (List.mem_of_getElem? (i := 23) rfl)) x h1 ⟨0, 0, h2⟩) (trivial)) (And.intro (trivial) (trivial))))))))))))
  all_goals first | exact trivial | exact Side.mk rfl | exact Side.mk (by repeat' (first | exact trivial | exact Nat.le_of_ble_eq_true rfl | rfl | refine And.intro ?_ ?_))

end Mg

/- Copies of lists and nodes in the program's own way, as trees. No condition. -/
namespace Mg
open Go Go.RowKit
set_option maxRecDepth 100000
set_option linter.unusedVariables false
set_option linter.unusedSimpArgs false
attribute [local irreducible] W Pure Con TPure

theorem p_copied_Bool (xs : List Bool) (hx : xs.length ≤ lim) : Pure PP false 105 [.one (.fz (xs.map Bool.cells))] (.one (.own (xs.map Bool.cells))) := by
  have hx0 : xs.length ≤ 1048576 := hx
  refine Pure.vc [] TTok hmo Go.Proofs.Tryz.func105 (by kernel_rfl) rfl (by kernel_rfl) ?_
  repeat' (first | refine And.intro ?_ ?_ | exact tf | exact ft | refine tt ?_ | refine ff ?_ | exact ⟨trivial⟩ | exact sAll rfl | exact sF1 rfl | exact sBld (by repeat' (first | exact trivial | rfl | exact Nat.le_of_ble_eq_true rfl | refine And.intro ?_ ?_)) rfl | exact sBS (by repeat' (first | exact trivial | rfl | exact Nat.le_of_ble_eq_true rfl | refine And.intro ?_ ?_)) rfl rfl rfl rfl | exact sBSF (by repeat' (first | exact trivial | rfl | exact Nat.le_of_ble_eq_true rfl | refine And.intro ?_ ?_)) rfl rfl rfl rfl | exact sLe rfl | exact Chk.mk (by kernel_rfl) | exact ⟨Chk.mk (by kernel_rfl)⟩ | exact sLeEq rfl rfl | refine fun h => ?_)
  · have h0 : xs = [] := by simp at h; exact h
    subst h0
    exact ⟨⟨trivial, trivial⟩, rfl, trivial⟩
  · exact sMk hx0 rfl
  · have h0 : 0 < xs.length := Nat.pos_of_ne_zero (fun e => by rw [List.length_map, e] at h; revert h; decide)
    exact sCp (toA_map fun _ => rfl) (by simp) (by simp) h0 rfl (fun _ => rfl)
  · have e := toA_map (c := Bool.cells) (xs := xs) fun _ => rfl
    exact ⟨⟨trivial, trivial⟩, ⟨rfl, by rw [e]; exact Int.toNat_natCast _, e, by rw [e]; exact allF Bool.frz⟩, trivial⟩
theorem t_copied_Bool (xs : List Bool) (hx : xs.length ≤ lim) : TPure PP 105 [.one (.fz (xs.map Bool.cells))] (.one (.fz (xs.map Bool.cells))) :=
  (p_copied_Bool xs hx).toT (.inr ⟨_, rfl, scMap fun _ => rfl⟩) rfl

theorem p_copied_Ins (xs : List Ins) (hx : xs.length ≤ lim) : Pure PP false 108 [.one (.fz (xs.map Ins.cells))] (.one (.own (xs.map Ins.cells))) := by
  have hx0 : xs.length ≤ 1048576 := hx
  refine Pure.vc [] TTok hmo Go.Proofs.Tryz.func108 (by kernel_rfl) rfl (by kernel_rfl) ?_
  repeat' (first | refine And.intro ?_ ?_ | exact tf | exact ft | refine tt ?_ | refine ff ?_ | exact ⟨trivial⟩ | exact sAll rfl | exact sF1 rfl | exact sBld (by repeat' (first | exact trivial | rfl | exact Nat.le_of_ble_eq_true rfl | refine And.intro ?_ ?_)) rfl | exact sBS (by repeat' (first | exact trivial | rfl | exact Nat.le_of_ble_eq_true rfl | refine And.intro ?_ ?_)) rfl rfl rfl rfl | exact sBSF (by repeat' (first | exact trivial | rfl | exact Nat.le_of_ble_eq_true rfl | refine And.intro ?_ ?_)) rfl rfl rfl rfl | exact sLe rfl | exact Chk.mk (by kernel_rfl) | exact ⟨Chk.mk (by kernel_rfl)⟩ | exact sLeEq rfl rfl | refine fun h => ?_)
  · have h0 : xs = [] := by simp at h; exact h
    subst h0
    exact ⟨⟨trivial, trivial⟩, rfl, trivial⟩
  · exact sMk hx0 rfl
  · have h0 : 0 < xs.length := Nat.pos_of_ne_zero (fun e => by rw [List.length_map, e] at h; revert h; decide)
    exact sCp (toA_map fun _ => rfl) (by simp) (by simp) h0 rfl (fun _ => rfl)
  · have e := toA_map (c := Ins.cells) (xs := xs) fun _ => rfl
    exact ⟨⟨trivial, trivial⟩, ⟨rfl, by rw [e]; exact Int.toNat_natCast _, e, by rw [e]; exact allF Ins.frz⟩, trivial⟩
theorem t_copied_Ins (xs : List Ins) (hx : xs.length ≤ lim) : TPure PP 108 [.one (.fz (xs.map Ins.cells))] (.one (.fz (xs.map Ins.cells))) :=
  (p_copied_Ins xs hx).toT (.inr ⟨_, rfl, scMap fun _ => rfl⟩) rfl

theorem c_copied_EntryU (vs : List Entry) (hx : vs.length ≤ lim) : Con PP 144 [.one (.fz (vs.map Entry.cells))] [] 0 (fun _ : Unit => True) (fun _ => .one (.ref 0 0 vs.length)) (fun _ => [.arr (vs.map Entry.cells)]) := by
  have hx0 : vs.length ≤ 1048576 := hx
  refine Con.vc [(700000, .row [])] TTok hmo Go.Proofs.Tryz.func144 rfl (by kernel_rfl) rfl (by kernel_rfl) ?_
  repeat' (first | refine And.intro ?_ ?_ | exact tf | exact ft | refine tt ?_ | refine ff ?_ | exact ⟨trivial⟩ | exact sAll rfl | exact sF1 rfl | exact sBld (by repeat' (first | exact trivial | rfl | exact Nat.le_of_ble_eq_true rfl | refine And.intro ?_ ?_)) rfl | exact sBS (by repeat' (first | exact trivial | rfl | exact Nat.le_of_ble_eq_true rfl | refine And.intro ?_ ?_)) rfl rfl rfl rfl | exact sBSF (by repeat' (first | exact trivial | rfl | exact Nat.le_of_ble_eq_true rfl | refine And.intro ?_ ?_)) rfl rfl rfl rfl | exact sLe rfl | exact Chk.mk (by kernel_rfl) | exact ⟨Chk.mk (by kernel_rfl)⟩ | exact sLeEq rfl rfl | refine fun h => ?_)
  · have h0 : vs = [] := by simp at h; exact h
    subst h0
    refine W.vslot 2 rfl (W.ret ?_)
    refine ⟨⟨trivial, trivial⟩, ?_⟩
    apply exU'; refine ⟨[], [], trivial, ?_⟩
    repeat' (first | exact trivial | exact ⟨trivial⟩ | exact Side.mk rfl | exact sF1 rfl | exact Chk.mk (by kernel_rfl) | exact ⟨Chk.mk (by kernel_rfl)⟩ | exact sMapF Entry.flat | refine And.intro ?_ ?_ | rfl)
  · exact sMk hx0 rfl
  · have h0 : 0 < vs.length := Nat.pos_of_ne_zero (fun e => by rw [List.length_map, e] at h; revert h; decide)
    exact sCp rfl (by simp) (by simp) h0 rfl (fun _ => rfl)
  · refine W.ret ?_
    refine ⟨⟨trivial, trivial⟩, ?_⟩
    apply exU'; refine ⟨[], [], trivial, ?_⟩
    repeat' (first | exact trivial | exact ⟨trivial⟩ | exact Side.mk rfl | exact sF1 rfl | exact Chk.mk (by kernel_rfl) | exact ⟨Chk.mk (by kernel_rfl)⟩ | exact sMapF Entry.flat | exact ⟨by simp⟩ | refine And.intro ?_ ?_ | rfl)
theorem t_entriesCopy (vs : List Entry) (hx : vs.length ≤ lim) (hv : ∀ v ∈ vs, v.ok lim) : TPure PP 104 [.one (.fz (vs.map Entry.cells))] (.one (.fz (vs.map Entry.cells))) := by
  have hx0 : vs.length ≤ 1048576 := hx
  have hlen : (vs.map Entry.cellsA).length = vs.length := List.length_map ..
  have hAf : ∀ r ∈ vs.map Entry.cellsA, ∀ d ∈ r, d.flat = true := fun r hr d hd => by
    obtain ⟨x, _, rfl⟩ := List.mem_map.1 hr
    exact List.all_eq_true.1 (show x.cellsA.all MC.flat = true from rfl) d hd
  refine TPure.vc [(6, .con true [] [] [] (sCpV vs.length))] TTok hmo Go.Proofs.Tryz.func104 (by kernel_rfl) rfl (by kernel_rfl) ?_
  repeat' (first | refine And.intro ?_ ?_ | exact tf | exact ft | refine tt ?_ | refine ff ?_ | exact ⟨trivial⟩ | exact sAll rfl | exact sF1 rfl | exact sBld (by repeat' (first | exact trivial | rfl | exact Nat.le_of_ble_eq_true rfl | refine And.intro ?_ ?_)) rfl | exact sBS (by repeat' (first | exact trivial | rfl | exact Nat.le_of_ble_eq_true rfl | refine And.intro ?_ ?_)) rfl rfl rfl rfl | exact sBSF (by repeat' (first | exact trivial | rfl | exact Nat.le_of_ble_eq_true rfl | refine And.intro ?_ ?_)) rfl rfl rfl rfl | exact sLe rfl | exact Chk.mk (by kernel_rfl) | exact ⟨Chk.mk (by kernel_rfl)⟩ | exact sLeEq rfl rfl | refine fun h => ?_)
  · exact ⟨c_copied_EntryU vs hx⟩
  · exact ⟨fun _ _ => trivial⟩
  · exact ⟨fun _ _ => ⟨trivial, trivial⟩⟩
  · refine W.loopC (D := Nat × (Nat → Nat → Tk)) (fun d => [(17, .res (.agg (vs.getD d.1 default).cellsA)), (18, .tre true (fun _ => .agg (vs.getD d.1 default).cells))]) TTok hmo (fun d => ⟨22, 1, [(3, .one (.ref 0 0 vs.length)), (8, oi vs.length), (9, oi d.1)], [(0, .arr (rowsT d.2 Entry.cells vs (vs.map Entry.cellsA) d.1))]⟩) (fun d => vs.length - d.1) (fun d => d.1 ≤ vs.length ∧ FillInv d.2 Entry.cells vs d.1) (0, fun _ _ => noTk) [] ⟨Nat.zero_le _, .zero⟩ ?_ ?_
    · repeat' (first | exact trivial | exact ⟨trivial⟩ | exact Side.mk rfl | exact sF1 rfl | exact Chk.mk (by kernel_rfl) | exact ⟨Chk.mk (by kernel_rfl)⟩ | exact sFlatT Entry.frz hAf | refine And.intro ?_ ?_ | rfl)
      exact ⟨by rw [rowsT_zero, List.map_map]; rfl⟩
    · intro ⟨i, Bf⟩ ⟨hi, hinv⟩
      dsimp only at hi hinv
      repeat' (first | refine And.intro ?_ ?_ | exact tf | exact ft | refine tt ?_ | refine ff ?_ | exact ⟨trivial⟩ | exact sAll rfl | exact sF1 rfl | exact sBld (by repeat' (first | exact trivial | rfl | exact Nat.le_of_ble_eq_true rfl | refine And.intro ?_ ?_)) rfl | exact sBS (by repeat' (first | exact trivial | rfl | exact Nat.le_of_ble_eq_true rfl | refine And.intro ?_ ?_)) rfl rfl rfl rfl | exact sBSF (by repeat' (first | exact trivial | rfl | exact Nat.le_of_ble_eq_true rfl | refine And.intro ?_ ?_)) rfl rfl rfl rfl | exact sLe rfl | exact Chk.mk (by kernel_rfl) | exact ⟨Chk.mk (by kernel_rfl)⟩ | exact sLeEq rfl rfl | refine fun h => ?_)
      all_goals try (exact endTree hinv hlen (by have h3 := of_decide_eq_false h; dsimp only at h3; omega) rfl Entry.frz)
      all_goals try (exact ⟨⟨trivial, trivial⟩⟩)
      all_goals try (have hl : i < vs.length := by (have h3 := of_decide_eq_true ‹decide ((i : Int) < (vs.length : Int)) = true›; omega))
      all_goals try (have hgA : (vs.map Entry.cellsA)[i]? = some (vs.getD i default).cellsA := by rw [List.getElem?_map, List.getElem?_eq_getElem hl, getD_get hl]; rfl)
      all_goals try (exact Side.mk (t_entryCopy _ (hv _ (getD_mem hl))))
      all_goals try (exact sIxT (i := i) hlen rfl hl rfl hgA rfl)
      all_goals try (exact sLdT (i := i) hlen (by simp) hl hgA rfl rfl)
      all_goals try (exact sStT (i := i) hlen (by simp) hl hgA rfl rfl)
      all_goals try (exact Side.mk (by repeat' constructor))
      · rename_i B hA
        refine ⟨(i + 1, updT Bf i (Entry.cells (vs.getD i default)) (B 0)), [], by dsimp only; omega, ⟨by dsimp only; omega, hinv.step hl hA (h.st 0 _ rfl)⟩, ?_⟩
        repeat' (first | exact trivial | exact ⟨trivial⟩ | exact Side.mk rfl | exact sF1 rfl | exact Chk.mk (by kernel_rfl) | exact ⟨Chk.mk (by kernel_rfl)⟩ | exact sSetT hlen (by simp) hl hgA rfl | exact sFlatT Entry.frz hAf | exact ⟨by rw [wrapi] <;> omega⟩ | refine And.intro ?_ ?_ | rfl)

end Mg

/- Programs that are right. No condition. -/
namespace Mg
open Go Go.RowKit
set_option maxRecDepth 100000
set_option linter.unusedVariables false
set_option linter.unusedSimpArgs false
attribute [local irreducible] W Pure
theorem c_l2Reg (n : Int) : Pure PP false 183 [oi n] (ob (inr n 0 3)) := by
  refine Pure.vc [] TTok hmo Go.Proofs.Tryz.func183 (by kernel_rfl) rfl (by kernel_rfl) ?_
  repeat' (first | refine And.intro ?_ ?_ | exact tf | exact ft | refine tt ?_ | refine ff ?_ | exact ⟨trivial⟩ | exact sAll rfl | exact sF1 rfl | exact sBld (by repeat' (first | exact trivial | rfl | exact Nat.le_of_ble_eq_true rfl | refine And.intro ?_ ?_)) rfl | exact sBS (by repeat' (first | exact trivial | rfl | exact Nat.le_of_ble_eq_true rfl | refine And.intro ?_ ?_)) rfl rfl rfl rfl | exact sBSF (by repeat' (first | exact trivial | rfl | exact Nat.le_of_ble_eq_true rfl | refine And.intro ?_ ?_)) rfl rfl rfl rfl | exact sLe rfl | exact Chk.mk (by kernel_rfl) | exact ⟨Chk.mk (by kernel_rfl)⟩ | exact sLeEq rfl rfl | refine fun h => ?_)
  all_goals (refine ⟨?_⟩; simp_all [inr])
  all_goals omega
def insOk (x : Ins) : Bool :=
  if x.kind = 1 then inr x.a 0 3 && inr x.b 0 3 && x.n == 0 else
  if x.kind = 2 then inr x.a 0 3 && inr x.b 0 3 && x.n == 0 else
  if x.kind = 3 then inr x.a 0 3 && x.b == 0 && inr x.n (-1000000) 1000000 else
  if x.kind = 4 then inr x.a 0 3 && inr x.b 0 3 && x.n == 0 else
  if x.kind = 5 then inr x.a 0 3 && inr x.b 0 3 && x.n == 0 else
  if x.kind = 6 then inr x.a 0 3 && inr x.b 0 3 && inr x.n 1 10 else
  if x.kind = 7 then x.a == 0 && x.b == 0 && x.n == 0 else false
theorem c_l2Ins (x : Ins) : Pure PP false 159 [.agg x.cells] (ob (insOk x)) := by
  obtain ⟨k, a, b, n⟩ := x
  refine Pure.vc [(9, .res (ob (inr a 0 3))), (13, .res (ob (inr b 0 3))), (24, .res (ob (inr a 0 3))), (28, .res (ob (inr b 0 3))), (39, .res (ob (inr a 0 3))), (48, .res (ob (inr n (-1000000) 1000000))), (55, .res (ob (inr a 0 3))), (59, .res (ob (inr b 0 3))), (70, .res (ob (inr a 0 3))), (74, .res (ob (inr b 0 3)))] TTok hmo Go.Proofs.Tryz.func159 (by kernel_rfl) rfl (by kernel_rfl) ?_
  repeat' (first | refine And.intro ?_ ?_ | exact tf | exact ft | refine tt ?_ | refine ff ?_ | exact ⟨trivial⟩ | exact sAll rfl | exact sF1 rfl | exact sBld (by repeat' (first | exact trivial | rfl | exact Nat.le_of_ble_eq_true rfl | refine And.intro ?_ ?_)) rfl | exact sBS (by repeat' (first | exact trivial | rfl | exact Nat.le_of_ble_eq_true rfl | refine And.intro ?_ ?_)) rfl rfl rfl rfl | exact sBSF (by repeat' (first | exact trivial | rfl | exact Nat.le_of_ble_eq_true rfl | refine And.intro ?_ ?_)) rfl rfl rfl rfl | exact sLe rfl | exact Chk.mk (by kernel_rfl) | exact ⟨Chk.mk (by kernel_rfl)⟩ | exact sLeEq rfl rfl | exact sAnd (by repeat' constructor) (c_l2Reg _) | exact sAnd (by repeat' constructor) (c_l2Box _) | exact sAnd (by repeat' constructor) (c_l1Num _) | refine fun h => ?_)
  all_goals (refine Side.mk ?_)
  all_goals simp_all [insOk]
  all_goals try (simp [inr]; omega)
def progOk (xs : List Ins) : Bool := decide (xs.length ≤ 10) && xs.all insOk
theorem c_spec_ProgOk (xs : List Ins) (hx : xs.length ≤ maxLen) : Pure PP false 131 [.one (.fz (xs.map Ins.cells))] (ob (progOk xs)) := by
  have hx' : xs.length ≤ 9223372036854775807 := hx
  refine Pure.vc [] TTok hmo Go.Proofs.Tryz.func131 (by kernel_rfl) rfl (by kernel_rfl) ?_
  repeat' (first | refine And.intro ?_ ?_ | exact tf | exact ft | refine tt ?_ | refine ff ?_ | exact ⟨trivial⟩ | exact sAll rfl | exact sF1 rfl | exact sBld (by repeat' (first | exact trivial | rfl | exact Nat.le_of_ble_eq_true rfl | refine And.intro ?_ ?_)) rfl | exact sBS (by repeat' (first | exact trivial | rfl | exact Nat.le_of_ble_eq_true rfl | refine And.intro ?_ ?_)) rfl rfl rfl rfl | exact sBSF (by repeat' (first | exact trivial | rfl | exact Nat.le_of_ble_eq_true rfl | refine And.intro ?_ ?_)) rfl rfl rfl rfl | exact sLe rfl | exact Chk.mk (by kernel_rfl) | exact ⟨Chk.mk (by kernel_rfl)⟩ | exact sLeEq rfl rfl | refine fun h => ?_)
  · refine ⟨?_⟩; simp_all [progOk]; omega
  refine W.loopC (D := Nat) (fun i => [(15, .row (xs.getD i default).cells), (17, .res (ob (insOk (xs.getD i default))))]) TTok hmo
    (fun i => ⟨19, 0, [(0, .one (.ag (xs.map Ins.cells))), (2, ob false), (3, oi i)], []⟩) (fun i => xs.length - i) (fun i => i ≤ xs.length ∧ (xs.take i).all insOk = true) 0 [] ⟨by omega, by simp⟩ ?_ ?_
  · show subC _ _ _ _
    repeat' (first | exact trivial | exact Side.mk rfl | exact Chk.mk (by kernel_rfl) | exact ⟨Chk.mk (by kernel_rfl)⟩ | refine And.intro ?_ ?_ | rfl)
  · intro i ⟨hi, hp⟩
    repeat' (first | refine And.intro ?_ ?_ | exact tf | exact ft | refine tt ?_ | refine ff ?_ | exact ⟨trivial⟩ | exact sAll rfl | exact sF1 rfl | exact sBld (by repeat' (first | exact trivial | rfl | exact Nat.le_of_ble_eq_true rfl | refine And.intro ?_ ?_)) rfl | exact sBS (by repeat' (first | exact trivial | rfl | exact Nat.le_of_ble_eq_true rfl | refine And.intro ?_ ?_)) rfl rfl rfl rfl | exact sBSF (by repeat' (first | exact trivial | rfl | exact Nat.le_of_ble_eq_true rfl | refine And.intro ?_ ?_)) rfl rfl rfl rfl | exact sLe rfl | exact Chk.mk (by kernel_rfl) | exact ⟨Chk.mk (by kernel_rfl)⟩ | exact sLeEq rfl rfl | exact sAnd (by repeat' constructor) (c_l2Ins _) | refine fun h => ?_)
    all_goals simp only [decide_eq_true_eq, decide_eq_false_iff_not, List.length_map, Bool.not_eq_true', Bool.not_eq_false', Bool.not_eq_eq_eq_not, Bool.not_true, Bool.not_false, bne_iff_ne, ne_eq, bne_eq_false_iff_eq, beq_iff_eq, beq_eq_false_iff_ne] at *
    · exact sRow (by omega) (row_at xs _ (by omega)) rfl
    · refine ⟨?_⟩; have := all_bad (f := insOk) (xs := xs) (i := i) (by omega) (by simp_all); simp [progOk, this]
    · refine ⟨i + 1, [], by omega, ⟨by omega, all_step (by omega) hp (by simp_all)⟩, ?_⟩
      repeat' (first | exact trivial | exact Side.mk rfl | exact Chk.mk (by kernel_rfl) | exact ⟨Chk.mk (by kernel_rfl)⟩ | exact ⟨wrap_succ (n := xs.length) (by omega) (by omega)⟩ | refine And.intro ?_ ?_ | rfl)
    · refine ⟨?_⟩; have := all_end (by omega) hp; simp [progOk, this]; omega
end Mg

/- Programs that are right; what a node has of leading. No condition. -/
namespace Mg
open Go Go.RowKit
set_option maxRecDepth 100000
set_option linter.unusedVariables false
set_option linter.unusedSimpArgs false
attribute [local irreducible] W Pure
theorem c_insOk1 (n : Int) : Pure PP false 167 [oi n] (ob (inr n 0 3)) := by
  refine Pure.vc [(4, .res (ob (inr n 0 3)))] TTok hmo Go.Proofs.Tryz.func167 (by kernel_rfl) rfl (by kernel_rfl) ?_
  repeat' (first | refine And.intro ?_ ?_ | exact tf | exact ft | refine tt ?_ | refine ff ?_ | exact ⟨trivial⟩ | exact sAll rfl | exact sF1 rfl | exact sBld (by repeat' (first | exact trivial | rfl | exact Nat.le_of_ble_eq_true rfl | refine And.intro ?_ ?_)) rfl | exact sBS (by repeat' (first | exact trivial | rfl | exact Nat.le_of_ble_eq_true rfl | refine And.intro ?_ ?_)) rfl rfl rfl rfl | exact sBSF (by repeat' (first | exact trivial | rfl | exact Nat.le_of_ble_eq_true rfl | refine And.intro ?_ ?_)) rfl rfl rfl rfl | exact sLe rfl | exact Chk.mk (by kernel_rfl) | exact ⟨Chk.mk (by kernel_rfl)⟩ | exact sLeEq rfl rfl | exact sAnd (by repeat' constructor) (c_impl_in _ _ _) | refine fun h => ?_)
  all_goals (refine ⟨?_⟩; simp_all)
theorem c_insOk2 (n : Int) : Pure PP false 168 [oi n] (ob (inr n 0 3)) := by
  refine Pure.vc [(4, .res (ob (inr n 0 3)))] TTok hmo Go.Proofs.Tryz.func168 (by kernel_rfl) rfl (by kernel_rfl) ?_
  repeat' (first | refine And.intro ?_ ?_ | exact tf | exact ft | refine tt ?_ | refine ff ?_ | exact ⟨trivial⟩ | exact sAll rfl | exact sF1 rfl | exact sBld (by repeat' (first | exact trivial | rfl | exact Nat.le_of_ble_eq_true rfl | refine And.intro ?_ ?_)) rfl | exact sBS (by repeat' (first | exact trivial | rfl | exact Nat.le_of_ble_eq_true rfl | refine And.intro ?_ ?_)) rfl rfl rfl rfl | exact sBSF (by repeat' (first | exact trivial | rfl | exact Nat.le_of_ble_eq_true rfl | refine And.intro ?_ ?_)) rfl rfl rfl rfl | exact sLe rfl | exact Chk.mk (by kernel_rfl) | exact ⟨Chk.mk (by kernel_rfl)⟩ | exact sLeEq rfl rfl | exact sAnd (by repeat' constructor) (c_impl_in _ _ _) | refine fun h => ?_)
  all_goals (refine ⟨?_⟩; simp_all)
theorem c_impl_insOk (x : Ins) : Pure PP false 141 [.agg x.cells] (ob (insOk x)) := by
  obtain ⟨k, a, b, n⟩ := x
  refine Pure.vc [(12, .res (ob (inr a 0 3))), (17, .res (ob (inr b 0 3))), (29, .res (ob (inr a 0 3))), (34, .res (ob (inr b 0 3))), (46, .res (ob (inr a 0 3))), (55, .res (ob (inr n (-1000000) 1000000))), (63, .res (ob (inr a 0 3))), (68, .res (ob (inr b 0 3))), (80, .res (ob (inr a 0 3))), (85, .res (ob (inr b 0 3))), (90, .res (ob (inr n 1 10)))] TTok hmo Go.Proofs.Tryz.func141 (by kernel_rfl) rfl (by kernel_rfl) ?_
  repeat' (first | refine And.intro ?_ ?_ | exact tf | exact ft | refine tt ?_ | refine ff ?_ | exact ⟨trivial⟩ | exact sAll rfl | exact sF1 rfl | exact sBld (by repeat' (first | exact trivial | rfl | exact Nat.le_of_ble_eq_true rfl | refine And.intro ?_ ?_)) rfl | exact sBS (by repeat' (first | exact trivial | rfl | exact Nat.le_of_ble_eq_true rfl | refine And.intro ?_ ?_)) rfl rfl rfl rfl | exact sBSF (by repeat' (first | exact trivial | rfl | exact Nat.le_of_ble_eq_true rfl | refine And.intro ?_ ?_)) rfl rfl rfl rfl | exact sLe rfl | exact Chk.mk (by kernel_rfl) | exact ⟨Chk.mk (by kernel_rfl)⟩ | exact sLeEq rfl rfl | exact sAnd (by repeat' constructor) (c_insOk1 _) | exact sAnd (by repeat' constructor) (c_insOk2 _) | exact sAnd (by repeat' constructor) (c_impl_in _ _ _) | refine fun h => ?_)
  all_goals (refine Side.mk ?_)
  all_goals simp_all [insOk]
theorem c_impl_ProgOk (xs : List Ins) (hx : xs.length ≤ maxLen) : Pure PP false 100 [.one (.fz (xs.map Ins.cells))] (ob (progOk xs)) := by
  have hx' : xs.length ≤ 9223372036854775807 := hx
  refine Pure.vc [] TTok hmo Go.Proofs.Tryz.func100 (by kernel_rfl) rfl (by kernel_rfl) ?_
  repeat' (first | refine And.intro ?_ ?_ | exact tf | exact ft | refine tt ?_ | refine ff ?_ | exact ⟨trivial⟩ | exact sAll rfl | exact sF1 rfl | exact sBld (by repeat' (first | exact trivial | rfl | exact Nat.le_of_ble_eq_true rfl | refine And.intro ?_ ?_)) rfl | exact sBS (by repeat' (first | exact trivial | rfl | exact Nat.le_of_ble_eq_true rfl | refine And.intro ?_ ?_)) rfl rfl rfl rfl | exact sBSF (by repeat' (first | exact trivial | rfl | exact Nat.le_of_ble_eq_true rfl | refine And.intro ?_ ?_)) rfl rfl rfl rfl | exact sLe rfl | exact Chk.mk (by kernel_rfl) | exact ⟨Chk.mk (by kernel_rfl)⟩ | exact sLeEq rfl rfl | refine fun h => ?_)
  refine W.loopC (D := Nat) (fun i => [(9, .row (xs.getD i default).cells), (12, .res (ob (insOk (xs.getD i default))))]) TTok hmo
    (fun i => ⟨18, 0, [(0, .one (.ag (xs.map Ins.cells))), (2, ob false), (5, .one (.ag (xs.map Ins.cells))), (6, oi xs.length), (7, oi i)], []⟩) (fun i => xs.length - i) (fun i => i ≤ xs.length ∧ (xs.take i).all insOk = true) 0 [] ⟨by omega, by simp⟩ ?_ ?_
  · show subC _ _ _ _
    repeat' (first | exact trivial | exact Side.mk rfl | exact Chk.mk (by kernel_rfl) | exact ⟨Chk.mk (by kernel_rfl)⟩ | refine And.intro ?_ ?_ | rfl)
    all_goals exact ⟨by simp⟩
  · intro i ⟨hi, hp⟩
    repeat' (first | refine And.intro ?_ ?_ | exact tf | exact ft | refine tt ?_ | refine ff ?_ | exact ⟨trivial⟩ | exact sAll rfl | exact sF1 rfl | exact sBld (by repeat' (first | exact trivial | rfl | exact Nat.le_of_ble_eq_true rfl | refine And.intro ?_ ?_)) rfl | exact sBS (by repeat' (first | exact trivial | rfl | exact Nat.le_of_ble_eq_true rfl | refine And.intro ?_ ?_)) rfl rfl rfl rfl | exact sBSF (by repeat' (first | exact trivial | rfl | exact Nat.le_of_ble_eq_true rfl | refine And.intro ?_ ?_)) rfl rfl rfl rfl | exact sLe rfl | exact Chk.mk (by kernel_rfl) | exact ⟨Chk.mk (by kernel_rfl)⟩ | exact sLeEq rfl rfl | exact sAnd (by repeat' constructor) (c_impl_insOk _) | refine fun h => ?_)
    all_goals simp only [decide_eq_true_eq, decide_eq_false_iff_not, List.length_map, Bool.not_eq_true', Bool.not_eq_false', Bool.not_eq_eq_eq_not, Bool.not_true, Bool.not_false, bne_iff_ne, ne_eq, bne_eq_false_iff_eq, beq_iff_eq, beq_eq_false_iff_ne] at *
    · exact sRow (by omega) (row_at xs _ (by omega)) rfl
    · refine ⟨?_⟩; have := all_bad (f := insOk) (xs := xs) (i := i) (by omega) (by simp_all); simp [progOk, this]
    · refine ⟨i + 1, [], by omega, ⟨by omega, all_step (by omega) hp (by simp_all)⟩, ?_⟩
      repeat' (first | exact trivial | exact Side.mk rfl | exact Chk.mk (by kernel_rfl) | exact ⟨Chk.mk (by kernel_rfl)⟩ | exact ⟨wrap_succ (n := xs.length) (by omega) (by omega)⟩ | refine And.intro ?_ ?_ | rfl)
    · refine ⟨?_⟩; have := all_end (by omega) hp; simp [progOk, this]; omega
def entsOk (xs : List Entry) : Bool := decide (xs.length ≤ 40) && xs.all entryOk
theorem c_l8Known (xs : List Entry) (hx : xs.length ≤ maxLen) (hv : ∀ v ∈ xs, v.ok lim) : Pure PP false 85 [.one (.fz (xs.map Entry.cells))] (ob (entsOk xs)) := by
  have hx' : xs.length ≤ 9223372036854775807 := hx
  refine Pure.vc [] TTok hmo Go.Proofs.Tryz.func85 (by kernel_rfl) rfl (by kernel_rfl) ?_
  repeat' (first | refine And.intro ?_ ?_ | exact tf | exact ft | refine tt ?_ | refine ff ?_ | exact ⟨trivial⟩ | exact sAll rfl | exact sF1 rfl | exact sBld (by repeat' (first | exact trivial | rfl | exact Nat.le_of_ble_eq_true rfl | refine And.intro ?_ ?_)) rfl | exact sBS (by repeat' (first | exact trivial | rfl | exact Nat.le_of_ble_eq_true rfl | refine And.intro ?_ ?_)) rfl rfl rfl rfl | exact sBSF (by repeat' (first | exact trivial | rfl | exact Nat.le_of_ble_eq_true rfl | refine And.intro ?_ ?_)) rfl rfl rfl rfl | exact sLe rfl | exact Chk.mk (by kernel_rfl) | exact ⟨Chk.mk (by kernel_rfl)⟩ | exact sLeEq rfl rfl | refine fun h => ?_)
  · refine ⟨?_⟩; simp_all [entsOk]; omega
  refine W.loopC (D := Nat) (fun i => [(15, .row (xs.getD i default).cells), (17, .res (ob (entryOk (xs.getD i default))))]) TTok hmo
    (fun i => ⟨19, 0, [(0, .one (.ag (xs.map Entry.cells))), (2, ob false), (3, oi i)], []⟩) (fun i => xs.length - i) (fun i => i ≤ xs.length ∧ (xs.take i).all entryOk = true) 0 [] ⟨by omega, by simp⟩ ?_ ?_
  · show subC _ _ _ _
    repeat' (first | exact trivial | exact Side.mk rfl | exact Chk.mk (by kernel_rfl) | exact ⟨Chk.mk (by kernel_rfl)⟩ | refine And.intro ?_ ?_ | rfl)
  · intro i ⟨hi, hp⟩
    repeat' (first | refine And.intro ?_ ?_ | exact tf | exact ft | refine tt ?_ | refine ff ?_ | exact ⟨trivial⟩ | exact sAll rfl | exact sF1 rfl | exact sBld (by repeat' (first | exact trivial | rfl | exact Nat.le_of_ble_eq_true rfl | refine And.intro ?_ ?_)) rfl | exact sBS (by repeat' (first | exact trivial | rfl | exact Nat.le_of_ble_eq_true rfl | refine And.intro ?_ ?_)) rfl rfl rfl rfl | exact sBSF (by repeat' (first | exact trivial | rfl | exact Nat.le_of_ble_eq_true rfl | refine And.intro ?_ ?_)) rfl rfl rfl rfl | exact sLe rfl | exact Chk.mk (by kernel_rfl) | exact ⟨Chk.mk (by kernel_rfl)⟩ | exact sLeEq rfl rfl | refine fun h => ?_)
    all_goals simp only [decide_eq_true_eq, decide_eq_false_iff_not, List.length_map, Bool.not_eq_true', Bool.not_eq_false', Bool.not_eq_eq_eq_not, Bool.not_true, Bool.not_false, bne_iff_ne, ne_eq, bne_eq_false_iff_eq, beq_iff_eq, beq_eq_false_iff_ne] at *
    · exact sRow (by omega) (row_at xs _ (by omega)) rfl
    · exact sAnd (by repeat' constructor) (c_spec_CertEntry _ (hv _ (getD_mem (by omega))))
    · refine ⟨?_⟩; have := all_bad (f := entryOk) (xs := xs) (i := i) (by omega) (by simp_all); simp [entsOk, this]
    · refine ⟨i + 1, [], by omega, ⟨by omega, all_step (by omega) hp (by simp_all)⟩, ?_⟩
      repeat' (first | exact trivial | exact Side.mk rfl | exact Chk.mk (by kernel_rfl) | exact ⟨Chk.mk (by kernel_rfl)⟩ | exact ⟨wrap_succ (n := xs.length) (by omega) (by omega)⟩ | refine And.intro ?_ ?_ | rfl)
    · refine ⟨?_⟩; have := all_end (by omega) hp; simp [entsOk, this]; omega
theorem c_impl_listOk (xs : List Entry) (hx : xs.length ≤ maxLen) (hv : ∀ v ∈ xs, v.ok lim) : Pure PP false 98 [.one (.fz (xs.map Entry.cells))] (ob (entsOk xs)) := by
  have hx' : xs.length ≤ 9223372036854775807 := hx
  refine Pure.vc [] TTok hmo Go.Proofs.Tryz.func98 (by kernel_rfl) rfl (by kernel_rfl) ?_
  repeat' (first | refine And.intro ?_ ?_ | exact tf | exact ft | refine tt ?_ | refine ff ?_ | exact ⟨trivial⟩ | exact sAll rfl | exact sF1 rfl | exact sBld (by repeat' (first | exact trivial | rfl | exact Nat.le_of_ble_eq_true rfl | refine And.intro ?_ ?_)) rfl | exact sBS (by repeat' (first | exact trivial | rfl | exact Nat.le_of_ble_eq_true rfl | refine And.intro ?_ ?_)) rfl rfl rfl rfl | exact sBSF (by repeat' (first | exact trivial | rfl | exact Nat.le_of_ble_eq_true rfl | refine And.intro ?_ ?_)) rfl rfl rfl rfl | exact sLe rfl | exact Chk.mk (by kernel_rfl) | exact ⟨Chk.mk (by kernel_rfl)⟩ | exact sLeEq rfl rfl | refine fun h => ?_)
  refine W.loopC (D := Nat) (fun i => [(9, .row (xs.getD i default).cells), (12, .res (ob (entryOk (xs.getD i default))))]) TTok hmo
    (fun i => ⟨18, 0, [(0, .one (.ag (xs.map Entry.cells))), (2, ob false), (5, .one (.ag (xs.map Entry.cells))), (6, oi xs.length), (7, oi i)], []⟩) (fun i => xs.length - i) (fun i => i ≤ xs.length ∧ (xs.take i).all entryOk = true) 0 [] ⟨by omega, by simp⟩ ?_ ?_
  · show subC _ _ _ _
    repeat' (first | exact trivial | exact Side.mk rfl | exact Chk.mk (by kernel_rfl) | exact ⟨Chk.mk (by kernel_rfl)⟩ | refine And.intro ?_ ?_ | rfl)
    all_goals exact ⟨by simp⟩
  · intro i ⟨hi, hp⟩
    repeat' (first | refine And.intro ?_ ?_ | exact tf | exact ft | refine tt ?_ | refine ff ?_ | exact ⟨trivial⟩ | exact sAll rfl | exact sF1 rfl | exact sBld (by repeat' (first | exact trivial | rfl | exact Nat.le_of_ble_eq_true rfl | refine And.intro ?_ ?_)) rfl | exact sBS (by repeat' (first | exact trivial | rfl | exact Nat.le_of_ble_eq_true rfl | refine And.intro ?_ ?_)) rfl rfl rfl rfl | exact sBSF (by repeat' (first | exact trivial | rfl | exact Nat.le_of_ble_eq_true rfl | refine And.intro ?_ ?_)) rfl rfl rfl rfl | exact sLe rfl | exact Chk.mk (by kernel_rfl) | exact ⟨Chk.mk (by kernel_rfl)⟩ | exact sLeEq rfl rfl | refine fun h => ?_)
    all_goals simp only [decide_eq_true_eq, decide_eq_false_iff_not, List.length_map, Bool.not_eq_true', Bool.not_eq_false', Bool.not_eq_eq_eq_not, Bool.not_true, Bool.not_false, bne_iff_ne, ne_eq, bne_eq_false_iff_eq, beq_iff_eq, beq_eq_false_iff_ne] at *
    · exact sRow (by omega) (row_at xs _ (by omega)) rfl
    · exact sAnd (by repeat' constructor) (c_impl_CertEntry _ (hv _ (getD_mem (by omega))))
    · refine ⟨?_⟩; have := all_bad (f := entryOk) (xs := xs) (i := i) (by omega) (by simp_all); simp [entsOk, this]
    · refine ⟨i + 1, [], by omega, ⟨by omega, all_step (by omega) hp (by simp_all)⟩, ?_⟩
      repeat' (first | exact trivial | exact Side.mk rfl | exact Chk.mk (by kernel_rfl) | exact ⟨Chk.mk (by kernel_rfl)⟩ | exact ⟨wrap_succ (n := xs.length) (by omega) (by omega)⟩ | refine And.intro ?_ ?_ | rfl)
    · refine ⟨?_⟩; have := all_end (by omega) hp; simp [entsOk, this]; omega
def owner (b : Int) : Int := if inr b 1 3000 = true then b.tmod 3 else -1
theorem c_impl_AccOwner (b : Int) : Pure PP false 122 [oi b] (oi (owner b)) := by
  refine Pure.vc [(4, .res (ob (inr b 1 3000)))] TTok hmo Go.Proofs.Tryz.func122 (by kernel_rfl) rfl (by kernel_rfl) ?_
  repeat' (first | refine And.intro ?_ ?_ | exact tf | exact ft | refine tt ?_ | refine ff ?_ | exact ⟨trivial⟩ | exact sAll rfl | exact sF1 rfl | exact sBld (by repeat' (first | exact trivial | rfl | exact Nat.le_of_ble_eq_true rfl | refine And.intro ?_ ?_)) rfl | exact sBS (by repeat' (first | exact trivial | rfl | exact Nat.le_of_ble_eq_true rfl | refine And.intro ?_ ?_)) rfl rfl rfl rfl | exact sBSF (by repeat' (first | exact trivial | rfl | exact Nat.le_of_ble_eq_true rfl | refine And.intro ?_ ?_)) rfl rfl rfl rfl | exact sLe rfl | exact Chk.mk (by kernel_rfl) | exact ⟨Chk.mk (by kernel_rfl)⟩ | exact sLeEq rfl rfl | exact sAnd (by repeat' constructor) (c_impl_in _ _ _) | refine fun h => ?_)
  all_goals try (exact ⟨by decide⟩)
  all_goals (refine ⟨?_⟩; simp_all [owner])
theorem c_spec_AccOwner (b : Int) : Pure PP false 130 [oi b] (oi (owner b)) := by
  refine Pure.vc [(4, .res (ob (inr b 1 3000)))] TTok hmo Go.Proofs.Tryz.func130 (by kernel_rfl) rfl (by kernel_rfl) ?_
  repeat' (first | refine And.intro ?_ ?_ | exact tf | exact ft | refine tt ?_ | refine ff ?_ | exact ⟨trivial⟩ | exact sAll rfl | exact sF1 rfl | exact sBld (by repeat' (first | exact trivial | rfl | exact Nat.le_of_ble_eq_true rfl | refine And.intro ?_ ?_)) rfl | exact sBS (by repeat' (first | exact trivial | rfl | exact Nat.le_of_ble_eq_true rfl | refine And.intro ?_ ?_)) rfl rfl rfl rfl | exact sBSF (by repeat' (first | exact trivial | rfl | exact Nat.le_of_ble_eq_true rfl | refine And.intro ?_ ?_)) rfl rfl rfl rfl | exact sLe rfl | exact Chk.mk (by kernel_rfl) | exact ⟨Chk.mk (by kernel_rfl)⟩ | exact sLeEq rfl rfl | exact sAnd (by repeat' constructor) (c_l6Bal _) | refine fun h => ?_)
  all_goals try (exact ⟨by decide⟩)
  all_goals (refine ⟨?_⟩; simp_all [owner])
def marksOk (l : List Bool) (id : Int) : Bool := ((l.length : Int) == 3) && l.getD id.toNat default
theorem bool_at {l : List Bool} {id : Int} (h : inr id 0 2 = true) (hl : (l.length : Int) = 3) : (l.map Bool.cells)[id.toNat]? = some (Bool.cells (l.getD id.toNat default)) := by
  simp only [inr, Bool.and_eq_true, decide_eq_true_eq] at h
  have hi : id.toNat < l.length := by omega
  rw [List.getElem?_map, List.getElem?_eq_getElem hi]
  simp [hi]
theorem c_impl_marksOk (l : List Bool) (id : Int) (hid : inr id 0 2 = true) : Pure PP false 143 [.one (.fz (l.map Bool.cells)), oi id] (ob (marksOk l id)) := by
  refine Pure.vc [(11, .row (Bool.cells (l.getD id.toNat default)))] TTok hmo Go.Proofs.Tryz.func143 (by kernel_rfl) rfl (by kernel_rfl) ?_
  repeat' (first | refine And.intro ?_ ?_ | exact tf | exact ft | refine tt ?_ | refine ff ?_ | exact ⟨trivial⟩ | exact sAll rfl | exact sF1 rfl | exact sBld (by repeat' (first | exact trivial | rfl | exact Nat.le_of_ble_eq_true rfl | refine And.intro ?_ ?_)) rfl | exact sBS (by repeat' (first | exact trivial | rfl | exact Nat.le_of_ble_eq_true rfl | refine And.intro ?_ ?_)) rfl rfl rfl rfl | exact sBSF (by repeat' (first | exact trivial | rfl | exact Nat.le_of_ble_eq_true rfl | refine And.intro ?_ ?_)) rfl rfl rfl rfl | exact sLe rfl | exact Chk.mk (by kernel_rfl) | exact ⟨Chk.mk (by kernel_rfl)⟩ | exact sLeEq rfl rfl | refine fun h => ?_)
  all_goals simp only [List.length_map, beq_iff_eq, beq_eq_false_iff_ne, ne_eq] at *
  · have h0 := hid
    simp only [inr, Bool.and_eq_true, decide_eq_true_eq] at h0
    exact sRow h0.1 (bool_at hid h) rfl
  all_goals (refine ⟨?_⟩; simp_all [marksOk])
end Mg

/- What a node has of leading, and what it was asked. No condition. -/
namespace Mg
open Go Go.RowKit
set_option maxRecDepth 100000
set_option linter.unusedVariables false
set_option linter.unusedSimpArgs false
attribute [local irreducible] W Pure
theorem c_l7None' (e : Entry) (he : e.ok lim) : Pure PP false 129 [.agg e.cells] (ob (decide (e = zeroE false))) := by
  obtain ⟨n, ⟨q1, q2⟩, r⟩ := e
  refine Pure.vc [(16, .res (ob (decide (r = zeroRun))))] TTok hmo Go.Proofs.Tryz.func129 (by kernel_rfl) rfl (by kernel_rfl) ?_
  repeat' (first | refine And.intro ?_ ?_ | exact tf | exact ft | refine tt ?_ | refine ff ?_ | exact ⟨trivial⟩ | exact sAll rfl | exact sF1 rfl | exact sBld (by repeat' (first | exact trivial | rfl | exact Nat.le_of_ble_eq_true rfl | refine And.intro ?_ ?_)) rfl | exact sBS (by repeat' (first | exact trivial | rfl | exact Nat.le_of_ble_eq_true rfl | refine And.intro ?_ ?_)) rfl rfl rfl rfl | exact sBSF (by repeat' (first | exact trivial | rfl | exact Nat.le_of_ble_eq_true rfl | refine And.intro ?_ ?_)) rfl rfl rfl rfl | exact sLe rfl | exact Chk.mk (by kernel_rfl) | exact ⟨Chk.mk (by kernel_rfl)⟩ | exact sLeEq rfl rfl | exact sAnd (by repeat' constructor) (c_spec_ExecSame _ zeroRun he zeroRun_ok) | refine fun h => ?_)
  all_goals (refine Side.mk ?_; simp_all [zeroE])
  all_goals repeat' (first | rfl | refine And.intro ?_ ?_)
def leadS (n : Node) : Bool :=
  if n.phase = 0 then n.bal == 0 && (n.fro.length : Int) == 0 && (n.best.length : Int) == 0 && decide (n.cur = zeroE false) && (n.votes.length : Int) == 0 else
  if n.phase = 1 then inr n.bal 1 3000 && decide (n.bal ≤ n.acc.p) && owner n.bal == n.id && (n.fro.length : Int) == 3 && n.fro.getD n.id.toNat default && votesOk n.best && decide (n.cur = zeroE false) && (n.votes.length : Int) == 0 else
  if n.phase = 2 then inr n.bal 1 3000 && decide (n.bal ≤ n.acc.p) && owner n.bal == n.id && (n.fro.length : Int) == 0 && votesOk n.best && decide (n.cur = zeroE false) && (n.votes.length : Int) == 0 else
  if n.phase = 3 then inr n.bal 1 3000 && decide (n.bal ≤ n.acc.p) && owner n.bal == n.id && (n.fro.length : Int) == 0 && votesOk n.best && entryOk n.cur && (n.votes.length : Int) == 3 && n.votes.getD n.id.toNat default && decide ((n.known.length : Int) < 40) else false
set_option maxHeartbeats 4000000 in
theorem c_l8Lead (n : Node) (hn : n.ok lim) (hid : inr n.id 0 2 = true) : Pure PP false 86 [.agg n.cells] (ob (leadS n)) := by
  obtain ⟨id, ac, kn, sq, ph, ba, fr, be, cu, vo, bu, pr, wa, qu⟩ := n
  have hid : inr id 0 2 = true := hid
  have hb := hn.best
  refine Pure.vc [(25, .res (ob (decide (cu = zeroE false)))), (37, .res (ob (inr ba 1 3000))), (49, .res (oi (owner ba))), (65, .row (Bool.cells (fr.getD id.toNat default))), (71, .res (ob (votesOk be))), (76, .res (ob (decide (cu = zeroE false)))), (89, .res (ob (inr ba 1 3000))), (102, .res (oi (owner ba))), (116, .res (ob (votesOk be))), (124, .res (ob (decide (cu = zeroE false)))), (133, .res (ob (entryOk cu))), (145, .row (Bool.cells (vo.getD id.toNat default)))] TTok hmo Go.Proofs.Tryz.func86 (by kernel_rfl) rfl (by kernel_rfl) ?_
  repeat' (first | refine And.intro ?_ ?_ | exact tf | exact ft | refine tt ?_ | refine ff ?_ | exact ⟨trivial⟩ | exact sAll rfl | exact sF1 rfl | exact sBld (by repeat' (first | exact trivial | rfl | exact Nat.le_of_ble_eq_true rfl | refine And.intro ?_ ?_)) rfl | exact sBS (by repeat' (first | exact trivial | rfl | exact Nat.le_of_ble_eq_true rfl | refine And.intro ?_ ?_)) rfl rfl rfl rfl | exact sBSF (by repeat' (first | exact trivial | rfl | exact Nat.le_of_ble_eq_true rfl | refine And.intro ?_ ?_)) rfl rfl rfl rfl | exact sLe rfl | exact Chk.mk (by kernel_rfl) | exact ⟨Chk.mk (by kernel_rfl)⟩ | exact sLeEq rfl rfl | exact sAnd (by repeat' constructor) (c_l7None' _ hn.cur) | exact sAnd (by repeat' constructor) (c_l6Bal _) | exact sAnd (by repeat' constructor) (c_spec_AccOwner _) | exact sAnd (by repeat' constructor) (c_l6Votes _ (Nat.le_trans hb.1 (by decide)) hb.2) | exact sAnd (by repeat' constructor) (c_spec_CertEntry _ hn.cur) | refine fun h => ?_)
  all_goals try dsimp only at *
  all_goals simp only [List.length_map, beq_iff_eq, beq_eq_false_iff_ne, ne_eq, decide_eq_true_eq, decide_eq_false_iff_not, Bool.not_eq_true', Bool.not_eq_false', bne_iff_ne, bne_eq_false_iff_eq] at *
  all_goals try (exact sRow (by simp only [inr, Bool.and_eq_true, decide_eq_true_eq] at hid; omega) (bool_at hid (by assumption)) rfl)
  all_goals (refine Side.mk ?_)
  all_goals simp_all [leadS]
  all_goals (intro hle; exfalso; omega)
def leadI (n : Node) : Bool :=
  if n.phase = 0 then n.bal == 0 && (n.fro.length : Int) == 0 && (n.best.length : Int) == 0 && (decide (n.cur = zeroE false) && (n.votes.length : Int) == 0) else
  if (!(owner n.bal == n.id) || !decide (n.bal ≤ n.acc.p) || !votesOk n.best) = true then false else
  if n.phase = 1 then marksOk n.fro n.id && (decide (n.cur = zeroE false) && (n.votes.length : Int) == 0) else
  if n.phase = 2 then (n.fro.length : Int) == 0 && (decide (n.cur = zeroE false) && (n.votes.length : Int) == 0) else
  if n.phase = 3 then (n.fro.length : Int) == 0 && entryOk n.cur && marksOk n.votes n.id && decide ((n.known.length : Int) < 40) else false
set_option maxHeartbeats 4000000 in
theorem c_impl_leadOk (n : Node) (hn : n.ok lim) (hid : inr n.id 0 2 = true) : Pure PP false 102 [.agg n.cells] (ob (leadI n)) := by
  obtain ⟨id, ac, kn, sq, ph, ba, fr, be, cu, vo, bu, pr, wa, qu⟩ := n
  have hid : inr id 0 2 = true := hid
  have hb := hn.best
  refine Pure.vc [(8, .res (ob (decide (cu = zeroE false)))), (39, .res (oi (owner ba))), (54, .res (ob (votesOk be))), (65, .res (ob (marksOk fr id))), (81, .res (ob (entryOk cu))), (88, .res (ob (marksOk vo id)))] TTok hmo Go.Proofs.Tryz.func102 (by kernel_rfl) rfl (by kernel_rfl) ?_
  repeat' (first | refine And.intro ?_ ?_ | exact tf | exact ft | refine tt ?_ | refine ff ?_ | exact ⟨trivial⟩ | exact sAll rfl | exact sF1 rfl | exact sBld (by repeat' (first | exact trivial | rfl | exact Nat.le_of_ble_eq_true rfl | refine And.intro ?_ ?_)) rfl | exact sBS (by repeat' (first | exact trivial | rfl | exact Nat.le_of_ble_eq_true rfl | refine And.intro ?_ ?_)) rfl rfl rfl rfl | exact sBSF (by repeat' (first | exact trivial | rfl | exact Nat.le_of_ble_eq_true rfl | refine And.intro ?_ ?_)) rfl rfl rfl rfl | exact sLe rfl | exact Chk.mk (by kernel_rfl) | exact ⟨Chk.mk (by kernel_rfl)⟩ | exact sLeEq rfl rfl | exact sAnd (by repeat' constructor) (c_impl_CertLike _ (zeroE false) hn.cur zeroRun_ok) | exact sAnd (by repeat' constructor) (c_impl_AccOwner _) | exact sAnd (by repeat' constructor) (c_impl_votesOk _ (Nat.le_trans hb.1 (by decide)) hb.2) | exact sAnd (by repeat' constructor) (c_impl_marksOk _ _ hid) | exact sAnd (by repeat' constructor) (c_impl_CertEntry _ hn.cur) | refine fun h => ?_)
  all_goals try dsimp only at *
  all_goals (refine Side.mk ?_)
  all_goals simp only [List.length_map, beq_iff_eq, beq_eq_false_iff_ne, ne_eq, decide_eq_true_eq, decide_eq_false_iff_not, Bool.not_eq_true', Bool.not_eq_false', bne_iff_ne, bne_eq_false_iff_eq] at *
  all_goals simp_all [leadI]
theorem lead_eq (n : Node) (hid : inr n.id 0 2 = true) : leadI n = leadS n := by
  have hO : owner n.bal = n.id → inr n.bal 1 3000 = true := fun h => by
    unfold owner at h
    split at h
    · assumption
    · simp only [inr, Bool.and_eq_true, decide_eq_true_eq] at hid; omega
  unfold leadI leadS marksOk
  by_cases h0 : n.phase = 0
  · simp [h0, Bool.and_assoc]
  by_cases ho : owner n.bal = n.id
  · have hB := hO ho
    rw [hB]
    by_cases h1 : n.phase = 1 <;> by_cases h2 : n.phase = 2 <;> by_cases h3 : n.phase = 3
    all_goals try (exfalso; omega)
    all_goals simp only [h0, h1, h2, h3, if_false, if_true, ho, beq_self_eq_true, Bool.true_and, Bool.not_true, Bool.false_or]
    all_goals (generalize decide (n.bal ≤ n.acc.p) = b1; generalize votesOk n.best = b2; generalize decide (n.cur = zeroE false) = b3; generalize entryOk n.cur = b4; generalize decide ((n.known.length : Int) < 40) = b5)
    all_goals (generalize ((n.fro.length : Int) == 0) = b6; generalize ((n.votes.length : Int) == 0) = b7; generalize ((n.fro.length : Int) == 3) = b8; generalize ((n.votes.length : Int) == 3) = b9; generalize n.fro.getD n.id.toNat default = c1; generalize n.votes.getD n.id.toNat default = c2)
    all_goals (cases b1 <;> cases b2 <;> cases b3 <;> cases b4 <;> cases b6 <;> cases b8 <;> cases c1 <;> simp)
  · have ho' : (owner n.bal == n.id) = false := by simpa using ho
    simp [h0, ho', ho]
def wantsOk (n : Node) : Bool := if n.busy = true then progOk n.prog && entryOk n.want && !n.want.none && decide (n.want.q = ⟨n.id, n.seq⟩) else (n.prog.length : Int) == 0 && decide (n.want = zeroE false)
theorem c_l8Wants (n : Node) (hn : n.ok lim) : Pure PP false 87 [.agg n.cells] (ob (wantsOk n)) := by
  obtain ⟨id, ac, kn, sq, ph, ba, fr, be, cu, vo, bu, pr, ⟨wn, ⟨q1, q2⟩, wr⟩, qu⟩ := n
  refine Pure.vc [(13, .res (ob (decide (Entry.mk wn ⟨q1, q2⟩ wr = zeroE false)))), (17, .res (ob (progOk pr))), (21, .res (ob (entryOk ⟨wn, ⟨q1, q2⟩, wr⟩)))] TTok hmo Go.Proofs.Tryz.func87 (by kernel_rfl) rfl (by kernel_rfl) ?_
  repeat' (first | refine And.intro ?_ ?_ | exact tf | exact ft | refine tt ?_ | refine ff ?_ | exact ⟨trivial⟩ | exact sAll rfl | exact sF1 rfl | exact sBld (by repeat' (first | exact trivial | rfl | exact Nat.le_of_ble_eq_true rfl | refine And.intro ?_ ?_)) rfl | exact sBS (by repeat' (first | exact trivial | rfl | exact Nat.le_of_ble_eq_true rfl | refine And.intro ?_ ?_)) rfl rfl rfl rfl | exact sBSF (by repeat' (first | exact trivial | rfl | exact Nat.le_of_ble_eq_true rfl | refine And.intro ?_ ?_)) rfl rfl rfl rfl | exact sLe rfl | exact Chk.mk (by kernel_rfl) | exact ⟨Chk.mk (by kernel_rfl)⟩ | exact sLeEq rfl rfl | exact sAnd (by repeat' constructor) (c_l7None' ⟨wn, ⟨q1, q2⟩, wr⟩ hn.want) | exact sAnd (by repeat' constructor) (c_spec_ProgOk _ (Nat.le_trans hn.prog (by decide))) | exact sAnd (by repeat' constructor) (c_spec_CertEntry ⟨wn, ⟨q1, q2⟩, wr⟩ hn.want) | refine fun h => ?_)
  all_goals (refine Side.mk ?_; simp_all [wantsOk])
  all_goals first
    | exact ⟨Nat.le_of_ble_eq_true rfl, rfl⟩
    | (rw [Bool.eq_iff_iff]; simp)
theorem all_split {α : Type} [Inhabited α] {f : α → Bool} {xs : List α} {i : Nat} (h : i < xs.length) (he : f (xs.getD i default) = false) : xs.all f = false := all_bad h he
def queueOk (e : Entry) : Bool := entryOk e && !e.none
@[reducible] def nodeA (id : Int) (ac : Acc) (kn : List Entry) (sq ph ba : Int) (fr : List Bool) (be : List Vote) (cu : Entry) (vo : List Bool) (bu : Bool) (pr : List Ins) (wa : Entry) (qu : List Entry) : List MC :=
  [i6 id, i6 ac.p, .ag (ac.votes.map Vote.cells), .ag (kn.map Entry.cells), i6 sq, i6 ph, i6 ba, .ag (fr.map Bool.cells), .ag (be.map Vote.cells), bo cu.none, i6 cu.q.a, i6 cu.q.b, .ag (cu.run.reads.map Two.cells), .ag (cu.run.puts.map Two.cells), i6 cu.run.c, i6 cu.run.d,
    .ag (vo.map Bool.cells), bo bu, .ag (pr.map Ins.cells), bo wa.none, i6 wa.q.a, i6 wa.q.b, .ag (wa.run.reads.map Two.cells), .ag (wa.run.puts.map Two.cells), i6 wa.run.c, i6 wa.run.d, .ag (qu.map Entry.cells)]
def nodeOk (n : Node) : Bool := inr n.id 0 2 && accOk n.acc && entsOk n.known && inr n.seq 0 1000 && decide ((n.queue.length : Int) ≤ 4) && leadS n && wantsOk n && n.queue.all queueOk
set_option maxHeartbeats 8000000 in
theorem c_spec_NodeOk (n : Node) (hn : n.ok lim) : Pure PP false 29 [.agg n.cells] (ob (nodeOk n)) := by
  by_cases hid : inr n.id 0 2 = true
  · have hl8 := c_l8Lead n hn hid
    have hw8 := c_l8Wants n hn
    obtain ⟨lb, hlb⟩ : ∃ lb, leadS n = lb := ⟨_, rfl⟩
    obtain ⟨wb, hwb⟩ : ∃ wb, wantsOk n = wb := ⟨_, rfl⟩
    rw [hlb] at hl8
    rw [hwb] at hw8
    have hN : nodeOk n = (inr n.id 0 2 && accOk n.acc && entsOk n.known && inr n.seq 0 1000 && decide ((n.queue.length : Int) ≤ 4) && lb && wb && n.queue.all queueOk) := by unfold nodeOk; rw [hlb, hwb]
    rw [hN]
    obtain ⟨id, ac, kn, sq, ph, ba, fr, be, cu, vo, bu, pr, wa, qu⟩ := n
    have hid : inr id 0 2 = true := hid
    have hk := hn.known
    have hql : qu.length ≤ 1048576 := hn.queue.1
    have hqu : ∀ v ∈ qu, v.ok lim := hn.queue.2
    refine Pure.vc [(15, .res (ob (accOk ac))), (21, .res (ob (entsOk kn))), (42, .res (ob lb)), (47, .res (ob wb))] TTok hmo Go.Proofs.Tryz.func29 (by kernel_rfl) rfl (by kernel_rfl) ?_
    repeat' (first | refine And.intro ?_ ?_ | exact tf | exact ft | refine tt ?_ | refine ff ?_ | exact ⟨trivial⟩ | exact sAll rfl | exact sF1 rfl | exact sBld (by repeat' (first | exact trivial | rfl | exact Nat.le_of_ble_eq_true rfl | refine And.intro ?_ ?_)) rfl | exact sBS (by repeat' (first | exact trivial | rfl | exact Nat.le_of_ble_eq_true rfl | refine And.intro ?_ ?_)) rfl rfl rfl rfl | exact sBSF (by repeat' (first | exact trivial | rfl | exact Nat.le_of_ble_eq_true rfl | refine And.intro ?_ ?_)) rfl rfl rfl rfl | exact sLe rfl | exact Chk.mk (by kernel_rfl) | exact ⟨Chk.mk (by kernel_rfl)⟩ | exact sLeEq rfl rfl | exact sAnd (by repeat' constructor) (c_spec_AccOk _ hn.acc) | exact sAnd (by repeat' constructor) (c_l8Known _ (Nat.le_trans hk.1 (by decide)) hk.2) | exact sAnd (by repeat' constructor) (hl8) | exact sAnd (by repeat' constructor) (hw8) | refine fun h => ?_)
    all_goals try dsimp only at *
    all_goals try simp only [List.length_map, beq_iff_eq, beq_eq_false_iff_ne, ne_eq, decide_eq_true_eq, decide_eq_false_iff_not, Bool.not_eq_true', Bool.not_eq_false', bne_iff_ne, bne_eq_false_iff_eq] at *
    all_goals try (refine Side.mk ?_; simp_all [inr]; done)
    all_goals try (refine Side.mk ?_; simp_all [inr]; omega)
    refine W.loopC (D := Nat) (fun i => [(60, .row (qu.getD i default).cells), (62, .res (ob (entryOk (qu.getD i default)))), (68, .row (qu.getD i default).cells)]) TTok hmo
      (fun i => ⟨72, 1, [(1, .one (.ptr 0 0 0)), (2, ob false), (3, oi i)], [(0, .box (nodeA id ac kn sq ph ba fr be cu vo bu pr wa qu))]⟩) (fun i => qu.length - i) (fun i => i ≤ qu.length ∧ (qu.take i).all queueOk = true) 0 [] ⟨by omega, by simp⟩ ?_ ?_
    · show subC _ _ _ _
      repeat' (first | exact trivial | exact Side.mk rfl | exact Chk.mk (by kernel_rfl) | exact ⟨Chk.mk (by kernel_rfl)⟩ | refine And.intro ?_ ?_ | rfl)
    · intro i ⟨hi, hp⟩
      clear hN hlb hwb hl8 hw8
      repeat' (first | refine And.intro ?_ ?_ | exact tf | exact ft | refine tt ?_ | refine ff ?_ | exact ⟨trivial⟩ | exact sAll rfl | exact sF1 rfl | exact sBld (by repeat' (first | exact trivial | rfl | exact Nat.le_of_ble_eq_true rfl | refine And.intro ?_ ?_)) rfl | exact sBS (by repeat' (first | exact trivial | rfl | exact Nat.le_of_ble_eq_true rfl | refine And.intro ?_ ?_)) rfl rfl rfl rfl | exact sBSF (by repeat' (first | exact trivial | rfl | exact Nat.le_of_ble_eq_true rfl | refine And.intro ?_ ?_)) rfl rfl rfl rfl | exact sLe rfl | exact Chk.mk (by kernel_rfl) | exact ⟨Chk.mk (by kernel_rfl)⟩ | exact sLeEq rfl rfl | refine fun h => ?_)
      all_goals simp only [decide_eq_true_eq, decide_eq_false_iff_not, List.length_map, Bool.not_eq_true', Bool.not_eq_false', Bool.not_eq_eq_eq_not, Bool.not_true, Bool.not_false, bne_iff_ne, ne_eq, bne_eq_false_iff_eq, beq_iff_eq, beq_eq_false_iff_ne] at *
      · exact sRow (by omega) (row_at qu _ (by omega)) rfl
      · exact sAnd (by repeat' constructor) (c_spec_CertEntry _ (hqu _ (getD_mem (by omega))))
      · exact sRow (by omega) (row_at qu _ (by omega)) rfl
      · refine ⟨?_⟩; have := all_bad (f := queueOk) (xs := qu) (i := i) (by omega) (by simp_all [queueOk]); simp [this]
      · refine ⟨i + 1, [], by omega, ⟨by omega, all_step (by omega) hp (by simp_all [queueOk])⟩, ?_⟩
        repeat' (first | exact trivial | exact Side.mk rfl | exact Chk.mk (by kernel_rfl) | exact ⟨Chk.mk (by kernel_rfl)⟩ | exact ⟨wrap_succ (n := qu.length) (by omega) (by omega)⟩ | refine And.intro ?_ ?_ | rfl)
      · refine ⟨?_⟩; have := all_bad (f := queueOk) (xs := qu) (i := i) (by omega) (by simp_all [queueOk]); simp [this]
      · refine ⟨?_⟩; have := all_end (by omega) hp; simp_all [inr]
  · have hN : nodeOk n = false := by
      have : inr n.id 0 2 = false := by simpa using hid
      simp [nodeOk, this]
    rw [hN]
    obtain ⟨id, ac, kn, sq, ph, ba, fr, be, cu, vo, bu, pr, wa, qu⟩ := n
    have hid : ¬ inr id 0 2 = true := hid
    by_cases h0 : id < 0
    · refine Pure.vc [] TTok hmo Go.Proofs.Tryz.func29 (by kernel_rfl) rfl (by kernel_rfl) ?_
      repeat' (first | refine And.intro ?_ ?_ | exact tf | exact ft | refine tt ?_ | refine ff ?_ | exact fun h => absurd h0 (of_decide_eq_false h) | exact ⟨trivial⟩ | exact sAll rfl | exact sF1 rfl | exact sBld (by repeat' (first | exact trivial | rfl | exact Nat.le_of_ble_eq_true rfl | refine And.intro ?_ ?_)) rfl | exact sBS (by repeat' (first | exact trivial | rfl | exact Nat.le_of_ble_eq_true rfl | refine And.intro ?_ ?_)) rfl rfl rfl rfl | exact sBSF (by repeat' (first | exact trivial | rfl | exact Nat.le_of_ble_eq_true rfl | refine And.intro ?_ ?_)) rfl rfl rfl rfl | exact sLe rfl | exact Chk.mk (by kernel_rfl) | exact ⟨Chk.mk (by kernel_rfl)⟩ | exact sLeEq rfl rfl | refine fun h => ?_)
      all_goals (refine Side.mk ?_; simp)
    have h3 : id ≥ 3 := by
      simp only [inr, Bool.and_eq_true, decide_eq_true_eq] at hid; omega
    refine Pure.vc [] TTok hmo Go.Proofs.Tryz.func29 (by kernel_rfl) rfl (by kernel_rfl) ?_
    repeat' (first | refine And.intro ?_ ?_ | exact tf | exact ft | refine tt ?_ | refine ff ?_ | exact fun h => absurd (of_decide_eq_true h) h0 | exact fun h => absurd h3 (of_decide_eq_false h) | exact ⟨trivial⟩ | exact sAll rfl | exact sF1 rfl | exact sBld (by repeat' (first | exact trivial | rfl | exact Nat.le_of_ble_eq_true rfl | refine And.intro ?_ ?_)) rfl | exact sBS (by repeat' (first | exact trivial | rfl | exact Nat.le_of_ble_eq_true rfl | refine And.intro ?_ ?_)) rfl rfl rfl rfl | exact sBSF (by repeat' (first | exact trivial | rfl | exact Nat.le_of_ble_eq_true rfl | refine And.intro ?_ ?_)) rfl rfl rfl rfl | exact sLe rfl | exact Chk.mk (by kernel_rfl) | exact ⟨Chk.mk (by kernel_rfl)⟩ | exact sLeEq rfl rfl | refine fun h => ?_)
    all_goals (refine Side.mk ?_; simp)
end Mg
