/- Worlds that are right, the other. No condition. -/
import Derived.Test.YthflichlfpmenaaGreatW2
namespace Mg
open Go Go.RowKit
set_option maxRecDepth 100000
set_option linter.unusedVariables false
set_option linter.unusedSimpArgs false
attribute [local irreducible] W Pure
set_option maxHeartbeats 8000000 in
theorem c_impl_WorldOk (x : World) (hx : x.ok lim) : Pure PP false 7 [.agg x.cells] (ob (worldOk x)) := by
  obtain ⟨ns, ms, aks, ts⟩ := x
  have hxn : ns.length ≤ 1048576 := hx.nodes.1
  have hxm : ms.length ≤ 1048576 := hx.net.1
  have hxa : aks.length ≤ 1048576 := hx.asked.1
  have hxt : ts.length ≤ 1048576 := hx.told
  have hx_nodes : ∀ v ∈ ns, v.ok lim := hx.nodes.2
  have hx_net : ∀ v ∈ ms, v.ok lim := hx.net.2
  have hx_asked : ∀ v ∈ aks, v.prog.length ≤ lim := hx.asked.2
  refine Pure.vc [] TTok hmo Go.Proofs.Tryz.func7 (by kernel_rfl) rfl (by kernel_rfl) ?_
  repeat' (first | refine And.intro ?_ ?_ | exact tf | exact ft | refine tt ?_ | refine ff ?_ | exact ⟨trivial⟩ | exact sAll rfl | exact sF1 rfl | exact sBld (by repeat' (first | exact trivial | rfl | exact Nat.le_of_ble_eq_true rfl | refine And.intro ?_ ?_)) rfl | exact sBS (by repeat' (first | exact trivial | rfl | exact Nat.le_of_ble_eq_true rfl | refine And.intro ?_ ?_)) rfl rfl rfl rfl | exact sLe rfl | exact Chk.mk (by kernel_rfl) | exact ⟨Chk.mk (by kernel_rfl)⟩ | exact sLeEq rfl rfl | refine fun h => ?_)
  all_goals try simp only [decide_eq_true_eq, decide_eq_false_iff_not, List.length_map, Bool.not_eq_true', Bool.not_eq_false', Bool.not_eq_eq_eq_not, Bool.not_true, Bool.not_false, bne_iff_ne, ne_eq, bne_eq_false_iff_eq, beq_iff_eq, beq_eq_false_iff_ne] at *
  all_goals try (exact sFalse ⟨trivial, trivial⟩ (wLen (by simp only; omega)))
  refine W.loopC (D := Nat) (fun i => [(39, .row (Node.cells (ns.getD i default))), (47, .res (ob (nodeOk (ns.getD i default))))]) TTok hmo
    (fun i => ⟨118, 1, [(1, .one (.ptr 0 0 0)), (2, ob false), (34, .one (.ag (ns.map Node.cells))), (35, oi ns.length), (36, oi i)], [(0, .box [.ag (ns.map Node.cells), .ag (ms.map Msg.cells), .ag (aks.map Asked.cells), .ag (ts.map Told.cells)])]⟩) (fun i => ns.length - i) (fun i => i ≤ ns.length ∧ ∀ j, j < i → nodeAt ns j = true) 0 [] ⟨by omega, by simp⟩ ?_ ?_
  · repeat' (first | exact trivial | exact Side.mk rfl | exact Chk.mk (by kernel_rfl) | exact ⟨Chk.mk (by kernel_rfl)⟩ | refine And.intro ?_ ?_ | rfl)
    all_goals exact ⟨by simp⟩
  · intro i ⟨hi, hp⟩
    repeat' (first | refine And.intro ?_ ?_ | exact tf | exact ft | refine tt ?_ | refine ff ?_ | exact ⟨trivial⟩ | exact sAll rfl | exact sF1 rfl | exact sBld (by repeat' (first | exact trivial | rfl | exact Nat.le_of_ble_eq_true rfl | refine And.intro ?_ ?_)) rfl | exact sBS (by repeat' (first | exact trivial | rfl | exact Nat.le_of_ble_eq_true rfl | refine And.intro ?_ ?_)) rfl rfl rfl rfl | exact sLe rfl | exact Chk.mk (by kernel_rfl) | exact ⟨Chk.mk (by kernel_rfl)⟩ | exact sLeEq rfl rfl | refine fun h => ?_)
    all_goals try simp only [decide_eq_true_eq, decide_eq_false_iff_not, List.length_map, Bool.not_eq_true', Bool.not_eq_false', Bool.not_eq_eq_eq_not, Bool.not_true, Bool.not_false, bne_iff_ne, ne_eq, bne_eq_false_iff_eq, beq_iff_eq, beq_eq_false_iff_ne] at *
    all_goals try (exact sRow (by omega) (row_at ns _ (by omega)) rfl)
    all_goals try (exact sAnd (by repeat' constructor) (c_impl_NodeOk _ (hx_nodes _ (getD_mem (by omega)))))
    all_goals try (exact sFalse ⟨trivial, trivial⟩ (wBad1 (nodes_bad (ns := ns) (i := i) (by omega) (nodeAt_f1 (by assumption)))))
    all_goals try (exact sFalse ⟨trivial, trivial⟩ (wBad1 (nodes_bad (ns := ns) (i := i) (by omega) (nodeAt_f2 (by assumption)))))
    · refine ⟨i + 1, [], by omega, ⟨by omega, nodes_step hp (nodeAt_t (by assumption) (by assumption))⟩, ?_⟩
      repeat' (first | exact trivial | exact Side.mk rfl | exact Chk.mk (by kernel_rfl) | exact ⟨Chk.mk (by kernel_rfl)⟩ | exact ⟨wrap_succ (n := ns.length) (by omega) (by omega)⟩ | refine And.intro ?_ ?_ | rfl)
    · have hns := nodes_end (by omega) hp
      clear hp
      refine W.loopC (D := Nat) (fun i => [(56, .row (Msg.cells (ms.getD i default))), (59, .res (ob (mOk (ms.getD i default))))]) TTok hmo
        (fun i => ⟨118, 1, [(1, .one (.ptr 0 0 0)), (2, ob false), (52, .one (.ag (ms.map Msg.cells))), (53, oi ms.length), (54, oi i)], [(0, .box [.ag (ns.map Node.cells), .ag (ms.map Msg.cells), .ag (aks.map Asked.cells), .ag (ts.map Told.cells)])]⟩) (fun i => ms.length - i) (fun i => i ≤ ms.length ∧ (ms.take i).all mOk = true) 0 [] ⟨by omega, by simp⟩ ?_ ?_
      · repeat' (first | exact trivial | exact Side.mk rfl | exact Chk.mk (by kernel_rfl) | exact ⟨Chk.mk (by kernel_rfl)⟩ | refine And.intro ?_ ?_ | rfl)
        all_goals exact ⟨by simp⟩
      · intro i ⟨hi, hp⟩
        repeat' (first | refine And.intro ?_ ?_ | exact tf | exact ft | refine tt ?_ | refine ff ?_ | exact ⟨trivial⟩ | exact sAll rfl | exact sF1 rfl | exact sBld (by repeat' (first | exact trivial | rfl | exact Nat.le_of_ble_eq_true rfl | refine And.intro ?_ ?_)) rfl | exact sBS (by repeat' (first | exact trivial | rfl | exact Nat.le_of_ble_eq_true rfl | refine And.intro ?_ ?_)) rfl rfl rfl rfl | exact sLe rfl | exact Chk.mk (by kernel_rfl) | exact ⟨Chk.mk (by kernel_rfl)⟩ | exact sLeEq rfl rfl | refine fun h => ?_)
        all_goals try simp only [decide_eq_true_eq, decide_eq_false_iff_not, List.length_map, Bool.not_eq_true', Bool.not_eq_false', Bool.not_eq_eq_eq_not, Bool.not_true, Bool.not_false, bne_iff_ne, ne_eq, bne_eq_false_iff_eq, beq_iff_eq, beq_eq_false_iff_ne] at *
        all_goals try (exact sRow (by omega) (row_at ms _ (by omega)) rfl)
        all_goals try (exact sAnd (by repeat' constructor) (c_impl_MsgOk' _ (hx_net _ (getD_mem (by omega)))))
        all_goals try (exact sFalse ⟨trivial, trivial⟩ (wBad2 (all_bad (xs := ms) (f := mOk) (i := i) (by omega) (by simp_all))))
        · refine ⟨i + 1, [], by omega, ⟨by omega, all_step (by omega) hp (by simp_all)⟩, ?_⟩
          repeat' (first | exact trivial | exact Side.mk rfl | exact Chk.mk (by kernel_rfl) | exact ⟨Chk.mk (by kernel_rfl)⟩ | exact ⟨wrap_succ (n := ms.length) (by omega) (by omega)⟩ | refine And.intro ?_ ?_ | rfl)
        · have hms := all_end (f := mOk) (by omega) hp
          clear hp
          refine W.loopC (D := Nat) (fun i => [(67, .row (Asked.cells (aks.getD i default))), (71, .res (ob (reqOk (aks.getD i default).q))), (76, .res (ob (progOk (aks.getD i default).prog)))]) TTok hmo
            (fun i => ⟨118, 1, [(1, .one (.ptr 0 0 0)), (2, ob false), (63, .one (.ag (aks.map Asked.cells))), (64, oi aks.length), (65, oi i)], [(0, .box [.ag (ns.map Node.cells), .ag (ms.map Msg.cells), .ag (aks.map Asked.cells), .ag (ts.map Told.cells)])]⟩) (fun i => aks.length - i) (fun i => i ≤ aks.length ∧ (aks.take i).all askOk = true) 0 [] ⟨by omega, by simp⟩ ?_ ?_
          · repeat' (first | exact trivial | exact Side.mk rfl | exact Chk.mk (by kernel_rfl) | exact ⟨Chk.mk (by kernel_rfl)⟩ | refine And.intro ?_ ?_ | rfl)
            all_goals exact ⟨by simp⟩
          · intro i ⟨hi, hp⟩
            repeat' (first | refine And.intro ?_ ?_ | exact tf | exact ft | refine tt ?_ | refine ff ?_ | exact ⟨trivial⟩ | exact sAll rfl | exact sF1 rfl | exact sBld (by repeat' (first | exact trivial | rfl | exact Nat.le_of_ble_eq_true rfl | refine And.intro ?_ ?_)) rfl | exact sBS (by repeat' (first | exact trivial | rfl | exact Nat.le_of_ble_eq_true rfl | refine And.intro ?_ ?_)) rfl rfl rfl rfl | exact sLe rfl | exact Chk.mk (by kernel_rfl) | exact ⟨Chk.mk (by kernel_rfl)⟩ | exact sLeEq rfl rfl | refine fun h => ?_)
            all_goals try simp only [decide_eq_true_eq, decide_eq_false_iff_not, List.length_map, Bool.not_eq_true', Bool.not_eq_false', Bool.not_eq_eq_eq_not, Bool.not_true, Bool.not_false, bne_iff_ne, ne_eq, bne_eq_false_iff_eq, beq_iff_eq, beq_eq_false_iff_ne] at *
            all_goals try (exact sRow (by omega) (row_at aks _ (by omega)) rfl)
            all_goals try (exact sAnd (by repeat' constructor) (c_reqOk _))
            all_goals try (exact sAnd (by repeat' constructor) (c_impl_ProgOk _ (Nat.le_trans (hx_asked _ (getD_mem (by omega))) (by decide))))
            all_goals try (exact sFalse ⟨trivial, trivial⟩ (wBad3 (all_bad (xs := aks) (f := askOk) (i := i) (by omega) (by simp_all [askOk]))))
            · refine ⟨i + 1, [], by omega, ⟨by omega, all_step (by omega) hp (by simp_all [askOk])⟩, ?_⟩
              repeat' (first | exact trivial | exact Side.mk rfl | exact Chk.mk (by kernel_rfl) | exact ⟨Chk.mk (by kernel_rfl)⟩ | exact ⟨wrap_succ (n := aks.length) (by omega) (by omega)⟩ | refine And.intro ?_ ?_ | rfl)
            · have haks := all_end (f := askOk) (by omega) hp
              clear hp
              refine W.loopC (D := Nat) (fun i => [(85, .row (Told.cells (ts.getD i default))), (89, .res (ob (inr (ts.getD i default).node 0 2))), (94, .res (ob (reqOk (ts.getD i default).q))), (108, .res (ob (inr (ts.getD i default).code 0 4))), (114, .res (ob (inr (ts.getD i default).val (-1000000) 1000000)))]) TTok hmo
                (fun i => ⟨118, 1, [(1, .one (.ptr 0 0 0)), (2, ob false), (81, .one (.ag (ts.map Told.cells))), (82, oi ts.length), (83, oi i)], [(0, .box [.ag (ns.map Node.cells), .ag (ms.map Msg.cells), .ag (aks.map Asked.cells), .ag (ts.map Told.cells)])]⟩) (fun i => ts.length - i) (fun i => i ≤ ts.length ∧ (ts.take i).all toldOk = true) 0 [] ⟨by omega, by simp⟩ ?_ ?_
              · repeat' (first | exact trivial | exact Side.mk rfl | exact Chk.mk (by kernel_rfl) | exact ⟨Chk.mk (by kernel_rfl)⟩ | refine And.intro ?_ ?_ | rfl)
                all_goals exact ⟨by simp⟩
              · intro i ⟨hi, hp⟩
                repeat' (first | refine And.intro ?_ ?_ | exact tf | exact ft | refine tt ?_ | refine ff ?_ | exact ⟨trivial⟩ | exact sAll rfl | exact sF1 rfl | exact sBld (by repeat' (first | exact trivial | rfl | exact Nat.le_of_ble_eq_true rfl | refine And.intro ?_ ?_)) rfl | exact sBS (by repeat' (first | exact trivial | rfl | exact Nat.le_of_ble_eq_true rfl | refine And.intro ?_ ?_)) rfl rfl rfl rfl | exact sLe rfl | exact Chk.mk (by kernel_rfl) | exact ⟨Chk.mk (by kernel_rfl)⟩ | exact sLeEq rfl rfl | exact sAnd (by repeat' constructor) (c_impl_in _ _ _) | refine fun h => ?_)
                all_goals try simp only [decide_eq_true_eq, decide_eq_false_iff_not, List.length_map, Bool.not_eq_true', Bool.not_eq_false', Bool.not_eq_eq_eq_not, Bool.not_true, Bool.not_false, bne_iff_ne, ne_eq, bne_eq_false_iff_eq, beq_iff_eq, beq_eq_false_iff_ne] at *
                all_goals try (exact sRow (by omega) (row_at ts _ (by omega)) rfl)
                all_goals try (exact sAnd (by repeat' constructor) (c_reqOk _))
                all_goals try (exact sFalse ⟨trivial, trivial⟩ (wBad4 (all_bad (xs := ts) (f := toldOk) (i := i) (by omega) (by simp_all [toldOk]))))
                · refine ⟨i + 1, [], by omega, ⟨by omega, all_step (by omega) hp (by simp_all [toldOk])⟩, ?_⟩
                  repeat' (first | exact trivial | exact Side.mk rfl | exact Chk.mk (by kernel_rfl) | exact ⟨Chk.mk (by kernel_rfl)⟩ | exact ⟨wrap_succ (n := ts.length) (by omega) (by omega)⟩ | refine And.intro ?_ ?_ | rfl)
                · have hts := all_end (f := toldOk) (by omega) hp
                  clear hp
                  refine Side.mk ⟨⟨trivial, trivial⟩, congrArg Value.bool (wGood hns hms haks hts (by simp only; omega) (by simp only; omega) (by simp only; omega) (by simp only; omega)).symm, trivial⟩

end Mg
