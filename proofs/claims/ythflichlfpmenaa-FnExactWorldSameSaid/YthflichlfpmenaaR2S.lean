/- Sameness of worlds. No condition. -/
import Derived.Test.YthflichlfpmenaaR2F
import Derived.Test.YthflichlfpmenaaR1M
namespace Mg
open Go Go.RowKit
set_option maxRecDepth 100000
set_option linter.unusedVariables false
set_option linter.unusedSimpArgs false
attribute [local irreducible] W Pure
theorem Asked.eq_iff {x y : Asked} : x = y ↔ x.q = y.q ∧ x.prog = y.prog := by
  cases x; cases y; simp

set_option maxHeartbeats 8000000 in
theorem c_spec_WorldSame (x y : World) (hx : x.ok lim) (hy : y.ok lim) : Pure PP false 11 [.agg x.cells, .agg y.cells] (ob (decide (x = y))) := by
  obtain ⟨ns, ms, aks, ts⟩ := x
  obtain ⟨ns', ms', aks', ts'⟩ := y
  have hxn : ns.length ≤ 1048576 := hx.nodes.1
  have hxm : ms.length ≤ 1048576 := hx.net.1
  have hxa : aks.length ≤ 1048576 := hx.asked.1
  have hxt : ts.length ≤ 1048576 := hx.told
  have hyt : ts'.length ≤ 1048576 := hy.told
  have hx_nodes : ∀ v ∈ ns, v.ok lim := hx.nodes.2
  have hy_nodes : ∀ v ∈ ns', v.ok lim := hy.nodes.2
  have hx_net : ∀ v ∈ ms, v.ok lim := hx.net.2
  have hy_net : ∀ v ∈ ms', v.ok lim := hy.net.2
  have hx_asked : ∀ v ∈ aks, v.prog.length ≤ lim := hx.asked.2
  have hy_asked : ∀ v ∈ aks', v.prog.length ≤ lim := hy.asked.2
  refine Pure.vc [] TTok hmo Go.Proofs.Try.func11 (by kernel_rfl) rfl (by kernel_rfl) ?_
  repeat' (first | refine And.intro ?_ ?_ | exact tf | exact ft | refine tt ?_ | refine ff ?_ | exact ⟨trivial⟩ | exact sAll rfl | exact sLe rfl | exact Chk.mk (by kernel_rfl) | exact ⟨Chk.mk (by kernel_rfl)⟩ | exact sLeEq rfl rfl | refine fun h => ?_)
  all_goals try (refine Side.mk ⟨by simp, congrArg Value.bool (decide_eq_false ?_).symm, trivial⟩; intro e; cases e; simp_all; done)
  all_goals (have hln : ns.length = ns'.length := by simp_all; omega)
  all_goals (have hlm : ms.length = ms'.length := by simp_all; omega)
  all_goals (have hla : aks.length = aks'.length := by simp_all; omega)
  all_goals (have hlt : ts.length = ts'.length := by simp_all; omega)
  refine W.loopC (D := Nat) (fun i => [(53, .row (Node.cells (ns.getD i default))), (58, .row (Node.cells (ns'.getD i default))), (60, .res (ob (decide ((ns.getD i default) = (ns'.getD i default)))))]) TTok hmo
    (fun i => ⟨135, 2, [(2, .one (.ptr 0 0 0)), (3, .one (.ptr 1 0 0)), (4, ob false), (5, oi i)], [(0, .box [.ag (ns.map Node.cells), .ag (ms.map Msg.cells), .ag (aks.map Asked.cells), .ag (ts.map Told.cells)]), (1, .box [.ag (ns'.map Node.cells), .ag (ms'.map Msg.cells), .ag (aks'.map Asked.cells), .ag (ts'.map Told.cells)])]⟩) (fun i => ns.length - i) (fun i => i ≤ ns.length ∧ ns.take i = ns'.take i) 0 [] ⟨by omega, by simp⟩ ?_ ?_
  · repeat' (first | exact trivial | exact Side.mk rfl | exact Chk.mk (by kernel_rfl) | exact ⟨Chk.mk (by kernel_rfl)⟩ | refine And.intro ?_ ?_ | rfl)
    all_goals exact ⟨by simp⟩
  · intro i ⟨hi, hp⟩
    repeat' (first | refine And.intro ?_ ?_ | exact tf | exact ft | refine tt ?_ | refine ff ?_ | exact ⟨trivial⟩ | exact sAll rfl | exact sLe rfl | exact Chk.mk (by kernel_rfl) | exact ⟨Chk.mk (by kernel_rfl)⟩ | exact sLeEq rfl rfl | refine fun h => ?_)
    all_goals simp only [decide_eq_true_eq, decide_eq_false_iff_not, List.length_map, Bool.not_eq_true', Bool.not_eq_false', Bool.not_eq_eq_eq_not, Bool.not_true, Bool.not_false, bne_iff_ne, ne_eq, bne_eq_false_iff_eq, beq_iff_eq, beq_eq_false_iff_ne] at *
    all_goals try (exact sRow (by omega) (row_at ns _ (by omega)) rfl)
    all_goals try (exact sRow (by omega) (row_at ns' _ (by omega)) rfl)
    all_goals try (exact sAnd (by repeat' constructor) (c_spec_l9Node _ _ (hx_nodes _ (getD_mem (by omega))) (hy_nodes _ (getD_mem (by omega)))))
    all_goals try (refine Side.mk ⟨by simp, congrArg Value.bool (decide_eq_false ?_).symm, trivial⟩; intro e; cases e; simp_all)
    · refine ⟨i + 1, [], by omega, ⟨by omega, eq_upto hln (by omega) hp (by simp_all [])⟩, ?_⟩
      repeat' (first | exact trivial | exact Side.mk rfl | exact Chk.mk (by kernel_rfl) | exact ⟨Chk.mk (by kernel_rfl)⟩ | exact ⟨wrap_succ (n := ns.length) (by omega) (by omega)⟩ | refine And.intro ?_ ?_ | rfl)
    · have nse : ns = ns' := eq_all hln (by omega) hp
      clear hp
      refine W.loopC (D := Nat) (fun i => [(72, .row (Msg.cells (ms.getD i default))), (77, .row (Msg.cells (ms'.getD i default))), (79, .res (ob (decide ((ms.getD i default) = (ms'.getD i default)))))]) TTok hmo
        (fun i => ⟨135, 2, [(2, .one (.ptr 0 0 0)), (3, .one (.ptr 1 0 0)), (4, ob false), (6, oi i)], [(0, .box [.ag (ns.map Node.cells), .ag (ms.map Msg.cells), .ag (aks.map Asked.cells), .ag (ts.map Told.cells)]), (1, .box [.ag (ns'.map Node.cells), .ag (ms'.map Msg.cells), .ag (aks'.map Asked.cells), .ag (ts'.map Told.cells)])]⟩) (fun i => ms.length - i) (fun i => i ≤ ms.length ∧ ms.take i = ms'.take i) 0 [] ⟨by omega, by simp⟩ ?_ ?_
      · repeat' (first | exact trivial | exact Side.mk rfl | exact Chk.mk (by kernel_rfl) | exact ⟨Chk.mk (by kernel_rfl)⟩ | refine And.intro ?_ ?_ | rfl)
        all_goals exact ⟨by simp⟩
      · intro i ⟨hi, hp⟩
        repeat' (first | refine And.intro ?_ ?_ | exact tf | exact ft | refine tt ?_ | refine ff ?_ | exact ⟨trivial⟩ | exact sAll rfl | exact sLe rfl | exact Chk.mk (by kernel_rfl) | exact ⟨Chk.mk (by kernel_rfl)⟩ | exact sLeEq rfl rfl | refine fun h => ?_)
        all_goals simp only [decide_eq_true_eq, decide_eq_false_iff_not, List.length_map, Bool.not_eq_true', Bool.not_eq_false', Bool.not_eq_eq_eq_not, Bool.not_true, Bool.not_false, bne_iff_ne, ne_eq, bne_eq_false_iff_eq, beq_iff_eq, beq_eq_false_iff_ne] at *
        all_goals try (exact sRow (by omega) (row_at ms _ (by omega)) rfl)
        all_goals try (exact sRow (by omega) (row_at ms' _ (by omega)) rfl)
        all_goals try (exact sAnd (by repeat' constructor) (c_spec_MsgSame _ _ (hx_net _ (getD_mem (by omega))) (hy_net _ (getD_mem (by omega)))))
        all_goals try (refine Side.mk ⟨by simp, congrArg Value.bool (decide_eq_false ?_).symm, trivial⟩; intro e; cases e; simp_all)
        · refine ⟨i + 1, [], by omega, ⟨by omega, eq_upto hlm (by omega) hp (by simp_all [])⟩, ?_⟩
          repeat' (first | exact trivial | exact Side.mk rfl | exact Chk.mk (by kernel_rfl) | exact ⟨Chk.mk (by kernel_rfl)⟩ | exact ⟨wrap_succ (n := ms.length) (by omega) (by omega)⟩ | refine And.intro ?_ ?_ | rfl)
        · have mse : ms = ms' := eq_all hlm (by omega) hp
          clear hp
          refine W.loopC (D := Nat) (fun i => [(91, .row (Asked.cells (aks.getD i default))), (97, .row (Asked.cells (aks'.getD i default))), (105, .row (Asked.cells (aks.getD i default))), (111, .row (Asked.cells (aks'.getD i default))), (114, .res (ob (decide ((aks.getD i default).prog = (aks'.getD i default).prog))))]) TTok hmo
            (fun i => ⟨135, 2, [(2, .one (.ptr 0 0 0)), (3, .one (.ptr 1 0 0)), (4, ob false), (7, oi i)], [(0, .box [.ag (ns.map Node.cells), .ag (ms.map Msg.cells), .ag (aks.map Asked.cells), .ag (ts.map Told.cells)]), (1, .box [.ag (ns'.map Node.cells), .ag (ms'.map Msg.cells), .ag (aks'.map Asked.cells), .ag (ts'.map Told.cells)])]⟩) (fun i => aks.length - i) (fun i => i ≤ aks.length ∧ aks.take i = aks'.take i) 0 [] ⟨by omega, by simp⟩ ?_ ?_
          · repeat' (first | exact trivial | exact Side.mk rfl | exact Chk.mk (by kernel_rfl) | exact ⟨Chk.mk (by kernel_rfl)⟩ | refine And.intro ?_ ?_ | rfl)
            all_goals exact ⟨by simp⟩
          · intro i ⟨hi, hp⟩
            repeat' (first | refine And.intro ?_ ?_ | exact tf | exact ft | refine tt ?_ | refine ff ?_ | exact ⟨trivial⟩ | exact sAll rfl | exact sLe rfl | exact Chk.mk (by kernel_rfl) | exact ⟨Chk.mk (by kernel_rfl)⟩ | exact sLeEq rfl rfl | refine fun h => ?_)
            all_goals simp only [decide_eq_true_eq, decide_eq_false_iff_not, List.length_map, Bool.not_eq_true', Bool.not_eq_false', Bool.not_eq_eq_eq_not, Bool.not_true, Bool.not_false, bne_iff_ne, ne_eq, bne_eq_false_iff_eq, beq_iff_eq, beq_eq_false_iff_ne] at *
            all_goals try (exact sRow (by omega) (row_at aks _ (by omega)) rfl)
            all_goals try (exact sRow (by omega) (row_at aks' _ (by omega)) rfl)
            all_goals try (exact sAnd (by repeat' constructor) (c_spec_ProgSame _ _ (Nat.le_trans (hx_asked _ (getD_mem (by omega))) (by decide)) (Nat.le_trans (hy_asked _ (getD_mem (by omega))) (by decide))))
            all_goals try (refine Side.mk ⟨by simp, congrArg Value.bool (decide_eq_false ?_).symm, trivial⟩; intro e; cases e; simp_all)
            · refine ⟨i + 1, [], by omega, ⟨by omega, eq_upto hla (by omega) hp (by simp_all [Asked.eq_iff, Two.eq_iff])⟩, ?_⟩
              repeat' (first | exact trivial | exact Side.mk rfl | exact Chk.mk (by kernel_rfl) | exact ⟨Chk.mk (by kernel_rfl)⟩ | exact ⟨wrap_succ (n := aks.length) (by omega) (by omega)⟩ | refine And.intro ?_ ?_ | rfl)
            · have akse : aks = aks' := eq_all hla (by omega) hp
              clear hp
              refine W.loopC (D := Nat) (fun i => [(127, .row (Told.cells (ts.getD i default))), (132, .row (Told.cells (ts'.getD i default)))]) TTok hmo
                (fun i => ⟨135, 2, [(2, .one (.ptr 0 0 0)), (3, .one (.ptr 1 0 0)), (4, ob false), (8, oi i)], [(0, .box [.ag (ns.map Node.cells), .ag (ms.map Msg.cells), .ag (aks.map Asked.cells), .ag (ts.map Told.cells)]), (1, .box [.ag (ns'.map Node.cells), .ag (ms'.map Msg.cells), .ag (aks'.map Asked.cells), .ag (ts'.map Told.cells)])]⟩) (fun i => ts.length - i) (fun i => i ≤ ts.length ∧ ts.take i = ts'.take i) 0 [] ⟨by omega, by simp⟩ ?_ ?_
              · repeat' (first | exact trivial | exact Side.mk rfl | exact Chk.mk (by kernel_rfl) | exact ⟨Chk.mk (by kernel_rfl)⟩ | refine And.intro ?_ ?_ | rfl)
                all_goals exact ⟨by simp⟩
              · intro i ⟨hi, hp⟩
                repeat' (first | refine And.intro ?_ ?_ | exact tf | exact ft | refine tt ?_ | refine ff ?_ | exact ⟨trivial⟩ | exact sAll rfl | exact sLe rfl | exact Chk.mk (by kernel_rfl) | exact ⟨Chk.mk (by kernel_rfl)⟩ | exact sLeEq rfl rfl | refine fun h => ?_)
                all_goals simp only [decide_eq_true_eq, decide_eq_false_iff_not, List.length_map, Bool.not_eq_true', Bool.not_eq_false', Bool.not_eq_eq_eq_not, Bool.not_true, Bool.not_false, bne_iff_ne, ne_eq, bne_eq_false_iff_eq, beq_iff_eq, beq_eq_false_iff_ne] at *
                all_goals try (exact sRow (by omega) (row_at ts _ (by omega)) rfl)
                all_goals try (exact sRow (by omega) (row_at ts' _ (by omega)) rfl)
                all_goals try (refine Side.mk ⟨by simp, congrArg Value.bool (decide_eq_false ?_).symm, trivial⟩; intro e; cases e; simp_all)
                · refine ⟨i + 1, [], by omega, ⟨by omega, eq_upto hlt (by omega) hp (by simp_all [Told.eq_iff, Two.eq_iff])⟩, ?_⟩
                  repeat' (first | exact trivial | exact Side.mk rfl | exact Chk.mk (by kernel_rfl) | exact ⟨Chk.mk (by kernel_rfl)⟩ | exact ⟨wrap_succ (n := ts.length) (by omega) (by omega)⟩ | refine And.intro ?_ ?_ | rfl)
                · have tse : ts = ts' := eq_all hlt (by omega) hp
                  clear hp
                  refine ⟨?_⟩
                  simp_all

end Mg
