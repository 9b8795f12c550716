/- Worlds that are right. No condition. -/
import Derived.Test.YthflichlfpmenaaGreatN3
import Derived.Test.YthflichlfpmenaaGreatM1
namespace Mg
open Go Go.RowKit
set_option maxRecDepth 100000
set_option linter.unusedVariables false
set_option linter.unusedSimpArgs false
attribute [local irreducible] W Pure
theorem sFalse {p : Prop} (hp : p) {b : Bool} (h : b = false) : Side (p ∧ Value.bool false = Value.bool b ∧ True) := ⟨hp, congrArg Value.bool h.symm, trivial⟩
def nodeAt (ns : List Node) (i : Nat) : Bool := (ns.getD i default).id == (i : Int) && nodeOk (ns.getD i default)
theorem nodeAt_f1 {ns : List Node} {i : Nat} (h : ¬ (ns.getD i default).id = (i : Int)) : nodeAt ns i = false := by unfold nodeAt; rw [beq_eq_false_iff_ne.2 h]; rfl
theorem nodeAt_f2 {ns : List Node} {i : Nat} (h : nodeOk (ns.getD i default) = false) : nodeAt ns i = false := by unfold nodeAt; rw [h, Bool.and_false]
theorem nodeAt_t {ns : List Node} {i : Nat} (h : (ns.getD i default).id = (i : Int)) (h2 : nodeOk (ns.getD i default) = true) : nodeAt ns i = true := by unfold nodeAt; rw [h2, h]; simp
def nodesOk (ns : List Node) : Bool := (List.range ns.length).all (nodeAt ns)
theorem nodes_bad {ns : List Node} {i : Nat} (h : i < ns.length) (he : nodeAt ns i = false) : nodesOk ns = false := by
  unfold nodesOk
  rw [List.all_eq_false]
  exact ⟨i, List.mem_range.2 h, by rw [he]; simp⟩
theorem nodes_end {ns : List Node} {i : Nat} (h : ns.length ≤ i) (hp : ∀ j, j < i → nodeAt ns j = true) : nodesOk ns = true := by
  unfold nodesOk
  rw [List.all_eq_true]
  exact fun j hj => hp j (by have := List.mem_range.1 hj; omega)
theorem nodes_step {ns : List Node} {i : Nat} (hp : ∀ j, j < i → nodeAt ns j = true) (he : nodeAt ns i = true) : ∀ j, j < i + 1 → nodeAt ns j = true := fun j hj => by
  by_cases e : j = i
  · rw [e]; exact he
  · exact hp j (by omega)
def mOk (m : Msg) : Bool := msgOkS m.kind m.src m.dst m.bal m.slot m.e m.votes
theorem c_spec_MsgOk' (m : Msg) (hm : m.ok lim) : Pure PP false 14 [.agg m.cells] (ob (mOk m)) := c_spec_MsgOk m hm
theorem c_impl_MsgOk' (m : Msg) (hm : m.ok lim) : Pure PP false 23 [.agg m.cells] (ob (mOk m)) := by
  have := c_impl_MsgOk m hm
  rw [msgOk_eq] at this
  exact this
def askOk (a : Asked) : Bool := reqOk a.q && progOk a.prog
def toldOk (t : Told) : Bool := inr t.node 0 2 && reqOk t.q && t.q.a == t.node && inr t.code 0 4 && inr t.val (-1000000) 1000000
theorem c_l9Told (t : Told) : Pure PP false 17 [.agg t.cells] (ob (toldOk t)) := by
  obtain ⟨n, ⟨q1, q2⟩, c, v⟩ := t
  refine Pure.vc [(14, .res (ob (reqOk ⟨q1, q2⟩))), (37, .res (ob (inr v (-1000000) 1000000)))] TTok hmo Go.Proofs.Tryz.func17 (by kernel_rfl) rfl (by kernel_rfl) ?_
  repeat' (first | refine And.intro ?_ ?_ | exact tf | exact ft | refine tt ?_ | refine ff ?_ | exact ⟨trivial⟩ | exact sAll rfl | exact sF1 rfl | exact sBld (by repeat' (first | exact trivial | rfl | exact Nat.le_of_ble_eq_true rfl | refine And.intro ?_ ?_)) rfl | exact sBS (by repeat' (first | exact trivial | rfl | exact Nat.le_of_ble_eq_true rfl | refine And.intro ?_ ?_)) rfl rfl rfl rfl | exact sLe rfl | exact Chk.mk (by kernel_rfl) | exact ⟨Chk.mk (by kernel_rfl)⟩ | exact sLeEq rfl rfl | exact sAnd (by repeat' constructor) (c_l5Req _) | exact sAnd (by repeat' constructor) (c_l1Num _) | refine fun h => ?_)
  all_goals (refine Side.mk ?_)
  all_goals simp_all [toldOk, inr]
  all_goals try omega
def worldOk (w : World) : Bool := decide ((w.nodes.length : Int) = 3) && decide ((w.net.length : Int) ≤ 40) && decide ((w.asked.length : Int) ≤ 60) && decide ((w.told.length : Int) ≤ 60) && nodesOk w.nodes && w.net.all mOk && w.asked.all askOk && w.told.all toldOk
theorem wLen {w : World} (h : ¬ ((w.nodes.length : Int) = 3 ∧ (w.net.length : Int) ≤ 40 ∧ (w.asked.length : Int) ≤ 60 ∧ (w.told.length : Int) ≤ 60)) : worldOk w = false := by
  unfold worldOk
  rw [← Bool.not_eq_true]
  intro e
  simp only [Bool.and_eq_true, decide_eq_true_eq] at e
  exact h ⟨e.1.1.1.1.1.1.1, e.1.1.1.1.1.1.2, e.1.1.1.1.1.2, e.1.1.1.1.2⟩
theorem wBad1 {w : World} (h : nodesOk w.nodes = false) : worldOk w = false := by simp [worldOk, h]
theorem wBad2 {w : World} (h : w.net.all mOk = false) : worldOk w = false := by simp only [worldOk, h, Bool.and_false, Bool.false_and]
theorem wBad3 {w : World} (h : w.asked.all askOk = false) : worldOk w = false := by simp only [worldOk, h, Bool.and_false, Bool.false_and]
theorem wBad4 {w : World} (h : w.told.all toldOk = false) : worldOk w = false := by simp only [worldOk, h, Bool.and_false, Bool.false_and]
theorem wGood {w : World} (h1 : nodesOk w.nodes = true) (h2 : w.net.all mOk = true) (h3 : w.asked.all askOk = true) (h4 : w.told.all toldOk = true) (g1 : (w.nodes.length : Int) = 3) (g2 : (w.net.length : Int) ≤ 40) (g3 : (w.asked.length : Int) ≤ 60) (g4 : (w.told.length : Int) ≤ 60) : worldOk w = true := by
  simp only [worldOk, h1, h2, h3, h4, decide_eq_true g1, decide_eq_true g2, decide_eq_true g3, decide_eq_true g4, Bool.and_self]

set_option maxHeartbeats 8000000 in
theorem c_spec_WorldOk (x : World) (hx : x.ok lim) : Pure PP false 5 [.agg x.cells] (ob (worldOk x)) := by
  obtain ⟨ns, ms, aks, ts⟩ := x
  have hxn : ns.length ≤ 1048576 := hx.nodes.1
  have hxm : ms.length ≤ 1048576 := hx.net.1
  have hxa : aks.length ≤ 1048576 := hx.asked.1
  have hxt : ts.length ≤ 1048576 := hx.told
  have hx_nodes : ∀ v ∈ ns, v.ok lim := hx.nodes.2
  have hx_net : ∀ v ∈ ms, v.ok lim := hx.net.2
  have hx_asked : ∀ v ∈ aks, v.prog.length ≤ lim := hx.asked.2
  refine Pure.vc [] TTok hmo Go.Proofs.Tryz.func5 (by kernel_rfl) rfl (by kernel_rfl) ?_
  repeat' (first | refine And.intro ?_ ?_ | exact tf | exact ft | refine tt ?_ | refine ff ?_ | exact ⟨trivial⟩ | exact sAll rfl | exact sF1 rfl | exact sBld (by repeat' (first | exact trivial | rfl | exact Nat.le_of_ble_eq_true rfl | refine And.intro ?_ ?_)) rfl | exact sBS (by repeat' (first | exact trivial | rfl | exact Nat.le_of_ble_eq_true rfl | refine And.intro ?_ ?_)) rfl rfl rfl rfl | exact sLe rfl | exact Chk.mk (by kernel_rfl) | exact ⟨Chk.mk (by kernel_rfl)⟩ | exact sLeEq rfl rfl | refine fun h => ?_)
  all_goals try simp only [decide_eq_true_eq, decide_eq_false_iff_not, List.length_map, Bool.not_eq_true', Bool.not_eq_false', Bool.not_eq_eq_eq_not, Bool.not_true, Bool.not_false, bne_iff_ne, ne_eq, bne_eq_false_iff_eq, beq_iff_eq, beq_eq_false_iff_ne] at *
  all_goals try (exact sFalse ⟨trivial, trivial⟩ (wLen (by simp only; omega)))
  refine W.loopC (D := Nat) (fun i => [(39, .row (Node.cells (ns.getD i default))), (48, .row (Node.cells (ns.getD i default))), (50, .res (ob (nodeOk (ns.getD i default))))]) TTok hmo
    (fun i => ⟨106, 1, [(1, .one (.ptr 0 0 0)), (2, ob false), (3, oi i)], [(0, .box [.ag (ns.map Node.cells), .ag (ms.map Msg.cells), .ag (aks.map Asked.cells), .ag (ts.map Told.cells)])]⟩) (fun i => ns.length - i) (fun i => i ≤ ns.length ∧ ∀ j, j < i → nodeAt ns j = true) 0 [] ⟨by omega, by simp⟩ ?_ ?_
  · repeat' (first | exact trivial | exact Side.mk rfl | exact Chk.mk (by kernel_rfl) | exact ⟨Chk.mk (by kernel_rfl)⟩ | refine And.intro ?_ ?_ | rfl)
    all_goals exact ⟨by simp⟩
  · intro i ⟨hi, hp⟩
    repeat' (first | refine And.intro ?_ ?_ | exact tf | exact ft | refine tt ?_ | refine ff ?_ | exact ⟨trivial⟩ | exact sAll rfl | exact sF1 rfl | exact sBld (by repeat' (first | exact trivial | rfl | exact Nat.le_of_ble_eq_true rfl | refine And.intro ?_ ?_)) rfl | exact sBS (by repeat' (first | exact trivial | rfl | exact Nat.le_of_ble_eq_true rfl | refine And.intro ?_ ?_)) rfl rfl rfl rfl | exact sLe rfl | exact Chk.mk (by kernel_rfl) | exact ⟨Chk.mk (by kernel_rfl)⟩ | exact sLeEq rfl rfl | refine fun h => ?_)
    all_goals try simp only [decide_eq_true_eq, decide_eq_false_iff_not, List.length_map, Bool.not_eq_true', Bool.not_eq_false', Bool.not_eq_eq_eq_not, Bool.not_true, Bool.not_false, bne_iff_ne, ne_eq, bne_eq_false_iff_eq, beq_iff_eq, beq_eq_false_iff_ne] at *
    all_goals try (exact sRow (by omega) (row_at ns _ (by omega)) rfl)
    all_goals try (exact sAnd (by repeat' constructor) (c_spec_NodeOk _ (hx_nodes _ (getD_mem (by omega)))))
    all_goals try (exact sFalse ⟨trivial, trivial⟩ (wBad1 (nodes_bad (ns := ns) (i := i) (by omega) (nodeAt_f1 (by assumption)))))
    all_goals try (exact sFalse ⟨trivial, trivial⟩ (wBad1 (nodes_bad (ns := ns) (i := i) (by omega) (nodeAt_f2 (by assumption)))))
    · refine ⟨i + 1, [], by omega, ⟨by omega, nodes_step hp (nodeAt_t (by assumption) (by assumption))⟩, ?_⟩
      repeat' (first | exact trivial | exact Side.mk rfl | exact Chk.mk (by kernel_rfl) | exact ⟨Chk.mk (by kernel_rfl)⟩ | exact ⟨wrap_succ (n := ns.length) (by omega) (by omega)⟩ | refine And.intro ?_ ?_ | rfl)
    · have hns := nodes_end (by omega) hp
      clear hp
      refine W.loopC (D := Nat) (fun i => [(63, .row (Msg.cells (ms.getD i default))), (65, .res (ob (mOk (ms.getD i default))))]) TTok hmo
        (fun i => ⟨106, 1, [(1, .one (.ptr 0 0 0)), (2, ob false), (4, oi i)], [(0, .box [.ag (ns.map Node.cells), .ag (ms.map Msg.cells), .ag (aks.map Asked.cells), .ag (ts.map Told.cells)])]⟩) (fun i => ms.length - i) (fun i => i ≤ ms.length ∧ (ms.take i).all mOk = true) 0 [] ⟨by omega, by simp⟩ ?_ ?_
      · repeat' (first | exact trivial | exact Side.mk rfl | exact Chk.mk (by kernel_rfl) | exact ⟨Chk.mk (by kernel_rfl)⟩ | refine And.intro ?_ ?_ | rfl)
        all_goals exact ⟨by simp⟩
      · intro i ⟨hi, hp⟩
        repeat' (first | refine And.intro ?_ ?_ | exact tf | exact ft | refine tt ?_ | refine ff ?_ | exact ⟨trivial⟩ | exact sAll rfl | exact sF1 rfl | exact sBld (by repeat' (first | exact trivial | rfl | exact Nat.le_of_ble_eq_true rfl | refine And.intro ?_ ?_)) rfl | exact sBS (by repeat' (first | exact trivial | rfl | exact Nat.le_of_ble_eq_true rfl | refine And.intro ?_ ?_)) rfl rfl rfl rfl | exact sLe rfl | exact Chk.mk (by kernel_rfl) | exact ⟨Chk.mk (by kernel_rfl)⟩ | exact sLeEq rfl rfl | refine fun h => ?_)
        all_goals try simp only [decide_eq_true_eq, decide_eq_false_iff_not, List.length_map, Bool.not_eq_true', Bool.not_eq_false', Bool.not_eq_eq_eq_not, Bool.not_true, Bool.not_false, bne_iff_ne, ne_eq, bne_eq_false_iff_eq, beq_iff_eq, beq_eq_false_iff_ne] at *
        all_goals try (exact sRow (by omega) (row_at ms _ (by omega)) rfl)
        all_goals try (exact sAnd (by repeat' constructor) (c_spec_MsgOk' _ (hx_net _ (getD_mem (by omega)))))
        all_goals try (exact sFalse ⟨trivial, trivial⟩ (wBad2 (all_bad (xs := ms) (f := mOk) (i := i) (by omega) (by simp_all))))
        · refine ⟨i + 1, [], by omega, ⟨by omega, all_step (by omega) hp (by simp_all)⟩, ?_⟩
          repeat' (first | exact trivial | exact Side.mk rfl | exact Chk.mk (by kernel_rfl) | exact ⟨Chk.mk (by kernel_rfl)⟩ | exact ⟨wrap_succ (n := ms.length) (by omega) (by omega)⟩ | refine And.intro ?_ ?_ | rfl)
        · have hms := all_end (f := mOk) (by omega) hp
          clear hp
          refine W.loopC (D := Nat) (fun i => [(77, .row (Asked.cells (aks.getD i default))), (80, .res (ob (reqOk (aks.getD i default).q))), (86, .row (Asked.cells (aks.getD i default))), (89, .res (ob (progOk (aks.getD i default).prog)))]) TTok hmo
            (fun i => ⟨106, 1, [(1, .one (.ptr 0 0 0)), (2, ob false), (5, oi i)], [(0, .box [.ag (ns.map Node.cells), .ag (ms.map Msg.cells), .ag (aks.map Asked.cells), .ag (ts.map Told.cells)])]⟩) (fun i => aks.length - i) (fun i => i ≤ aks.length ∧ (aks.take i).all askOk = true) 0 [] ⟨by omega, by simp⟩ ?_ ?_
          · repeat' (first | exact trivial | exact Side.mk rfl | exact Chk.mk (by kernel_rfl) | exact ⟨Chk.mk (by kernel_rfl)⟩ | refine And.intro ?_ ?_ | rfl)
            all_goals exact ⟨by simp⟩
          · intro i ⟨hi, hp⟩
            repeat' (first | refine And.intro ?_ ?_ | exact tf | exact ft | refine tt ?_ | refine ff ?_ | exact ⟨trivial⟩ | exact sAll rfl | exact sF1 rfl | exact sBld (by repeat' (first | exact trivial | rfl | exact Nat.le_of_ble_eq_true rfl | refine And.intro ?_ ?_)) rfl | exact sBS (by repeat' (first | exact trivial | rfl | exact Nat.le_of_ble_eq_true rfl | refine And.intro ?_ ?_)) rfl rfl rfl rfl | exact sLe rfl | exact Chk.mk (by kernel_rfl) | exact ⟨Chk.mk (by kernel_rfl)⟩ | exact sLeEq rfl rfl | refine fun h => ?_)
            all_goals try simp only [decide_eq_true_eq, decide_eq_false_iff_not, List.length_map, Bool.not_eq_true', Bool.not_eq_false', Bool.not_eq_eq_eq_not, Bool.not_true, Bool.not_false, bne_iff_ne, ne_eq, bne_eq_false_iff_eq, beq_iff_eq, beq_eq_false_iff_ne] at *
            all_goals try (exact sRow (by omega) (row_at aks _ (by omega)) rfl)
            all_goals try (exact sAnd (by repeat' constructor) (c_l5Req _))
            all_goals try (exact sAnd (by repeat' constructor) (c_spec_ProgOk _ (Nat.le_trans (hx_asked _ (getD_mem (by omega))) (by decide))))
            all_goals try (exact sFalse ⟨trivial, trivial⟩ (wBad3 (all_bad (xs := aks) (f := askOk) (i := i) (by omega) (by simp_all [askOk]))))
            · refine ⟨i + 1, [], by omega, ⟨by omega, all_step (by omega) hp (by simp_all [askOk])⟩, ?_⟩
              repeat' (first | exact trivial | exact Side.mk rfl | exact Chk.mk (by kernel_rfl) | exact ⟨Chk.mk (by kernel_rfl)⟩ | exact ⟨wrap_succ (n := aks.length) (by omega) (by omega)⟩ | refine And.intro ?_ ?_ | rfl)
            · have haks := all_end (f := askOk) (by omega) hp
              clear hp
              refine W.loopC (D := Nat) (fun i => [(102, .row (Told.cells (ts.getD i default))), (104, .res (ob (toldOk (ts.getD i default))))]) TTok hmo
                (fun i => ⟨106, 1, [(1, .one (.ptr 0 0 0)), (2, ob false), (6, oi i)], [(0, .box [.ag (ns.map Node.cells), .ag (ms.map Msg.cells), .ag (aks.map Asked.cells), .ag (ts.map Told.cells)])]⟩) (fun i => ts.length - i) (fun i => i ≤ ts.length ∧ (ts.take i).all toldOk = true) 0 [] ⟨by omega, by simp⟩ ?_ ?_
              · repeat' (first | exact trivial | exact Side.mk rfl | exact Chk.mk (by kernel_rfl) | exact ⟨Chk.mk (by kernel_rfl)⟩ | refine And.intro ?_ ?_ | rfl)
                all_goals exact ⟨by simp⟩
              · intro i ⟨hi, hp⟩
                repeat' (first | refine And.intro ?_ ?_ | exact tf | exact ft | refine tt ?_ | refine ff ?_ | exact ⟨trivial⟩ | exact sAll rfl | exact sF1 rfl | exact sBld (by repeat' (first | exact trivial | rfl | exact Nat.le_of_ble_eq_true rfl | refine And.intro ?_ ?_)) rfl | exact sBS (by repeat' (first | exact trivial | rfl | exact Nat.le_of_ble_eq_true rfl | refine And.intro ?_ ?_)) rfl rfl rfl rfl | exact sLe rfl | exact Chk.mk (by kernel_rfl) | exact ⟨Chk.mk (by kernel_rfl)⟩ | exact sLeEq rfl rfl | refine fun h => ?_)
                all_goals try simp only [decide_eq_true_eq, decide_eq_false_iff_not, List.length_map, Bool.not_eq_true', Bool.not_eq_false', Bool.not_eq_eq_eq_not, Bool.not_true, Bool.not_false, bne_iff_ne, ne_eq, bne_eq_false_iff_eq, beq_iff_eq, beq_eq_false_iff_ne] at *
                all_goals try (exact sRow (by omega) (row_at ts _ (by omega)) rfl)
                all_goals try (exact sAnd (by repeat' constructor) (c_l9Told _))
                all_goals try (exact sFalse ⟨trivial, trivial⟩ (wBad4 (all_bad (xs := ts) (f := toldOk) (i := i) (by omega) (by simp_all))))
                · refine ⟨i + 1, [], by omega, ⟨by omega, all_step (by omega) hp (by simp_all)⟩, ?_⟩
                  repeat' (first | exact trivial | exact Side.mk rfl | exact Chk.mk (by kernel_rfl) | exact ⟨Chk.mk (by kernel_rfl)⟩ | exact ⟨wrap_succ (n := ts.length) (by omega) (by omega)⟩ | refine And.intro ?_ ?_ | rfl)
                · have hts := all_end (f := toldOk) (by omega) hp
                  clear hp
                  refine Side.mk ⟨⟨trivial, trivial⟩, congrArg Value.bool (wGood hns hms haks hts (by simp only; omega) (by simp only; omega) (by simp only; omega) (by simp only; omega)).symm, trivial⟩

end Mg
