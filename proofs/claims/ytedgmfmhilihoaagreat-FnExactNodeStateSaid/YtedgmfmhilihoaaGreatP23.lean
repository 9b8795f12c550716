/- Parts of the abstract state logic and of the walks, one behind the other: NS5, NS6, E0. No condition. -/
import Derived.Test.YtedgmfmhilihoaaGreatP22
import Derived.Test.YtedgmfmhilihoaaGreatP15
import Derived.Test.YtedgmfmhilihoaaGreatP14
import Derived.Test.YtedgmfmhilihoaaGreatP12
/- What there is behind entries, on the other side. No condition. -/
namespace Mg
open Go Go.RowKit
set_option maxRecDepth 100000
set_option linter.unusedVariables false
set_option linter.unusedSimpArgs false
attribute [local irreducible] W Pure Con
theorem p_spec_BoxOpen : Pure PP false 149 [] (.one (.own ((List.replicate 4 (⟨0, 0⟩ : Two)).map Two.cells))) := by
  refine Pure.vc [] TTok hmo Go.Proofs.Tryz.func149 (by kernel_rfl) rfl (by kernel_rfl) ?_
  repeat' (first | refine And.intro ?_ ?_ | exact tf | exact ft | refine tt ?_ | refine ff ?_ | exact ⟨trivial⟩ | exact sAll rfl | exact sF1 rfl | exact sBld (by repeat' (first | exact trivial | rfl | exact Nat.le_of_ble_eq_true rfl | refine And.intro ?_ ?_)) rfl | exact sBS (by repeat' (first | exact trivial | rfl | exact Nat.le_of_ble_eq_true rfl | refine And.intro ?_ ?_)) rfl rfl rfl rfl | exact sBSF (by repeat' (first | exact trivial | rfl | exact Nat.le_of_ble_eq_true rfl | refine And.intro ?_ ?_)) rfl rfl rfl rfl | exact sLe rfl | exact Chk.mk (by kernel_rfl) | exact ⟨Chk.mk (by kernel_rfl)⟩ | exact sLeEq rfl rfl | refine fun h => ?_)
  · exact ⟨by decide⟩
  · exact ⟨⟨trivial, trivial⟩, ⟨rfl, rfl, rfl, map_frz (xs := List.replicate 4 (⟨0, 0⟩ : Two)) Two.frz⟩, trivial⟩
theorem p_spec_CertOpen : Pure PP false 115 [] (.agg [i6 0, .own (stOpen.boxes.map Two.cells), .fz []]) := by
  refine Pure.vc [(1, .res (.one (.own ((List.replicate 4 (⟨0, 0⟩ : Two)).map Two.cells))))] TTok hmo Go.Proofs.Tryz.func115 (by kernel_rfl) rfl (by kernel_rfl) ?_
  repeat' (first | refine And.intro ?_ ?_ | exact tf | exact ft | refine tt ?_ | refine ff ?_ | exact ⟨trivial⟩ | exact sAll rfl | exact sF1 rfl | exact sBld (by repeat' (first | exact trivial | rfl | exact Nat.le_of_ble_eq_true rfl | refine And.intro ?_ ?_)) rfl | exact sBS (by repeat' (first | exact trivial | rfl | exact Nat.le_of_ble_eq_true rfl | refine And.intro ?_ ?_)) rfl rfl rfl rfl | exact sBSF (by repeat' (first | exact trivial | rfl | exact Nat.le_of_ble_eq_true rfl | refine And.intro ?_ ?_)) rfl rfl rfl rfl | exact sLe rfl | exact Chk.mk (by kernel_rfl) | exact ⟨Chk.mk (by kernel_rfl)⟩ | exact sLeEq rfl rfl | exact sAnd (by repeat' constructor) (p_spec_BoxOpen) | refine fun h => ?_)
  all_goals exact ⟨⟨Nat.le_of_ble_eq_true rfl, trivial⟩, rfl, ⟨rfl, rfl, rfl, map_frz (xs := List.replicate 4 (⟨0, 0⟩ : Two)) Two.frz⟩, rfl, trivial⟩
theorem c_l1Min (a b : Int) : Pure PP false 176 [oi a, oi b] (oi (if a < b then a else b)) := by
  refine Pure.vc [] TTok hmo Go.Proofs.Tryz.func176 (by kernel_rfl) rfl (by kernel_rfl) ?_
  repeat' (first | refine And.intro ?_ ?_ | exact tf | exact ft | refine tt ?_ | refine ff ?_ | exact ⟨trivial⟩ | exact sAll rfl | exact sF1 rfl | exact sBld (by repeat' (first | exact trivial | rfl | exact Nat.le_of_ble_eq_true rfl | refine And.intro ?_ ?_)) rfl | exact sBS (by repeat' (first | exact trivial | rfl | exact Nat.le_of_ble_eq_true rfl | refine And.intro ?_ ?_)) rfl rfl rfl rfl | exact sBSF (by repeat' (first | exact trivial | rfl | exact Nat.le_of_ble_eq_true rfl | refine And.intro ?_ ?_)) rfl rfl rfl rfl | exact sLe rfl | exact Chk.mk (by kernel_rfl) | exact ⟨Chk.mk (by kernel_rfl)⟩ | exact sLeEq rfl rfl | refine fun h => ?_)
  · exact ⟨⟨trivial, trivial⟩, by rw [if_pos (of_decide_eq_true h)], trivial⟩
  · exact ⟨⟨trivial, trivial⟩, by rw [if_neg (of_decide_eq_false h)], trivial⟩
set_option maxHeartbeats 4000000 in
theorem c_spec_ExecFresh (bx : List Two) (hbx : boxOk bx = true) (r : Run) (hr : execOk r = true) (ho : r.ok lim) : Pure PP false 151 [.one (.fz (bx.map Two.cells)), .agg r.cells] (ob (fresh bx r)) := by
  have hb4 := boxOk_len' hbx
  have hf := execOk_f hr
  have cX := c_spec_ExecOk r ho
  obtain ⟨rs, ps, c, d⟩ := r
  have hl : rs.length ≤ 1048576 := ho.1
  refine Pure.vc [(7, .res (ob (boxOk bx))), (11, .res (ob (execOk ⟨rs, ps, c, d⟩)))] TTok hmo Go.Proofs.Tryz.func151 (by kernel_rfl) rfl (by kernel_rfl) ?_
  repeat' (first | refine And.intro ?_ ?_ | exact tf | exact ft | refine tt ?_ | refine ff ?_ | exact ⟨trivial⟩ | exact sAll rfl | exact sF1 rfl | exact sBld (by repeat' (first | exact trivial | rfl | exact Nat.le_of_ble_eq_true rfl | refine And.intro ?_ ?_)) rfl | exact sBS (by repeat' (first | exact trivial | rfl | exact Nat.le_of_ble_eq_true rfl | refine And.intro ?_ ?_)) rfl rfl rfl rfl | exact sBSF (by repeat' (first | exact trivial | rfl | exact Nat.le_of_ble_eq_true rfl | refine And.intro ?_ ?_)) rfl rfl rfl rfl | exact sLe rfl | exact Chk.mk (by kernel_rfl) | exact ⟨Chk.mk (by kernel_rfl)⟩ | exact sLeEq rfl rfl | exact sAnd (by repeat' constructor) (c_spec_BoxOk _ (by rw [hb4]; decide)) | exact sAnd (by repeat' constructor) (cX) | refine fun h => ?_)
  all_goals try (exfalso; simp_all; done)
  refine W.loopC (D := Nat) (fun i => [(25, .row (rs.getD i default).cells), (28, .row (bx.getD (rs.getD i default).a.toNat default).cells), (34, .row (rs.getD i default).cells)]) TTok hmo
    (fun i => ⟨38, 1, [(0, .one (.ag (bx.map Two.cells))), (3, .one (.ptr 0 0 0)), (4, ob false), (5, oi i)], [(0, .box [.ag (rs.map Two.cells), .ag (ps.map Two.cells), i6 c, i6 d])]⟩) (fun i => rs.length - i) (fun i => i ≤ rs.length ∧ (rs.take i).all (fun x => decide ((bx.getD x.a.toNat default).a = x.b)) = true) 0 [] ⟨by omega, by simp⟩ ?_ ?_
  · repeat' (first | exact trivial | exact ⟨trivial⟩ | exact Side.mk rfl | exact sF1 rfl | exact Chk.mk (by kernel_rfl) | exact ⟨Chk.mk (by kernel_rfl)⟩ | exact sMapF Two.flat | refine And.intro ?_ ?_ | rfl)
  · intro i ⟨hi, hp⟩
    repeat' (first | refine And.intro ?_ ?_ | exact tf | exact ft | refine tt ?_ | refine ff ?_ | exact ⟨trivial⟩ | exact sAll rfl | exact sF1 rfl | exact sBld (by repeat' (first | exact trivial | rfl | exact Nat.le_of_ble_eq_true rfl | refine And.intro ?_ ?_)) rfl | exact sBS (by repeat' (first | exact trivial | rfl | exact Nat.le_of_ble_eq_true rfl | refine And.intro ?_ ?_)) rfl rfl rfl rfl | exact sBSF (by repeat' (first | exact trivial | rfl | exact Nat.le_of_ble_eq_true rfl | refine And.intro ?_ ?_)) rfl rfl rfl rfl | exact sLe rfl | exact Chk.mk (by kernel_rfl) | exact ⟨Chk.mk (by kernel_rfl)⟩ | exact sLeEq rfl rfl | refine fun h => ?_)
    all_goals try (have hl : i < rs.length := by (have h3 := of_decide_eq_true ‹decide ((i : Int) < ((rs.map Two.cells).length : Int)) = true›; rw [List.length_map] at h3; omega))
    all_goals try (have hrd := hf.rd i hl)
    all_goals try (exact sRow (by omega) (row_at rs _ hl) rfl)
    all_goals try (exact sRow hrd.1 (row_box hb4 hrd) rfl)
    all_goals try (refine ⟨i + 1, [], by omega, ⟨by omega, all_step hl hp (by simp_all)⟩, ?_⟩; (focus (repeat' (first | exact trivial | exact ⟨trivial⟩ | exact Side.mk rfl | exact sF1 rfl | exact Chk.mk (by kernel_rfl) | exact ⟨Chk.mk (by kernel_rfl)⟩ | exact sMapF Two.flat | exact ⟨by rw [wrapi] <;> omega⟩ | refine And.intro ?_ ?_ | rfl))); done)
    all_goals first
      | (refine ⟨?_⟩; have := all_bad (f := fun x : Two => decide ((bx.getD x.a.toNat default).a = x.b)) (xs := rs) (i := i) hl (decide_eq_false (bne_iff_ne.1 h)); simp only [fresh, this]; repeat' constructor)
      | (refine ⟨?_⟩; have := all_end (f := fun x : Two => decide ((bx.getD x.a.toNat default).a = x.b)) (xs := rs) (i := i) (by have h3 := of_decide_eq_false h; rw [List.length_map] at h3; omega) hp; simp only [fresh, this]; repeat' constructor)
      | skip
set_option maxHeartbeats 4000000 in
theorem c_l3Do (bx : List Two) (hbx : boxOk bx = true) (r : Run) (hr : execOk r = true) (ho : r.ok lim) : Con PP 152 [.one (.ref 0 0 4), .agg r.cells] [.arr (bx.map Two.cells)] 1
    (fun _ : Unit => True) (fun _ => .one (.ref 0 0 4)) (fun _ => [.arr ((doPuts bx r.puts).map Two.cells)]) := by
  have hb4 := boxOk_len' hbx
  have hf := execOk_f hr
  obtain ⟨rs, ps, c, d⟩ := r
  have hl : ps.length ≤ 1048576 := ho.2
  have hpt := hf.pt
  dsimp only at hpt
  have hok := fun k => doPuts_ok (ps := ps.take k) hbx (take_ok (P := fun x => (0 ≤ x.a ∧ x.a ≤ 3) ∧ -1000000 ≤ x.b ∧ x.b ≤ 1000000) hpt k)
  refine Con.vc [] TTok hmo Go.Proofs.Tryz.func152 rfl (by kernel_rfl) rfl (by kernel_rfl) ?_
  repeat' (first | refine And.intro ?_ ?_ | exact tf | exact ft | refine tt ?_ | refine ff ?_ | exact ⟨trivial⟩ | exact sAll rfl | exact sF1 rfl | exact sBld (by repeat' (first | exact trivial | rfl | exact Nat.le_of_ble_eq_true rfl | refine And.intro ?_ ?_)) rfl | exact sBS (by repeat' (first | exact trivial | rfl | exact Nat.le_of_ble_eq_true rfl | refine And.intro ?_ ?_)) rfl rfl rfl rfl | exact sBSF (by repeat' (first | exact trivial | rfl | exact Nat.le_of_ble_eq_true rfl | refine And.intro ?_ ?_)) rfl rfl rfl rfl | exact sLe rfl | exact Chk.mk (by kernel_rfl) | exact ⟨Chk.mk (by kernel_rfl)⟩ | exact sLeEq rfl rfl | refine fun h => ?_)
  refine W.loopC (D := Nat) (fun i => [(17, .row (ps.getD i default).cells), (26, .resf asI), (28, .res (oi (if (1000000 : Int) < ((doPuts bx (ps.take i)).getD (ps.getD i default).a.toNat default).a + 1 then 1000000 else ((doPuts bx (ps.take i)).getD (ps.getD i default).a.toNat default).a + 1))), (32, .row (ps.getD i default).cells)]) TTok hmo
    (fun i => ⟨38, 2, [(0, .one (.ref 0 0 4)), (3, .one (.ptr 1 0 0)), (5, oi i)], [(0, .arr ((doPuts bx (ps.take i)).map Two.cells)), (1, .box [.fz (rs.map Two.cells), .fz (ps.map Two.cells), i6 c, i6 d])]⟩) (fun i => ps.length - i) (fun i => i ≤ ps.length) 0 [] (by omega) ?_ ?_
  · repeat' (first | exact trivial | exact ⟨trivial⟩ | exact Side.mk rfl | exact sF1 rfl | exact Chk.mk (by kernel_rfl) | exact ⟨Chk.mk (by kernel_rfl)⟩ | exact sMapF Two.flat | refine And.intro ?_ ?_ | rfl)
  · intro i hi
    have hbi := hok i
    have hb4i := boxOk_len' hbi
    repeat' (first | refine And.intro ?_ ?_ | exact tf | exact ft | refine tt ?_ | refine ff ?_ | exact ⟨trivial⟩ | exact sAll rfl | exact sF1 rfl | exact sBld (by repeat' (first | exact trivial | rfl | exact Nat.le_of_ble_eq_true rfl | refine And.intro ?_ ?_)) rfl | exact sBS (by repeat' (first | exact trivial | rfl | exact Nat.le_of_ble_eq_true rfl | refine And.intro ?_ ?_)) rfl rfl rfl rfl | exact sBSF (by repeat' (first | exact trivial | rfl | exact Nat.le_of_ble_eq_true rfl | refine And.intro ?_ ?_)) rfl rfl rfl rfl | exact sLe rfl | exact Chk.mk (by kernel_rfl) | exact ⟨Chk.mk (by kernel_rfl)⟩ | exact sLeEq rfl rfl | refine fun h => ?_)
    all_goals try (have hl : i < ps.length := by (have h3 := of_decide_eq_true ‹decide ((i : Int) < ((ps.map Two.cells).length : Int)) = true›; rw [List.length_map] at h3; omega))
    all_goals try (have hpi := hpt i hl)
    all_goals try (exact sRow (by omega) (row_at ps _ hl) rfl)
    all_goals try (exact sIxO (c := Two.cells) (xs := doPuts bx (ps.take i)) hpi.1.1 (by omega) (by omega) (fun _ => rfl))
    all_goals try (exact sLdI (c := Two.cells) (n := Two.a) (t := fun x => [i6 x.b]) (xs := doPuts bx (ps.take i)) (by omega) (fun _ => rfl))
    all_goals try (exact sSt (c := Two.cells) (m := 2) (xs := doPuts bx (ps.take i)) (by omega) (fun _ => rfl) rfl rfl)
    all_goals try (first | exact ⟨trivial, trivial⟩ | exact ⟨Nat.le_of_ble_eq_true rfl, trivial⟩ | exact ⟨trivial, Nat.le_of_ble_eq_true rfl, trivial⟩ | exact ⟨Nat.le_of_ble_eq_true rfl, trivial, trivial⟩)
    · have hv := boxOk_at hbi (i := (ps.getD i default).a.toNat) (by omega)
      have e1 : IntKind.i64.wrap (((doPuts bx (ps.take i)).getD (ps.getD i default).a.toNat default).a + 1) = ((doPuts bx (ps.take i)).getD (ps.getD i default).a.toNat default).a + 1 := by rw [wrapi] <;> omega
      refine sLend (by repeat' constructor) (c_l1Min 1000000 (((doPuts bx (ps.take i)).getD (ps.getD i default).a.toNat default).a + 1)) ?_
      rw [mapGet (by omega)]
      exact congrArg (fun z => [oi 1000000, oi z]) e1
    · refine ⟨i + 1, [], by omega, by omega, ?_⟩
      repeat' (first | exact trivial | exact ⟨trivial⟩ | exact Side.mk rfl | exact sF1 rfl | exact Chk.mk (by kernel_rfl) | exact ⟨Chk.mk (by kernel_rfl)⟩ | exact sMapF Two.flat | refine And.intro ?_ ?_ | rfl)
      · exact ⟨by rw [wrapi] <;> omega⟩
      · refine ⟨?_⟩
        have hv := boxOk_at hbi (i := (ps.getD i default).a.toNat) (by omega)
        rw [doPuts_step hl, mapGet (by omega)]
        generalize hX : (doPuts bx (ps.take i)).getD (ps.getD i default).a.toNat default = X at hv
        have e2 : (if (1000000 : Int) < X.a + 1 then 1000000 else X.a + 1) = min 1000000 (X.a + 1) := by split <;> omega
        unfold doPut
        rw [hX]
        refine setMap ?_
        show [i6 (min 1000000 (X.a + 1)), i6 _] = [i6 (if (1000000 : Int) < X.a + 1 then 1000000 else X.a + 1), i6 _]
        rw [e2]
    · have hi' : i = ps.length := by (have h3 := of_decide_eq_false h; rw [List.length_map] at h3; omega)
      subst hi'
      apply exU'; refine ⟨[], [], trivial, ?_⟩
      repeat' (first | exact trivial | exact ⟨trivial⟩ | exact Side.mk rfl | exact sF1 rfl | exact Chk.mk (by kernel_rfl) | exact ⟨Chk.mk (by kernel_rfl)⟩ | exact sMapF Two.flat | exact ⟨by rw [List.take_length]⟩ | refine And.intro ?_ ?_ | rfl)
def sLast (ds : List Done) (who : Int) : Done × Bool := match lastD ds who with
  | some d => (d, true)
  | none => (default, false)
theorem lastD_no {ds : List Done} {who : Int} (h : ∀ j, j < ds.length → (ds.getD j default).q.a ≠ who) : lastD ds who = none := by
  cases hl : lastD ds who with
  | none => rfl
  | some d =>
    obtain ⟨hm, ha⟩ := lastD_mem hl
    obtain ⟨j, hj, rfl⟩ := List.getElem_of_mem hm
    exact absurd (by rw [getD_get hj]; exact ha) (h j hj)
set_option maxHeartbeats 4000000 in
theorem c_l5Last (at_ : Int) (bx : List Two) (ds : List Done) (hs : SrtD ds) (hl : ds.length ≤ 1000) (who : Int) : Pure PP false 150 [.agg [i6 at_, .fz (bx.map Two.cells), .fz (ds.map Done.cells)], oi who] (.tup [.agg (sLast ds who).1.cells, ob (sLast ds who).2]) := by
  refine Pure.vc [] TTok hmo Go.Proofs.Tryz.func150 (by kernel_rfl) rfl (by kernel_rfl) ?_
  repeat' (first | refine And.intro ?_ ?_ | exact tf | exact ft | refine tt ?_ | refine ff ?_ | exact ⟨trivial⟩ | exact sAll rfl | exact sF1 rfl | exact sBld (by repeat' (first | exact trivial | rfl | exact Nat.le_of_ble_eq_true rfl | refine And.intro ?_ ?_)) rfl | exact sBS (by repeat' (first | exact trivial | rfl | exact Nat.le_of_ble_eq_true rfl | refine And.intro ?_ ?_)) rfl rfl rfl rfl | exact sBSF (by repeat' (first | exact trivial | rfl | exact Nat.le_of_ble_eq_true rfl | refine And.intro ?_ ?_)) rfl rfl rfl rfl | exact sLe rfl | exact Chk.mk (by kernel_rfl) | exact ⟨Chk.mk (by kernel_rfl)⟩ | exact sLeEq rfl rfl | refine fun h => ?_)
  refine W.loopC (D := Nat) (fun i => [(17, .row (ds.getD i default).cells), (26, .row (ds.getD i default).cells)]) TTok hmo
    (fun i => ⟨29, 2, [(1, oi who), (2, .one (.ptr 0 0 0)), (4, .one (.ptr 1 0 0)), (5, ob false), (6, oi i)], [(0, .box [i6 at_, .ag (bx.map Two.cells), .ag (ds.map Done.cells)]), (1, .box [i6 0, i6 0, i6 0, i6 0])]⟩) (fun i => ds.length - i) (fun i => i ≤ ds.length ∧ ∀ j, j < i → (ds.getD j default).q.a ≠ who) 0 [] ⟨by omega, fun j hj => by omega⟩ ?_ ?_
  · repeat' (first | exact trivial | exact ⟨trivial⟩ | exact Side.mk rfl | exact sF1 rfl | exact Chk.mk (by kernel_rfl) | exact ⟨Chk.mk (by kernel_rfl)⟩ | exact sMapF Done.flat | exact sMapF Two.flat | refine And.intro ?_ ?_ | rfl)
  · intro i ⟨hi, hp⟩
    repeat' (first | refine And.intro ?_ ?_ | exact tf | exact ft | refine tt ?_ | refine ff ?_ | exact ⟨trivial⟩ | exact sAll rfl | exact sF1 rfl | exact sBld (by repeat' (first | exact trivial | rfl | exact Nat.le_of_ble_eq_true rfl | refine And.intro ?_ ?_)) rfl | exact sBS (by repeat' (first | exact trivial | rfl | exact Nat.le_of_ble_eq_true rfl | refine And.intro ?_ ?_)) rfl rfl rfl rfl | exact sBSF (by repeat' (first | exact trivial | rfl | exact Nat.le_of_ble_eq_true rfl | refine And.intro ?_ ?_)) rfl rfl rfl rfl | exact sLe rfl | exact Chk.mk (by kernel_rfl) | exact ⟨Chk.mk (by kernel_rfl)⟩ | exact sLeEq rfl rfl | refine fun h => ?_)
    all_goals try (have hli : i < ds.length := by (have h3 := of_decide_eq_true ‹decide ((i : Int) < ((ds.map Done.cells).length : Int)) = true›; rw [List.length_map] at h3; omega))
    all_goals try (exact sRow (by omega) (row_at ds _ hli) rfl)
    · have e' := lastD_of hs hli (eq_of_beq h)
      have e2 : sLast ds who = (ds.getD i default, true) := by unfold sLast; rw [e']
      rw [e2]
      exact ⟨⟨Nat.le_of_ble_eq_true rfl, trivial, trivial⟩, ⟨rfl, rfl, rfl, rfl, trivial⟩, ⟨rfl, trivial⟩, trivial⟩
    · refine ⟨i + 1, [], by omega, ⟨by omega, fun j hj => ?_⟩, ?_⟩
      · by_cases e' : j = i
        · subst e'; exact fun h5 => by rw [h5, beq_self_eq_true] at h; cases h
        · exact hp j (by omega)
      · repeat' (first | exact trivial | exact ⟨trivial⟩ | exact Side.mk rfl | exact sF1 rfl | exact Chk.mk (by kernel_rfl) | exact ⟨Chk.mk (by kernel_rfl)⟩ | exact sMapF Done.flat | exact sMapF Two.flat | exact ⟨by rw [wrapi] <;> omega⟩ | refine And.intro ?_ ?_ | rfl)
    · have e' := lastD_no (ds := ds) (who := who) fun j hj => hp j (by have h3 := of_decide_eq_false h; rw [List.length_map] at h3; omega)
      have e2 : sLast ds who = (default, false) := by unfold sLast; rw [e']
      rw [e2]
      exact ⟨⟨Nat.le_of_ble_eq_true rfl, trivial, trivial⟩, ⟨rfl, rfl, rfl, rfl, trivial⟩, ⟨rfl, trivial⟩, trivial⟩
set_option maxHeartbeats 8000000 in
theorem p_l5Put (ds : List Done) (nd : Done) (hl : ds.length ≤ 1000) : Pure PP false 153 [.one (.fz (ds.map Done.cells)), .agg nd.cells] (.one (.own ((insD nd false ds).map Done.cells))) := by
  have hX : (insD nd false ds).length ≤ 1001 := by
    have := insD_len nd false ds
    simp only [Bool.false_eq_true, if_false] at this
    omega
  refine Pure.vc [(800011, .row [])] TTok hmo Go.Proofs.Tryz.func153 (by kernel_rfl) rfl (by kernel_rfl) ?_
  repeat' (first | refine And.intro ?_ ?_ | exact tf | exact ft | refine tt ?_ | refine ff ?_ | exact ⟨trivial⟩ | exact sAll rfl | exact sF1 rfl | exact sBld (by repeat' (first | exact trivial | rfl | exact Nat.le_of_ble_eq_true rfl | refine And.intro ?_ ?_)) rfl | exact sBS (by repeat' (first | exact trivial | rfl | exact Nat.le_of_ble_eq_true rfl | refine And.intro ?_ ?_)) rfl rfl rfl rfl | exact sBSF (by repeat' (first | exact trivial | rfl | exact Nat.le_of_ble_eq_true rfl | refine And.intro ?_ ?_)) rfl rfl rfl rfl | exact sLe rfl | exact Chk.mk (by kernel_rfl) | exact ⟨Chk.mk (by kernel_rfl)⟩ | exact sLeEq rfl rfl | refine fun h => ?_)
  refine W.vslot 5 rfl ?_
  refine W.loopC (D := Nat × List Done × Bool) (fun d => [(20, .row (ds.getD d.1 default).cells), (31, .row []), (800009, .row [])]) TTok hmo
    (fun d => ⟨57, 2, [(0, .one (.ag (ds.map Done.cells))), (3, .one (.ptr 0 0 0)), (5, .one (.ref 1 0 d.2.1.length)), (6, ob d.2.2), (7, oi d.1)], [(0, .box nd.cells), (1, .arr (d.2.1.map Done.cells))]⟩) (fun d => ds.length - d.1)
    (fun d => d.1 ≤ ds.length ∧ d.2.1 ++ insD nd d.2.2 (ds.drop d.1) = insD nd false ds) (0, [], false) [] ⟨Nat.zero_le _, rfl⟩ ?_ ?_
  · repeat' (first | exact trivial | exact ⟨trivial⟩ | exact Side.mk rfl | exact sF1 rfl | exact Chk.mk (by kernel_rfl) | exact ⟨Chk.mk (by kernel_rfl)⟩ | exact sMapF Done.flat | refine And.intro ?_ ?_ | rfl)
  · rintro ⟨i, acc, put⟩ ⟨hi, hinv⟩
    dsimp only at hi hinv
    have hal : acc.length ≤ 1001 := by
      have := congrArg List.length hinv
      rw [List.length_append] at this; omega
    repeat' (first | refine And.intro ?_ ?_ | exact tf | exact ft | refine tt ?_ | refine ff ?_ | exact ⟨trivial⟩ | exact sAll rfl | exact sF1 rfl | exact sBld (by repeat' (first | exact trivial | rfl | exact Nat.le_of_ble_eq_true rfl | refine And.intro ?_ ?_)) rfl | exact sBS (by repeat' (first | exact trivial | rfl | exact Nat.le_of_ble_eq_true rfl | refine And.intro ?_ ?_)) rfl rfl rfl rfl | exact sBSF (by repeat' (first | exact trivial | rfl | exact Nat.le_of_ble_eq_true rfl | refine And.intro ?_ ?_)) rfl rfl rfl rfl | exact sLe rfl | exact Chk.mk (by kernel_rfl) | exact ⟨Chk.mk (by kernel_rfl)⟩ | exact sLeEq rfl rfl | refine fun h => ?_)
    all_goals dsimp only at *
    all_goals try (have hl' : i < ds.length := by (have h3 := of_decide_eq_true ‹decide ((i : Int) < ((ds.map Done.cells).length : Int)) = true›; rw [List.length_map] at h3; omega))
    all_goals try (exact sRow (by omega) (row_at ds _ hl') rfl)
    all_goals try (exact sApp (xs := acc) (c := Done.cells) (by simp) (fun _ => rfl) rfl (by omega) rfl rfl)
    all_goals try (first | exact ⟨trivial, trivial⟩ | exact ⟨Nat.le_of_ble_eq_true rfl, trivial⟩ | exact ⟨trivial, Nat.le_of_ble_eq_true rfl, trivial⟩ | exact ⟨Nat.le_of_ble_eq_true rfl, trivial, trivial⟩)
    · have hdr := drop_at hl'
      obtain ⟨x, hx⟩ : ∃ x, ds.getD i default = x := ⟨_, rfl⟩
      rw [hx] at hdr
      have hinv2 : (acc ++ [nd]) ++ (if x.q.a = nd.q.a then [] else [x]) ++ insD nd true (ds.drop (i + 1)) = insD nd false ds := by
        rw [← hinv, hdr, insD_cons]
        have hc : put = false ∧ nd.q.a ≤ x.q.a := ⟨by simpa using ‹(!put) = true›, by rw [← hx]; exact of_decide_eq_true h⟩
        rw [if_pos hc, decide_eq_true hc.2, Bool.or_true]
        simp only [List.append_assoc]
      refine W.sub ⟨57, 2, [(0, .one (.ag (ds.map Done.cells))), (3, .one (.ptr 0 0 0)), (5, .one (.ref 1 0 (acc ++ [nd]).length)), (6, ob true), (7, oi i)], [(0, .box nd.cells), (1, .arr ((acc ++ [nd]).map Done.cells))]⟩ [(1, 2)] ?_ ?_
      · repeat' (first | exact trivial | exact ⟨trivial⟩ | exact Side.mk rfl | exact sF1 rfl | exact Chk.mk (by kernel_rfl) | exact ⟨Chk.mk (by kernel_rfl)⟩ | exact sAppR rfl | exact ⟨by rw [List.length_append, List.length_map]; rfl⟩ | exact sMapF Done.flat | refine And.intro ?_ ?_ | rfl)
      clear hinv
      generalize (acc ++ [nd]) = acc' at *
      have hal' : acc'.length ≤ 1001 := by
        have := congrArg List.length hinv2
        rw [List.length_append, List.length_append] at this; omega
      refine W.go [(35, .row (ds.getD i default).cells), (46, .row (ds.getD i default).cells), (48, .row [])] TTok hmo ?_
      repeat' (first | refine And.intro ?_ ?_ | exact tf | exact ft | refine tt ?_ | refine ff ?_ | exact ⟨trivial⟩ | exact sAll rfl | exact sF1 rfl | exact sBld (by repeat' (first | exact trivial | rfl | exact Nat.le_of_ble_eq_true rfl | refine And.intro ?_ ?_)) rfl | exact sBS (by repeat' (first | exact trivial | rfl | exact Nat.le_of_ble_eq_true rfl | refine And.intro ?_ ?_)) rfl rfl rfl rfl | exact sBSF (by repeat' (first | exact trivial | rfl | exact Nat.le_of_ble_eq_true rfl | refine And.intro ?_ ?_)) rfl rfl rfl rfl | exact sLe rfl | exact Chk.mk (by kernel_rfl) | exact ⟨Chk.mk (by kernel_rfl)⟩ | exact sLeEq rfl rfl | refine fun h => ?_)
      all_goals try (exact sRow (by omega) (row_at ds _ hl') rfl)
      all_goals try (exact sApp (xs := acc') (c := Done.cells) (by simp) (fun _ => rfl) rfl (by omega) rfl rfl)
      all_goals try (first | exact ⟨trivial, trivial⟩ | exact ⟨Nat.le_of_ble_eq_true rfl, trivial⟩ | exact ⟨trivial, Nat.le_of_ble_eq_true rfl, trivial⟩ | exact ⟨Nat.le_of_ble_eq_true rfl, trivial, trivial⟩)
      · refine ⟨(i + 1, acc' ++ [x], true), [(1, 2)], by dsimp only; omega, ⟨by dsimp only; omega, ?_⟩, ?_⟩
        · rw [if_neg (hx ▸ bne_iff_ne.1 h)] at hinv2; exact hinv2
        · repeat' (first | exact trivial | exact ⟨trivial⟩ | exact Side.mk rfl | exact sF1 rfl | exact Chk.mk (by kernel_rfl) | exact ⟨Chk.mk (by kernel_rfl)⟩ | exact ⟨by rw [List.map_append, ← hx]; rfl⟩ | exact ⟨by rw [List.length_append, List.length_map]; rfl⟩ | exact sMapF Done.flat | exact ⟨by rw [wrapi] <;> omega⟩ | refine And.intro ?_ ?_ | rfl)
      · refine ⟨(i + 1, acc', true), [], by dsimp only; omega, ⟨by dsimp only; omega, ?_⟩, ?_⟩
        · rw [if_pos (hx ▸ bne_eq_false_iff_eq.1 h), List.append_nil] at hinv2; exact hinv2
        · repeat' (first | exact trivial | exact ⟨trivial⟩ | exact Side.mk rfl | exact sF1 rfl | exact Chk.mk (by kernel_rfl) | exact ⟨Chk.mk (by kernel_rfl)⟩ | exact sMapF Done.flat | exact ⟨by rw [wrapi] <;> omega⟩ | refine And.intro ?_ ?_ | rfl)
    · have hdr := drop_at hl'
      obtain ⟨x, hx⟩ : ∃ x, ds.getD i default = x := ⟨_, rfl⟩
      rw [hx] at hdr
      have hinv2 : acc ++ (if x.q.a = nd.q.a then [] else [x]) ++ insD nd put (ds.drop (i + 1)) = insD nd false ds := by
        rw [← hinv, hdr, insD_cons]
        have hc : ¬ nd.q.a ≤ x.q.a := by rw [← hx]; exact of_decide_eq_false h
        rw [if_neg (show ¬ (put = false ∧ nd.q.a ≤ x.q.a) from fun h' => hc h'.2), decide_eq_false hc, Bool.or_false]
        simp only [List.append_assoc, List.nil_append]
      refine W.sub ⟨57, 2, [(0, .one (.ag (ds.map Done.cells))), (3, .one (.ptr 0 0 0)), (5, .one (.ref 1 0 acc.length)), (6, ob put), (7, oi i)], [(0, .box nd.cells), (1, .arr (acc.map Done.cells))]⟩ [] ?_ ?_
      · repeat' (first | exact trivial | exact ⟨trivial⟩ | exact Side.mk rfl | exact sF1 rfl | exact Chk.mk (by kernel_rfl) | exact ⟨Chk.mk (by kernel_rfl)⟩ | exact sAppR rfl | exact ⟨by rw [List.length_append, List.length_map]; rfl⟩ | exact sMapF Done.flat | refine And.intro ?_ ?_ | rfl)
      clear hinv
      generalize acc = acc' at *
      have hal' : acc'.length ≤ 1001 := by
        have := congrArg List.length hinv2
        rw [List.length_append, List.length_append] at this; omega
      refine W.go [(35, .row (ds.getD i default).cells), (46, .row (ds.getD i default).cells), (48, .row [])] TTok hmo ?_
      repeat' (first | refine And.intro ?_ ?_ | exact tf | exact ft | refine tt ?_ | refine ff ?_ | exact ⟨trivial⟩ | exact sAll rfl | exact sF1 rfl | exact sBld (by repeat' (first | exact trivial | rfl | exact Nat.le_of_ble_eq_true rfl | refine And.intro ?_ ?_)) rfl | exact sBS (by repeat' (first | exact trivial | rfl | exact Nat.le_of_ble_eq_true rfl | refine And.intro ?_ ?_)) rfl rfl rfl rfl | exact sBSF (by repeat' (first | exact trivial | rfl | exact Nat.le_of_ble_eq_true rfl | refine And.intro ?_ ?_)) rfl rfl rfl rfl | exact sLe rfl | exact Chk.mk (by kernel_rfl) | exact ⟨Chk.mk (by kernel_rfl)⟩ | exact sLeEq rfl rfl | refine fun h => ?_)
      all_goals try (exact sRow (by omega) (row_at ds _ hl') rfl)
      all_goals try (exact sApp (xs := acc') (c := Done.cells) (by simp) (fun _ => rfl) rfl (by omega) rfl rfl)
      all_goals try (first | exact ⟨trivial, trivial⟩ | exact ⟨Nat.le_of_ble_eq_true rfl, trivial⟩ | exact ⟨trivial, Nat.le_of_ble_eq_true rfl, trivial⟩ | exact ⟨Nat.le_of_ble_eq_true rfl, trivial, trivial⟩)
      · refine ⟨(i + 1, acc' ++ [x], put), [(1, 2)], by dsimp only; omega, ⟨by dsimp only; omega, ?_⟩, ?_⟩
        · rw [if_neg (hx ▸ bne_iff_ne.1 h)] at hinv2; exact hinv2
        · repeat' (first | exact trivial | exact ⟨trivial⟩ | exact Side.mk rfl | exact sF1 rfl | exact Chk.mk (by kernel_rfl) | exact ⟨Chk.mk (by kernel_rfl)⟩ | exact ⟨by rw [List.map_append, ← hx]; rfl⟩ | exact ⟨by rw [List.length_append, List.length_map]; rfl⟩ | exact sMapF Done.flat | exact ⟨by rw [wrapi] <;> omega⟩ | refine And.intro ?_ ?_ | rfl)
      · refine ⟨(i + 1, acc', put), [], by dsimp only; omega, ⟨by dsimp only; omega, ?_⟩, ?_⟩
        · rw [if_pos (hx ▸ bne_eq_false_iff_eq.1 h), List.append_nil] at hinv2; exact hinv2
        · repeat' (first | exact trivial | exact ⟨trivial⟩ | exact Side.mk rfl | exact sF1 rfl | exact Chk.mk (by kernel_rfl) | exact ⟨Chk.mk (by kernel_rfl)⟩ | exact sMapF Done.flat | exact ⟨by rw [wrapi] <;> omega⟩ | refine And.intro ?_ ?_ | rfl)
    · have hdr := drop_at hl'
      obtain ⟨x, hx⟩ : ∃ x, ds.getD i default = x := ⟨_, rfl⟩
      rw [hx] at hdr
      have hinv2 : acc ++ (if x.q.a = nd.q.a then [] else [x]) ++ insD nd put (ds.drop (i + 1)) = insD nd false ds := by
        rw [← hinv, hdr, insD_cons]
        have hc : put = true := by simpa using h
        rw [if_neg (show ¬ (put = false ∧ nd.q.a ≤ x.q.a) from fun h' => by rw [hc] at h'; cases h'.1), hc, Bool.true_or]
        simp only [List.append_assoc, List.nil_append]
      refine W.sub ⟨57, 2, [(0, .one (.ag (ds.map Done.cells))), (3, .one (.ptr 0 0 0)), (5, .one (.ref 1 0 acc.length)), (6, ob put), (7, oi i)], [(0, .box nd.cells), (1, .arr (acc.map Done.cells))]⟩ [] ?_ ?_
      · repeat' (first | exact trivial | exact ⟨trivial⟩ | exact Side.mk rfl | exact sF1 rfl | exact Chk.mk (by kernel_rfl) | exact ⟨Chk.mk (by kernel_rfl)⟩ | exact sAppR rfl | exact ⟨by rw [List.length_append, List.length_map]; rfl⟩ | exact sMapF Done.flat | refine And.intro ?_ ?_ | rfl)
      clear hinv
      generalize acc = acc' at *
      have hal' : acc'.length ≤ 1001 := by
        have := congrArg List.length hinv2
        rw [List.length_append, List.length_append] at this; omega
      refine W.go [(35, .row (ds.getD i default).cells), (46, .row (ds.getD i default).cells), (48, .row [])] TTok hmo ?_
      repeat' (first | refine And.intro ?_ ?_ | exact tf | exact ft | refine tt ?_ | refine ff ?_ | exact ⟨trivial⟩ | exact sAll rfl | exact sF1 rfl | exact sBld (by repeat' (first | exact trivial | rfl | exact Nat.le_of_ble_eq_true rfl | refine And.intro ?_ ?_)) rfl | exact sBS (by repeat' (first | exact trivial | rfl | exact Nat.le_of_ble_eq_true rfl | refine And.intro ?_ ?_)) rfl rfl rfl rfl | exact sBSF (by repeat' (first | exact trivial | rfl | exact Nat.le_of_ble_eq_true rfl | refine And.intro ?_ ?_)) rfl rfl rfl rfl | exact sLe rfl | exact Chk.mk (by kernel_rfl) | exact ⟨Chk.mk (by kernel_rfl)⟩ | exact sLeEq rfl rfl | refine fun h => ?_)
      all_goals try (exact sRow (by omega) (row_at ds _ hl') rfl)
      all_goals try (exact sApp (xs := acc') (c := Done.cells) (by simp) (fun _ => rfl) rfl (by omega) rfl rfl)
      all_goals try (first | exact ⟨trivial, trivial⟩ | exact ⟨Nat.le_of_ble_eq_true rfl, trivial⟩ | exact ⟨trivial, Nat.le_of_ble_eq_true rfl, trivial⟩ | exact ⟨Nat.le_of_ble_eq_true rfl, trivial, trivial⟩)
      · refine ⟨(i + 1, acc' ++ [x], put), [(1, 2)], by dsimp only; omega, ⟨by dsimp only; omega, ?_⟩, ?_⟩
        · rw [if_neg (hx ▸ bne_iff_ne.1 h)] at hinv2; exact hinv2
        · repeat' (first | exact trivial | exact ⟨trivial⟩ | exact Side.mk rfl | exact sF1 rfl | exact Chk.mk (by kernel_rfl) | exact ⟨Chk.mk (by kernel_rfl)⟩ | exact ⟨by rw [List.map_append, ← hx]; rfl⟩ | exact ⟨by rw [List.length_append, List.length_map]; rfl⟩ | exact sMapF Done.flat | exact ⟨by rw [wrapi] <;> omega⟩ | refine And.intro ?_ ?_ | rfl)
      · refine ⟨(i + 1, acc', put), [], by dsimp only; omega, ⟨by dsimp only; omega, ?_⟩, ?_⟩
        · rw [if_pos (hx ▸ bne_eq_false_iff_eq.1 h), List.append_nil] at hinv2; exact hinv2
        · repeat' (first | exact trivial | exact ⟨trivial⟩ | exact Side.mk rfl | exact sF1 rfl | exact Chk.mk (by kernel_rfl) | exact ⟨Chk.mk (by kernel_rfl)⟩ | exact sMapF Done.flat | exact ⟨by rw [wrapi] <;> omega⟩ | refine And.intro ?_ ?_ | rfl)
    · have hi' : i = ds.length := by (have h3 := of_decide_eq_false h; rw [List.length_map] at h3; omega)
      subst hi'
      rw [List.drop_length, insD_nil] at hinv
      generalize insD nd false ds = X at *
      refine W.cut [(54, .row [])] TTok hmo (fun d : Unit => ⟨57, 2, [(5, .one (.ref 1 0 X.length))], [(0, .box nd.cells), (1, .arr (X.map Done.cells))]⟩) (fun _ => True) ?_ ?_
      · repeat' (first | refine And.intro ?_ ?_ | exact tf | exact ft | refine tt ?_ | refine ff ?_ | exact ⟨trivial⟩ | exact sAll rfl | exact sF1 rfl | exact sBld (by repeat' (first | exact trivial | rfl | exact Nat.le_of_ble_eq_true rfl | refine And.intro ?_ ?_)) rfl | exact sBS (by repeat' (first | exact trivial | rfl | exact Nat.le_of_ble_eq_true rfl | refine And.intro ?_ ?_)) rfl rfl rfl rfl | exact sBSF (by repeat' (first | exact trivial | rfl | exact Nat.le_of_ble_eq_true rfl | refine And.intro ?_ ?_)) rfl rfl rfl rfl | exact sLe rfl | exact Chk.mk (by kernel_rfl) | exact ⟨Chk.mk (by kernel_rfl)⟩ | exact sLeEq rfl rfl | refine fun h => ?_)
        all_goals try (exact sApp (xs := acc) (c := Done.cells) (by simp) (fun _ => rfl) rfl (by omega) rfl rfl)
        all_goals try (first | exact ⟨trivial, trivial⟩ | exact ⟨Nat.le_of_ble_eq_true rfl, trivial⟩ | exact ⟨trivial, Nat.le_of_ble_eq_true rfl, trivial⟩ | exact ⟨Nat.le_of_ble_eq_true rfl, trivial, trivial⟩)
        all_goals (show ∃ (d : Unit) (bl : List (Nat × Nat)), _ ∧ _)
        · have hX' : acc ++ [nd] = X := by rw [← hinv, if_neg (by simpa using h)]
          subst hX'
          refine ⟨(), [(1, 2)], trivial, ?_⟩
          repeat' (first | exact trivial | exact ⟨trivial⟩ | exact Side.mk rfl | exact sF1 rfl | exact Chk.mk (by kernel_rfl) | exact ⟨Chk.mk (by kernel_rfl)⟩ | exact sAppR rfl | exact ⟨by rw [List.length_append, List.length_map]; rfl⟩ | exact sMapF Done.flat | refine And.intro ?_ ?_ | rfl)
        · have hX' : acc = X := by rw [← hinv, if_pos (by simpa using h), List.append_nil]
          subst hX'
          refine ⟨(), [], trivial, ?_⟩
          repeat' (first | exact trivial | exact ⟨trivial⟩ | exact Side.mk rfl | exact sF1 rfl | exact Chk.mk (by kernel_rfl) | exact ⟨Chk.mk (by kernel_rfl)⟩ | exact sMapF Done.flat | refine And.intro ?_ ?_ | rfl)
      · rintro _ _
        refine W.go [] TTok hmo ?_
        repeat' (first | refine And.intro ?_ ?_ | exact tf | exact ft | refine tt ?_ | refine ff ?_ | exact ⟨trivial⟩ | exact sAll rfl | exact sF1 rfl | exact sBld (by repeat' (first | exact trivial | rfl | exact Nat.le_of_ble_eq_true rfl | refine And.intro ?_ ?_)) rfl | exact sBS (by repeat' (first | exact trivial | rfl | exact Nat.le_of_ble_eq_true rfl | refine And.intro ?_ ?_)) rfl rfl rfl rfl | exact sBSF (by repeat' (first | exact trivial | rfl | exact Nat.le_of_ble_eq_true rfl | refine And.intro ?_ ?_)) rfl rfl rfl rfl | exact sLe rfl | exact Chk.mk (by kernel_rfl) | exact ⟨Chk.mk (by kernel_rfl)⟩ | exact sLeEq rfl rfl | refine fun h => ?_)
        all_goals exact ⟨⟨trivial, trivial⟩, ⟨rfl, by simp, rfl, allF Done.frz⟩, trivial⟩
theorem c_l5PutF (ds : List Done) (nd : Done) (hl : ds.length ≤ 1000) : Pure PP false 153 [.one (.fz (ds.map Done.cells)), .agg nd.cells] (.one (.fz ((insD nd false ds).map Done.cells))) := (p_l5Put ds nd hl).to rfl
end Mg

/- An entry done, on the other side; what there is behind what a node knows. No condition. -/
namespace Mg
open Go Go.RowKit
set_option maxRecDepth 100000
set_option linter.unusedVariables false
set_option linter.unusedSimpArgs false
attribute [local irreducible] W Pure Con
def tDo (bx ps : List Two) : ConT := ⟨Unit, fun _ => True, fun _ => .one (.ref 0 0 4), fun _ => [.arr ((doPuts bx ps).map Two.cells)]⟩
def tAp (q : St × Int) : ConT := ⟨Unit, fun _ => True, fun _ => .tup [.agg [i6 q.1.at_, .ref 0 0 4, .fz (q.1.dones.map Done.cells)], oi q.2], fun _ => [.arr (q.1.boxes.map Two.cells)]⟩
theorem apply1_last {s : St} {e : Entry} (hn : e.none = false) : apply1 s e = if (sLast s.dones e.q.a).2 = true ∧ (sLast s.dones e.q.a).1.q = e.q then (up s, 3) else if (sLast s.dones e.q.a).2 = true ∧ e.q.b < (sLast s.dones e.q.a).1.q.b then (up s, 4) else (newSt s e, codeOf s.boxes e.run) := by
  unfold apply1 sLast
  rw [if_neg (by simp [hn])]
  cases lastD s.dones e.q.a with
  | none => simp
  | some d =>
    simp only [true_and, gt_iff_lt]
theorem two_beq {x y : Two} (h : (x.a == y.a && (x.b == y.b && true)) = true) : x = y := by
  obtain ⟨xa, xb⟩ := x
  obtain ⟨ya, yb⟩ := y
  simp at h
  rw [h.1, h.2]
set_option maxHeartbeats 16000000 in
theorem c_l5Apply (s : St) (hs : StOk s) (e : Entry) (he : entryOk e = true) (heo : e.ok lim) (ha : s.at_ < 40) : Con PP 116 [.agg [i6 s.at_, .ref 0 0 4, .fz (s.dones.map Done.cells)], .agg e.cells] [.arr (s.boxes.map Two.cells)] 1
    (tAp (apply1 s e)).p (tAp (apply1 s e)).r (tAp (apply1 s e)).os := by
  obtain ⟨q, hq⟩ : ∃ q, apply1 s e = q := ⟨_, rfl⟩
  rw [hq]
  obtain ⟨at_, bx, ds⟩ := s
  have hat := hs.at0
  have hb4 := boxOk_len' hs.box
  have hln := hs.len
  dsimp only at hat hb4 hln ha
  have hl40 : ds.length ≤ 40 := by omega
  have wa : IntKind.i64.wrap (at_ + 1) = at_ + 1 := by rw [wrapi] <;> omega
  obtain ⟨cd, hcd⟩ : ∃ cd, codeOf bx e.run = cd := ⟨_, rfl⟩
  have cL := c_l5Last (at_ + 1) bx ds hs.srt (by omega) e.q.a
  have hxo : e.run.ok lim := heo
  refine Con.vc [(21, .res (.tup [.agg (sLast ds e.q.a).1.cells, ob (sLast ds e.q.a).2])), (53, .res (ob (fresh bx e.run))), (73, .con false [0] [] [] (fun _ _ => tDo bx e.run.puts)), (78, .res (.one (.fz ((insD ⟨e.q, cd, if cd = 0 then e.run.c else 0⟩ false ds).map Done.cells)))), (900017, .row [i6 0, i6 1, i6 2, i6 3, i6 4])] TTok hmo Go.Proofs.Tryz.func116 rfl (by kernel_rfl) rfl (by kernel_rfl) ?_
  repeat' (first | refine And.intro ?_ ?_ | exact tf | exact ft | refine tt ?_ | refine ff ?_ | exact ⟨trivial⟩ | exact sAll rfl | exact sF1 rfl | exact sBld (by repeat' (first | exact trivial | rfl | exact Nat.le_of_ble_eq_true rfl | refine And.intro ?_ ?_)) rfl | exact sBS (by repeat' (first | exact trivial | rfl | exact Nat.le_of_ble_eq_true rfl | refine And.intro ?_ ?_)) rfl rfl rfl rfl | exact sBSF (by repeat' (first | exact trivial | rfl | exact Nat.le_of_ble_eq_true rfl | refine And.intro ?_ ?_)) rfl rfl rfl rfl | exact sLe rfl | exact Chk.mk (by kernel_rfl) | exact ⟨Chk.mk (by kernel_rfl)⟩ | exact sLeEq rfl rfl | refine fun h => ?_)
  all_goals try dsimp only [tDo, tAp] at *
  all_goals try (exact ⟨rfl⟩)
  all_goals try (exact trivial)
  all_goals try (exact ⟨Nat.le_of_ble_eq_true rfl, trivial, trivial⟩)
  all_goals try (exact sLend ⟨⟨trivial, lendF Two.frz hb4.symm, trivial, trivial⟩, trivial, trivial⟩ cL (by rw [l_all hb4.symm, wa]))
  · obtain rfl : (up ⟨at_, bx, ds⟩, 5) = q := by rw [← hq]; unfold apply1; rw [if_pos h]
    apply exU'; refine ⟨[], [], trivial, ?_⟩
    repeat' (first | exact trivial | exact ⟨trivial⟩ | exact Side.mk rfl | exact sF1 rfl | exact Chk.mk (by kernel_rfl) | exact ⟨Chk.mk (by kernel_rfl)⟩ | exact sMapF Two.flat | exact ⟨wa⟩ | exact ⟨wa.symm⟩ | refine And.intro ?_ ?_ | rfl)
  all_goals have hn : e.none = false := ‹e.none = false›
  all_goals have hx := (entryOk_q he hn).2.1
  all_goals have hl4 := boxOk_len' (doPuts_ok hs.box (execOk_f hx).pt)
  all_goals try (exact sLend ⟨lendF Two.frz hb4.symm, ⟨trivial, trivial, trivial, trivial, trivial⟩, trivial⟩ (c_spec_ExecFresh bx hs.box e.run hx hxo) (by rw [l_all hb4.symm]; rfl))
  all_goals try (exact ⟨allF Two.frz, trivial⟩)
  all_goals try (exact ⟨c_l3Do bx hs.box e.run hx hxo⟩)
  all_goals try (exact ⟨fun _ _ => ⟨allF Two.frz, trivial⟩⟩)
  all_goals try (exact ⟨fun _ _ => ⟨by simp [hl4, hb4], trivial⟩⟩)
  all_goals try (have hc0 : cd = 0 := (by rw [← hcd]; unfold codeOf; rw [if_pos ‹fresh bx e.run = true›, if_pos (eq_of_beq ‹(e.run.d == 0) = true›)]); subst hc0)
  all_goals try (have hc0 : cd = 2 := (by rw [← hcd]; unfold codeOf; rw [if_pos ‹fresh bx e.run = true›, if_neg (fun h' => by have h9 := ‹(e.run.d == 0) = false›; rw [h'] at h9; cases h9)]); subst hc0)
  all_goals try (have hc0 : cd = 1 := (by rw [← hcd]; unfold codeOf; rw [if_neg (by rw [‹fresh bx e.run = false›]; decide)]); subst hc0)
  all_goals try (exact sAnd (by repeat' constructor) (c_l5PutF ds ⟨e.q, 0, e.run.c⟩ (by omega)))
  all_goals try (exact sAnd (by repeat' constructor) (c_l5PutF ds ⟨e.q, 2, 0⟩ (by omega)))
  all_goals try (exact sAnd (by repeat' constructor) (c_l5PutF ds ⟨e.q, 1, 0⟩ (by omega)))
  all_goals try (exfalso; simp_all; done)
  all_goals first
    | (have e3 : (up ⟨at_, bx, ds⟩, 3) = q := (by rw [← hq, apply1_last (s := ⟨at_, bx, ds⟩) hn]; exact (if_pos ⟨by assumption, two_beq (by assumption)⟩).symm)
       subst e3
       apply exU'; refine ⟨[], [], trivial, ?_⟩
       (focus (repeat' (first | exact trivial | exact ⟨trivial⟩ | exact Side.mk rfl | exact sF1 rfl | exact Chk.mk (by kernel_rfl) | exact ⟨Chk.mk (by kernel_rfl)⟩ | exact sMapF Two.flat | exact ⟨wa⟩ | exact ⟨wa.symm⟩ | refine And.intro ?_ ?_ | rfl))); done)
    | (have e3 : (up ⟨at_, bx, ds⟩, 4) = q := (by
         rw [← hq, apply1_last (s := ⟨at_, bx, ds⟩) hn]
         rw [if_neg (by rintro ⟨h1, h2⟩; dsimp only at h1 h2; simp_all), if_pos ⟨by assumption, of_decide_eq_true (by assumption)⟩])
       subst e3
       apply exU'; refine ⟨[], [], trivial, ?_⟩
       (focus (repeat' (first | exact trivial | exact ⟨trivial⟩ | exact Side.mk rfl | exact sF1 rfl | exact Chk.mk (by kernel_rfl) | exact ⟨Chk.mk (by kernel_rfl)⟩ | exact sMapF Two.flat | exact ⟨wa⟩ | exact ⟨wa.symm⟩ | refine And.intro ?_ ?_ | rfl))); done)
    | skip
  all_goals (have hnew : apply1 ⟨at_, bx, ds⟩ e = (newSt ⟨at_, bx, ds⟩ e, codeOf bx e.run) := (by rw [apply1_last (s := ⟨at_, bx, ds⟩) hn]; dsimp only; rw [if_neg (by rintro ⟨h1, h2⟩; simp_all), if_neg (by rintro ⟨h1, h2⟩; first | (simp_all; done) | (simp_all; omega))]))
  all_goals first
    | (have e3 : ((⟨at_ + 1, doPuts bx e.run.puts, insD ⟨e.q, 0, e.run.c⟩ false ds⟩ : St), (0 : Int)) = q := (by rw [← hq, hnew]; simp only [newSt, newD, hcd]; rfl)
       subst e3
       apply exU'; refine ⟨[], [], trivial, ?_⟩
       (focus (repeat' (first | exact trivial | exact ⟨trivial⟩ | exact Side.mk rfl | exact sF1 rfl | exact Chk.mk (by kernel_rfl) | exact ⟨Chk.mk (by kernel_rfl)⟩ | exact sMapF Two.flat | exact ⟨wa⟩ | exact ⟨wa.symm⟩ | refine And.intro ?_ ?_ | rfl))); done)
    | (have e3 : ((⟨at_ + 1, bx, insD ⟨e.q, 2, 0⟩ false ds⟩ : St), (2 : Int)) = q := (by rw [← hq, hnew]; simp only [newSt, newD, hcd]; rfl)
       subst e3
       apply exU'; refine ⟨[], [], trivial, ?_⟩
       (focus (repeat' (first | exact trivial | exact ⟨trivial⟩ | exact Side.mk rfl | exact sF1 rfl | exact Chk.mk (by kernel_rfl) | exact ⟨Chk.mk (by kernel_rfl)⟩ | exact sMapF Two.flat | exact ⟨wa⟩ | exact ⟨wa.symm⟩ | refine And.intro ?_ ?_ | rfl))); done)
    | (have e3 : ((⟨at_ + 1, bx, insD ⟨e.q, 1, 0⟩ false ds⟩ : St), (1 : Int)) = q := (by rw [← hq, hnew]; simp only [newSt, newD, hcd]; rfl)
       subst e3
       apply exU'; refine ⟨[], [], trivial, ?_⟩
       (focus (repeat' (first | exact trivial | exact ⟨trivial⟩ | exact Side.mk rfl | exact sF1 rfl | exact Chk.mk (by kernel_rfl) | exact ⟨Chk.mk (by kernel_rfl)⟩ | exact sMapF Two.flat | exact ⟨wa⟩ | exact ⟨wa.symm⟩ | refine And.intro ?_ ?_ | rfl))); done)
    | skip
end Mg

/- What it is to number all that hangs on a value. No condition. -/
namespace Mg
open Go Go.RowKit
set_option linter.unusedVariables false
set_option linter.unusedSectionVars false
def mkB (k : Int) : Bool := (k.tmod 3 == 0)
section
variable {α : Type} [Inhabited α]
def mkL (f : α → Int → α) (ct : α → Int) : List α → Int → List α
  | [], _ => []
  | x :: xs, k => f x k :: mkL f ct xs (k + ct x)
def ctL (ct : α → Int) : List α → Int
  | [] => 0
  | x :: xs => ct x + ctL ct xs
def mkUp (f : α → Int → α) (ct : α → Int) (xs : List α) (k : Int) (i : Nat) : List α := mkL f ct (xs.take i) k ++ xs.drop i
variable {f : α → Int → α} {ct : α → Int}
theorem mkL_len : ∀ (xs : List α) (k : Int), (mkL f ct xs k).length = xs.length
  | [], _ => rfl
  | x :: xs, k => by simp [mkL, mkL_len xs]
theorem ctL_app : ∀ (xs ys : List α), ctL ct (xs ++ ys) = ctL ct xs + ctL ct ys
  | [], ys => by simp [ctL]
  | x :: xs, ys => by simp [ctL, ctL_app xs ys]; omega
theorem mkL_app : ∀ (xs ys : List α) (k : Int), mkL f ct (xs ++ ys) k = mkL f ct xs k ++ mkL f ct ys (k + ctL ct xs)
  | [], ys, k => by simp [mkL, ctL]
  | x :: xs, ys, k => by
    simp only [List.cons_append, mkL, ctL, mkL_app xs ys]
    rw [show k + ct x + ctL ct xs = k + (ct x + ctL ct xs) by omega]
theorem take1 {xs : List α} {i : Nat} (h : i < xs.length) : xs.take (i + 1) = xs.take i ++ [xs.getD i default] := by
  rw [List.take_succ_eq_append_getElem h, getD_get h]
theorem ctL_take {xs : List α} {i : Nat} (h : i < xs.length) : ctL ct (xs.take (i + 1)) = ctL ct (xs.take i) + ct (xs.getD i default) := by
  rw [take1 h, ctL_app]; simp [ctL]
theorem mkUp_len {xs : List α} {k : Int} {i : Nat} : (mkUp f ct xs k i).length = xs.length := by
  simp [mkUp, mkL_len]; omega
theorem mkUp_zero {xs : List α} {k : Int} : mkUp f ct xs k 0 = xs := by simp [mkUp, mkL]
theorem mkUp_all {xs : List α} {k : Int} {i : Nat} (h : xs.length ≤ i) : mkUp f ct xs k i = mkL f ct xs k := by
  simp [mkUp, List.take_of_length_le h, List.drop_eq_nil_of_le h]
theorem mkUp_get {xs : List α} {k : Int} {i : Nat} (h : i < xs.length) : (mkUp f ct xs k i)[i]? = some (xs.getD i default) := by
  have hl : (mkL f ct (xs.take i) k).length = i := by rw [mkL_len]; simp; omega
  rw [mkUp, List.getElem?_append_right (by omega), hl, Nat.sub_self, List.getElem?_drop, Nat.add_zero, List.getElem?_eq_getElem h, getD_get h]
theorem mkUp_set {xs : List α} {k : Int} {i : Nat} (h : i < xs.length) : (mkUp f ct xs k i).set i (f (xs.getD i default) (k + ctL ct (xs.take i))) = mkUp f ct xs k (i + 1) := by
  have hl : (mkL f ct (xs.take i) k).length = i := by rw [mkL_len]; simp; omega
  rw [mkUp, List.set_append, if_neg (by omega), hl, Nat.sub_self, List.drop_eq_getElem_cons h, List.set_cons_zero, mkUp, take1 h, mkL_app]
  simp [mkL]
theorem ctL_bd {M : Int} : ∀ {xs : List α}, (∀ x ∈ xs, 0 ≤ ct x ∧ ct x ≤ M) → 0 ≤ ctL ct xs ∧ ctL ct xs ≤ xs.length * M
  | [], _ => by simp [ctL]
  | x :: xs, h => by
    obtain ⟨h1, h2⟩ := h x (by simp)
    obtain ⟨h3, h4⟩ := ctL_bd (M := M) fun y hy => h y (List.mem_cons_of_mem _ hy)
    simp only [ctL, List.length_cons]
    push_cast
    rw [Int.add_mul]
    omega
theorem ctL_bdt {M : Int} {xs : List α} (hM : 0 ≤ M) (h : ∀ x ∈ xs, 0 ≤ ct x ∧ ct x ≤ M) (i : Nat) : 0 ≤ ctL ct (xs.take i) ∧ ctL ct (xs.take i) ≤ xs.length * M := by
  obtain ⟨h1, h2⟩ := ctL_bd (xs := xs.take i) fun x hx => h x (List.mem_of_mem_take hx)
  refine ⟨h1, Int.le_trans h2 (Int.mul_le_mul_of_nonneg_right ?_ hM)⟩
  simp; omega
theorem mkL_get {xs : List α} {k : Int} {i : Nat} (h : i < xs.length) : (mkL f ct xs k)[i]? = some (f (xs.getD i default) (k + ctL ct (xs.take i))) := by
  have := congrArg (fun l => l[i]?) (mkUp_set (f := f) (ct := ct) (k := k) h)
  have hl : i < (mkUp f ct xs k i).length := by rw [mkUp_len]; exact h
  rw [List.getElem?_set_self hl] at this
  rw [this]
  have e : mkL f ct xs k = mkL f ct (xs.take (i + 1)) k ++ mkL f ct (xs.drop (i + 1)) (k + ctL ct (xs.take (i + 1))) := by rw [← mkL_app, List.take_append_drop]
  have hl2 : i < (mkL f ct (xs.take (i + 1)) k).length := by rw [mkL_len]; simp; omega
  rw [e, mkUp, List.getElem?_append_left hl2, List.getElem?_append_left hl2]
def ctK (n : Int) (_ : α) : Int := n
theorem ctL_const {n : Int} : ∀ xs : List α, ctL (ctK n) xs = n * xs.length
  | [] => by simp [ctL]
  | x :: xs => by
    simp only [ctL, ctL_const xs, List.length_cons, ctK]
    push_cast
    rw [Int.mul_add]; omega
end
def likeLs : List MC → List MC → Prop
  | [], [] => True
  | c :: cs, d :: ds => like c d ∧ likeLs cs ds
  | _, _ => False
theorem likeLs_get : ∀ {cs ds : List MC}, likeLs cs ds → cs.length = ds.length ∧ ∀ (j : Nat) (c d : MC), cs[j]? = some c → ds[j]? = some d → like c d
  | [], [], _ => ⟨rfl, fun j c d hj => by simp at hj⟩
  | c :: cs, d :: ds, h => by
    obtain ⟨h1, h2⟩ := likeLs_get h.2
    refine ⟨by simp [h1], fun j x y hx hy => ?_⟩
    cases j with
    | zero => obtain rfl := Option.some.inj hx; obtain rfl := Option.some.inj hy; exact h.1
    | succ j => exact h2 j x y hx hy
  | [], _ :: _, h => h.elim
  | _ :: _, [], h => h.elim
theorem likeR_map {α : Type} {c : α → List MC} {xs ys : List α} (hl : xs.length = ys.length) (hc : ∀ x y, likeLs (c x) (c y)) : likeR (xs.map c) (ys.map c) := by
  refine ⟨by simp [hl], fun i r r' h1 h2 => ?_⟩
  rw [List.getElem?_map] at h1 h2
  obtain ⟨x, _, rfl⟩ := Option.map_eq_some_iff.1 h1
  obtain ⟨y, _, rfl⟩ := Option.map_eq_some_iff.1 h2
  exact likeLs_get (hc x y)
theorem lab_map_get {α : Type} [Inhabited α] {c : α → List MC} {B : Nat → Nat → Tk} {xs : List α} {i : Nat} {x : α} (h : xs[i]? = some x) : (labR true B 0 (xs.map c))[i]? = some (labRow true (B i) 0 (c x)) := by
  rw [labR_get, List.getElem?_map, h, Nat.zero_add]; rfl
theorem lab_map_set {α : Type} {c : α → List MC} {B : Nat → Nat → Tk} {xs : List α} {i : Nat} {x : α} : (labR true B 0 (xs.map c)).set i (labRow true (B i) 0 (c x)) = labR true B 0 ((xs.set i x).map c) := by
  have := labR_set (o := true) (B := B) (xs.map c) 0 i (c x)
  rw [Nat.zero_add] at this
  rw [this, List.map_set]
section
variable {α : Type} [Inhabited α] {f : α → Int → α} {ct : α → Int} {c : α → List MC} {xs : List α} {k : Int} {B : Nat → Nat → Tk} {i : Nat}
theorem sUp0 : Side (labR true B 0 ((mkUp f ct xs k 0).map c) = labR true B 0 (xs.map c)) := ⟨by rw [mkUp_zero]⟩
theorem sUpE (h : xs.length ≤ i) : Side (labR true B 0 ((mkUp f ct xs k i).map c) = labR true B 0 ((mkL f ct xs k).map c)) := ⟨by rw [mkUp_all h]⟩
theorem sK0 : Side (k + ctL ct (xs.take 0) = k) := ⟨by simp [ctL]⟩
theorem sKE (h : xs.length ≤ i) : Side (k + ctL ct (xs.take i) = k + ctL ct xs) := ⟨by rw [List.take_of_length_le h]⟩
theorem sLenM : Side (xs.length = (xs.map c).length) := ⟨by rw [List.length_map]⟩
theorem sWrap {a b : Int} (h : a = b + 1) (h1 : -9223372036854775808 ≤ b + 1) (h2 : b + 1 ≤ 9223372036854775807) : Side (a = IntKind.i64.wrap (b + 1)) := ⟨by rw [wrapi h1 h2, h]⟩
theorem sFlatL {rows : List (List MC)} (h : AllF rows) : Side (∀ r ∈ labR true B 0 rows, ∀ c ∈ r, c.flat = true) := ⟨lab_flat h⟩
end
theorem apart_row {B : Nat → Tk} (hB : ∀ j j' x, (B j).B x → (B j').B x → j = j') {o : Nat} {cs0 : List MC} (hp : cs0.all plainC = true := by rfl) : Apart (tokOf (.agg (labRow true B o cs0))) := fun i j i' j' x h1 h2 => by
  have key : ∀ i j, (tokOf (.agg (labRow true B o cs0)) i j).B x → i = 0 ∧ (B (o + j)).B x := fun i j h => by
    cases i with
    | succ i => exact h.elim
    | zero =>
      refine ⟨rfl, ?_⟩
      have h : (tokC ((labRow true B o cs0).getD j .dead)).B x := h
      rw [List.getD_eq_getElem?_getD, labRow_get] at h
      cases hj : cs0[j]? with
      | none => rw [hj] at h; exact h.elim
      | some c =>
        rw [hj] at h
        have hc := List.all_eq_true.1 hp c (List.mem_of_getElem? hj)
        cases c <;> first | exact h.elim | exact h | cases hc
  have h3 := key i j h1; have h4 := key i' j' h2
  exact ⟨h3.1.trans h4.1.symm, by have := hB _ _ x h3.2 h4.2; omega⟩
theorem nin_row {B : Nat → Tk} (hB : ∀ j j' x, (B j).B x → (B j').B x → j = j') {o j x : Nat} (hx : (B j).B x) {cs0 : List MC} (hj : (j < o || o + cs0.length ≤ j) = true) (h : in1 x (.agg (labRow true B o cs0))) (hp : cs0.all plainC = true := by rfl) : False := by
  obtain ⟨c, hc, h2⟩ := h
  obtain ⟨i, hi⟩ := List.getElem?_of_mem hc
  have hlt := (List.getElem?_eq_some_iff.1 hi).1
  rw [labRow_len] at hlt
  rw [labRow_get] at hi
  obtain ⟨d, hd, rfl⟩ := Option.map_eq_some_iff.1 hi
  have hpc := List.all_eq_true.1 hp d (List.mem_of_getElem? hd)
  have h3 : (B (o + i)).B x := by cases d <;> first | exact h2.elim | exact h2 | cases hpc
  have := hB _ _ x hx h3
  simp at hj
  omega
theorem pure_eq {f : Nat} {args : List MV} {k1 k2 : Int} (h : Pure PP false f args (oi k1)) (e : k2 = k1) : Pure PP false f args (oi k2) := e ▸ h
theorem sKEo {α : Type} {ct : α → Int} {xs : List α} {k : Int} {i : Nat} {p : Prop} (hp : p) (h : xs.length ≤ i) : Side (p ∧ Value.int .i64 (k + ctL ct (xs.take i)) = Value.int .i64 (k + ctL ct xs) ∧ True) := ⟨hp, by rw [List.take_of_length_le h], trivial⟩
theorem tmark_eq {f : Nat} {x x' : MV} {k k1 k2 : Int} (h : TMark PP f x k x' k1) (e : k2 = k1) : TMark PP f x k x' k2 := e ▸ h
theorem sLd1 {X : List (List MC)} {i k off : Nat} {r : List MC} {c : MC} (h : i < X.length) (hk : k = i) (hr : r.drop off = c :: r.drop (off + 1)) : Side (1 ≤ (List.drop off ((X.set i r).getD (0 + k) [])).length) := ⟨by
  subst hk; rw [setGet h, hr]; simp⟩
/- ------------------------------------------------ the kinds -/
def mkTwo (_ : Two) (k : Int) : Two := ⟨k, k + 1⟩
def mkTwos (xs : List Two) (k : Int) : List Two := mkL mkTwo (ctK 2) xs k
def mkBool (_ : Bool) (k : Int) : Bool := mkB k
def mkBools (xs : List Bool) (k : Int) : List Bool := mkL mkBool (ctK 1) xs k
def mkIns (_ : Ins) (k : Int) : Ins := ⟨k, k + 1, k + 2, k + 3⟩
def mkInss (xs : List Ins) (k : Int) : List Ins := mkL mkIns (ctK 4) xs k
def mkTold (_ : Told) (k : Int) : Told := ⟨k, ⟨k + 1, k + 2⟩, k + 3, k + 4⟩
def mkTolds (xs : List Told) (k : Int) : List Told := mkL mkTold (ctK 5) xs k
def ctEntry (e : Entry) : Int := 5 + 2 * e.run.reads.length + 2 * e.run.puts.length
def mkEntry (e : Entry) (k : Int) : Entry := ⟨mkB k, ⟨k + 1, k + 2⟩, ⟨mkTwos e.run.reads (k + 3), mkTwos e.run.puts (k + 3 + 2 * e.run.reads.length), k + 3 + 2 * e.run.reads.length + 2 * e.run.puts.length, k + 4 + 2 * e.run.reads.length + 2 * e.run.puts.length⟩⟩
def mkRun (r : Run) (k : Int) : Run := ⟨mkTwos r.reads k, mkTwos r.puts (k + 2 * r.reads.length), r.c, r.d⟩
def mkRunE (e : Entry) (k : Int) : Entry := ⟨e.none, e.q, mkRun e.run k⟩
def mkEntries (xs : List Entry) (k : Int) : List Entry := mkL mkEntry ctEntry xs k
def ctEntries (xs : List Entry) : Int := ctL ctEntry xs
def ctVote (v : Vote) : Int := 6 + 2 * v.e.run.reads.length + 2 * v.e.run.puts.length
def mkVote (v : Vote) (k : Int) : Vote := ⟨k, ⟨mkB (k + 1), ⟨k + 2, k + 3⟩, ⟨mkTwos v.e.run.reads (k + 4), mkTwos v.e.run.puts (k + 4 + 2 * v.e.run.reads.length), k + 4 + 2 * v.e.run.reads.length + 2 * v.e.run.puts.length, k + 5 + 2 * v.e.run.reads.length + 2 * v.e.run.puts.length⟩⟩⟩
def mkVotes (xs : List Vote) (k : Int) : List Vote := mkL mkVote ctVote xs k
def ctVotes (xs : List Vote) : Int := ctL ctVote xs
def mkAcc (a : Acc) (k : Int) : Acc := ⟨a.p, mkVotes a.votes k⟩
theorem ctTwos (xs : List Two) : ctL (ctK 2) xs = 2 * xs.length := ctL_const xs
theorem ctEntry_bd {e : Entry} (h : e.ok lim) : 0 ≤ ctEntry e ∧ ctEntry e ≤ 5000000 := by
  have h1 : e.run.reads.length ≤ 1048576 := h.1
  have h2 : e.run.puts.length ≤ 1048576 := h.2
  unfold ctEntry; omega
theorem ctVote_bd {e : Vote} (h : e.ok lim) : 0 ≤ ctVote e ∧ ctVote e ≤ 5000001 := by
  have h1 : e.e.run.reads.length ≤ 1048576 := h.1
  have h2 : e.e.run.puts.length ≤ 1048576 := h.2
  unfold ctVote; omega
end Mg
