/- Parts of the abstract state logic and of the walks, one behind the other: NS2, BC. No condition. -/
import Derived.Test.YtedgmfmhilihoaaGreatP20
import Derived.Test.YtedgmfmhilihoaaGreatP19
import Derived.Test.YtedgmfmhilihoaaGreatP12
/- What there is behind entries, on the program's side. No condition. -/
namespace Mg
open Go Go.RowKit
set_option maxRecDepth 100000
set_option linter.unusedVariables false
set_option linter.unusedSimpArgs false
attribute [local irreducible] W Pure Con

theorem p_copied_Box (xs : List Two) (hx : xs.length ≤ lim) : Pure PP false 179 [.one (.fz (xs.map Two.cells))] (.one (.own (xs.map Two.cells))) := by
  have hx0 : xs.length ≤ 1048576 := hx
  refine Pure.vc [] TTok hmo Go.Proofs.Tryz.func179 (by kernel_rfl) rfl (by kernel_rfl) ?_
  repeat' (first | refine And.intro ?_ ?_ | exact tf | exact ft | refine tt ?_ | refine ff ?_ | exact ⟨trivial⟩ | exact sAll rfl | exact sF1 rfl | exact sBld (by repeat' (first | exact trivial | rfl | exact Nat.le_of_ble_eq_true rfl | refine And.intro ?_ ?_)) rfl | exact sBS (by repeat' (first | exact trivial | rfl | exact Nat.le_of_ble_eq_true rfl | refine And.intro ?_ ?_)) rfl rfl rfl rfl | exact sBSF (by repeat' (first | exact trivial | rfl | exact Nat.le_of_ble_eq_true rfl | refine And.intro ?_ ?_)) rfl rfl rfl rfl | exact sLe rfl | exact Chk.mk (by kernel_rfl) | exact ⟨Chk.mk (by kernel_rfl)⟩ | exact sLeEq rfl rfl | refine fun h => ?_)
  · have h0 : xs = [] := by simp at h; exact h
    subst h0
    exact ⟨⟨trivial, trivial⟩, rfl, trivial⟩
  · exact sMk hx0 rfl
  · have h0 : 0 < xs.length := Nat.pos_of_ne_zero (fun e => by rw [List.length_map, e] at h; revert h; decide)
    exact sCp (toA_map fun _ => rfl) (by simp) (by simp) h0 rfl (fun _ => rfl)
  · have e := toA_map (c := Two.cells) (xs := xs) fun _ => rfl
    exact ⟨⟨trivial, trivial⟩, ⟨rfl, by rw [e]; exact Int.toNat_natCast _, e, by rw [e]; exact allF Two.frz⟩, trivial⟩

theorem p_copied_Done (xs : List Done) (hx : xs.length ≤ lim) : Pure PP false 180 [.one (.fz (xs.map Done.cells))] (.one (.own (xs.map Done.cells))) := by
  have hx0 : xs.length ≤ 1048576 := hx
  refine Pure.vc [] TTok hmo Go.Proofs.Tryz.func180 (by kernel_rfl) rfl (by kernel_rfl) ?_
  repeat' (first | refine And.intro ?_ ?_ | exact tf | exact ft | refine tt ?_ | refine ff ?_ | exact ⟨trivial⟩ | exact sAll rfl | exact sF1 rfl | exact sBld (by repeat' (first | exact trivial | rfl | exact Nat.le_of_ble_eq_true rfl | refine And.intro ?_ ?_)) rfl | exact sBS (by repeat' (first | exact trivial | rfl | exact Nat.le_of_ble_eq_true rfl | refine And.intro ?_ ?_)) rfl rfl rfl rfl | exact sBSF (by repeat' (first | exact trivial | rfl | exact Nat.le_of_ble_eq_true rfl | refine And.intro ?_ ?_)) rfl rfl rfl rfl | exact sLe rfl | exact Chk.mk (by kernel_rfl) | exact ⟨Chk.mk (by kernel_rfl)⟩ | exact sLeEq rfl rfl | refine fun h => ?_)
  · have h0 : xs = [] := by simp at h; exact h
    subst h0
    exact ⟨⟨trivial, trivial⟩, rfl, trivial⟩
  · exact sMk hx0 rfl
  · have h0 : 0 < xs.length := Nat.pos_of_ne_zero (fun e => by rw [List.length_map, e] at h; revert h; decide)
    exact sCp (toA_map fun _ => rfl) (by simp) (by simp) h0 rfl (fun _ => rfl)
  · have e := toA_map (c := Done.cells) (xs := xs) fun _ => rfl
    exact ⟨⟨trivial, trivial⟩, ⟨rfl, by rw [e]; exact Int.toNat_natCast _, e, by rw [e]; exact allF Done.frz⟩, trivial⟩

theorem p_impl_BoxOpen : Pure PP false 177 [] (.one (.own ((List.replicate 4 (⟨0, 0⟩ : Two)).map Two.cells))) := by
  refine Pure.vc [] TTok hmo Go.Proofs.Tryz.func177 (by kernel_rfl) rfl (by kernel_rfl) ?_
  repeat' (first | refine And.intro ?_ ?_ | exact tf | exact ft | refine tt ?_ | refine ff ?_ | exact ⟨trivial⟩ | exact sAll rfl | exact sF1 rfl | exact sBld (by repeat' (first | exact trivial | rfl | exact Nat.le_of_ble_eq_true rfl | refine And.intro ?_ ?_)) rfl | exact sBS (by repeat' (first | exact trivial | rfl | exact Nat.le_of_ble_eq_true rfl | refine And.intro ?_ ?_)) rfl rfl rfl rfl | exact sBSF (by repeat' (first | exact trivial | rfl | exact Nat.le_of_ble_eq_true rfl | refine And.intro ?_ ?_)) rfl rfl rfl rfl | exact sLe rfl | exact Chk.mk (by kernel_rfl) | exact ⟨Chk.mk (by kernel_rfl)⟩ | exact sLeEq rfl rfl | refine fun h => ?_)
  · exact ⟨by decide⟩
  · exact ⟨⟨trivial, trivial⟩, ⟨rfl, rfl, rfl, map_frz (xs := List.replicate 4 (⟨0, 0⟩ : Two)) Two.frz⟩, trivial⟩
theorem p_impl_CertOpen : Pure PP false 154 [] (.agg [i6 0, .own (stOpen.boxes.map Two.cells), .own (stOpen.dones.map Done.cells)]) := by
  refine Pure.vc [(1, .res (.one (.own ((List.replicate 4 (⟨0, 0⟩ : Two)).map Two.cells))))] TTok hmo Go.Proofs.Tryz.func154 (by kernel_rfl) rfl (by kernel_rfl) ?_
  repeat' (first | refine And.intro ?_ ?_ | exact tf | exact ft | refine tt ?_ | refine ff ?_ | exact ⟨trivial⟩ | exact sAll rfl | exact sF1 rfl | exact sBld (by repeat' (first | exact trivial | rfl | exact Nat.le_of_ble_eq_true rfl | refine And.intro ?_ ?_)) rfl | exact sBS (by repeat' (first | exact trivial | rfl | exact Nat.le_of_ble_eq_true rfl | refine And.intro ?_ ?_)) rfl rfl rfl rfl | exact sBSF (by repeat' (first | exact trivial | rfl | exact Nat.le_of_ble_eq_true rfl | refine And.intro ?_ ?_)) rfl rfl rfl rfl | exact sLe rfl | exact Chk.mk (by kernel_rfl) | exact ⟨Chk.mk (by kernel_rfl)⟩ | exact sLeEq rfl rfl | exact sAnd (by repeat' constructor) (p_impl_BoxOpen) | refine fun h => ?_)
  all_goals exact ⟨⟨Nat.le_of_ble_eq_true rfl, trivial⟩, rfl, ⟨rfl, rfl, rfl, map_frz (xs := List.replicate 4 (⟨0, 0⟩ : Two)) Two.frz⟩, rfl, trivial⟩
set_option maxHeartbeats 2000000 in
theorem c_impl_BoxOk (xs : List Two) (hx : xs.length ≤ maxLen) : Pure PP false 184 [.one (.fz (xs.map Two.cells))] (ob (boxOk xs)) := by
  have hx' : xs.length ≤ 9223372036854775807 := hx
  refine Pure.vc [] TTok hmo Go.Proofs.Tryz.func184 (by kernel_rfl) rfl (by kernel_rfl) ?_
  repeat' (first | refine And.intro ?_ ?_ | exact tf | exact ft | refine tt ?_ | refine ff ?_ | exact ⟨trivial⟩ | exact sAll rfl | exact sF1 rfl | exact sBld (by repeat' (first | exact trivial | rfl | exact Nat.le_of_ble_eq_true rfl | refine And.intro ?_ ?_)) rfl | exact sBS (by repeat' (first | exact trivial | rfl | exact Nat.le_of_ble_eq_true rfl | refine And.intro ?_ ?_)) rfl rfl rfl rfl | exact sBSF (by repeat' (first | exact trivial | rfl | exact Nat.le_of_ble_eq_true rfl | refine And.intro ?_ ?_)) rfl rfl rfl rfl | exact sLe rfl | exact Chk.mk (by kernel_rfl) | exact ⟨Chk.mk (by kernel_rfl)⟩ | exact sLeEq rfl rfl | refine fun h => ?_)
  refine W.loopC (D := Nat) (fun i => [(9, .row (xs.getD i default).cells), (13, .res (ob (inr (xs.getD i default).a 0 1000000))), (18, .res (ob (inr (xs.getD i default).b (-1000000) 1000000)))]) TTok hmo
    (fun i => ⟨25, 0, [(0, .one (.ag (xs.map Two.cells))), (2, ob false), (5, .one (.ag (xs.map Two.cells))), (6, oi xs.length), (7, oi i)], []⟩) (fun i => xs.length - i) (fun i => i ≤ xs.length ∧ (xs.take i).all boxEl = true) 0 [] ⟨by omega, by simp⟩ ?_ ?_
  · show subC _ _ _ _
    repeat' (first | exact trivial | exact Side.mk rfl | exact Chk.mk (by kernel_rfl) | exact ⟨Chk.mk (by kernel_rfl)⟩ | refine And.intro ?_ ?_ | rfl)
    all_goals exact ⟨by simp⟩
  · intro i ⟨hi, hp⟩
    repeat' (first | refine And.intro ?_ ?_ | exact tf | exact ft | refine tt ?_ | refine ff ?_ | exact ⟨trivial⟩ | exact sAll rfl | exact sF1 rfl | exact sBld (by repeat' (first | exact trivial | rfl | exact Nat.le_of_ble_eq_true rfl | refine And.intro ?_ ?_)) rfl | exact sBS (by repeat' (first | exact trivial | rfl | exact Nat.le_of_ble_eq_true rfl | refine And.intro ?_ ?_)) rfl rfl rfl rfl | exact sBSF (by repeat' (first | exact trivial | rfl | exact Nat.le_of_ble_eq_true rfl | refine And.intro ?_ ?_)) rfl rfl rfl rfl | exact sLe rfl | exact Chk.mk (by kernel_rfl) | exact ⟨Chk.mk (by kernel_rfl)⟩ | exact sLeEq rfl rfl | exact sAnd (by repeat' constructor) (c_impl_in _ _ _) | refine fun h => ?_)
    all_goals simp only [decide_eq_true_eq, decide_eq_false_iff_not, List.length_map, Bool.not_eq_true', Bool.not_eq_false', Bool.not_eq_eq_eq_not, Bool.not_true, Bool.not_false, bne_iff_ne, ne_eq, bne_eq_false_iff_eq, beq_iff_eq, beq_eq_false_iff_ne] at *
    all_goals try (exact sRow (by omega) (row_at xs _ (by omega)) rfl)
    · refine ⟨?_⟩; have := all_bad (f := boxEl) (xs := xs) (i := i) (by omega) (by simp_all [boxEl]); simp [boxOk, this]
    · refine ⟨i + 1, [], by omega, ⟨by omega, all_step (by omega) hp (by simp_all [boxEl])⟩, ?_⟩
      repeat' (first | exact trivial | exact Side.mk rfl | exact Chk.mk (by kernel_rfl) | exact ⟨Chk.mk (by kernel_rfl)⟩ | exact ⟨wrap_succ (n := xs.length) (by omega) (by omega)⟩ | refine And.intro ?_ ?_ | rfl)
    · refine ⟨?_⟩; have := all_bad (f := boxEl) (xs := xs) (i := i) (by omega) (by simp_all [boxEl]); simp [boxOk, this]
    · refine ⟨?_⟩; have := all_end (by omega) hp; simp [boxOk, this]; rw [Bool.eq_iff_iff]; simp

theorem srtD_at {ds : List Done} (h : SrtD ds) {i : Nat} (h0 : 0 < i) (hi : i < ds.length) : (ds.getD (i - 1) default).q.a < (ds.getD i default).q.a := by
  have := List.pairwise_iff_getElem.1 h (i - 1) i (by omega) hi (by omega)
  rw [getD_get hi, getD_get (by omega)]; exact this
theorem doneB_f {d : Done} (h : doneB d = true) : reqOk d.q = true ∧ inr d.code 0 2 = true ∧ inr d.val (-1000000) 1000000 = true ∧ (d.code = 0 ∨ d.val = 0) := by
  simp only [doneB, Bool.and_eq_true, Bool.or_eq_true, beq_iff_eq] at h
  exact ⟨h.1.1.1, h.1.1.2, h.1.2, h.2⟩
set_option maxHeartbeats 4000000 in
theorem c_impl_CertOk (s : St) (hs : StOk s) : Pure PP false 178 [.agg s.cells] (ob true) := by
  obtain ⟨at_, bx, ds⟩ := s
  obtain ⟨hat, hbx, hdn, hsr, hln⟩ := hs
  dsimp only at hat hbx hdn hsr hln
  have hb4 := boxOk_len' hbx
  have hl40 : ds.length ≤ 40 := by omega
  refine Pure.vc [(60, .res (ob (inr at_ 0 40))), (64, .res (ob (boxOk bx)))] TTok hmo Go.Proofs.Tryz.func178 (by kernel_rfl) rfl (by kernel_rfl) ?_
  repeat' (first | refine And.intro ?_ ?_ | exact tf | exact ft | refine tt ?_ | refine ff ?_ | exact ⟨trivial⟩ | exact sAll rfl | exact sF1 rfl | exact sBld (by repeat' (first | exact trivial | rfl | exact Nat.le_of_ble_eq_true rfl | refine And.intro ?_ ?_)) rfl | exact sBS (by repeat' (first | exact trivial | rfl | exact Nat.le_of_ble_eq_true rfl | refine And.intro ?_ ?_)) rfl rfl rfl rfl | exact sBSF (by repeat' (first | exact trivial | rfl | exact Nat.le_of_ble_eq_true rfl | refine And.intro ?_ ?_)) rfl rfl rfl rfl | exact sLe rfl | exact Chk.mk (by kernel_rfl) | exact ⟨Chk.mk (by kernel_rfl)⟩ | exact sLeEq rfl rfl | refine fun h => ?_)
  refine W.loopC (D := Nat) (fun i => [(11, .row (ds.getD i default).cells), (20, .row (ds.getD (i - 1) default).cells), (32, .res (ob (reqOk (ds.getD i default).q))), (38, .res (ob (inr (ds.getD i default).code 0 2))), (44, .res (ob (inr (ds.getD i default).val (-1000000) 1000000)))]) TTok hmo
    (fun i => ⟨66, 1, [(1, .one (.ptr 0 0 0)), (2, ob false), (6, .one (.ag (ds.map Done.cells))), (7, oi ds.length), (8, oi i)], [(0, .box [i6 at_, .ag (bx.map Two.cells), .ag (ds.map Done.cells)])]⟩) (fun i => ds.length - i) (fun i => i ≤ ds.length) 0 [] (by omega) ?_ ?_
  · repeat' (first | exact trivial | exact ⟨trivial⟩ | exact Side.mk rfl | exact sF1 rfl | exact Chk.mk (by kernel_rfl) | exact ⟨Chk.mk (by kernel_rfl)⟩ | exact sMapF Done.flat | refine And.intro ?_ ?_ | rfl)
    all_goals exact ⟨by simp⟩
  · intro i hi
    repeat' (first | refine And.intro ?_ ?_ | exact tf | exact ft | refine tt ?_ | refine ff ?_ | exact ⟨trivial⟩ | exact sAll rfl | exact sF1 rfl | exact sBld (by repeat' (first | exact trivial | rfl | exact Nat.le_of_ble_eq_true rfl | refine And.intro ?_ ?_)) rfl | exact sBS (by repeat' (first | exact trivial | rfl | exact Nat.le_of_ble_eq_true rfl | refine And.intro ?_ ?_)) rfl rfl rfl rfl | exact sBSF (by repeat' (first | exact trivial | rfl | exact Nat.le_of_ble_eq_true rfl | refine And.intro ?_ ?_)) rfl rfl rfl rfl | exact sLe rfl | exact Chk.mk (by kernel_rfl) | exact ⟨Chk.mk (by kernel_rfl)⟩ | exact sLeEq rfl rfl | exact sAnd (by repeat' constructor) (c_reqOk _) | exact sAnd (by repeat' constructor) (c_impl_in _ _ _) | exact sAnd (by repeat' constructor) (c_impl_BoxOk _ (by rw [hb4]; decide)) | refine fun h => ?_)
    all_goals try (have hl : i < ds.length := by (have h3 := of_decide_eq_true ‹decide ((i : Int) < (ds.length : Int)) = true›; omega))
    all_goals try (have hd := doneB_f (hdn _ (getD_mem hl)))
    all_goals try (exact sRow (by omega) (row_at ds _ hl) rfl)
    all_goals try (have hi0 : 0 < i := by (have h3 := of_decide_eq_true ‹decide ((i : Int) > 0) = true›; omega))
    all_goals try (have hlt := srtD_at hsr hi0 hl)
    all_goals try (exact sRow (by rw [wrapi] <;> omega) (by rw [show (IntKind.i64.wrap ((i : Int) - 1)).toNat = i - 1 by rw [wrapi] <;> omega, List.getElem?_map, List.getD_eq_getElem?_getD, List.getElem?_eq_getElem (by omega)]; rfl) rfl)
    all_goals try (exfalso; simp_all; done)
    all_goals try (exfalso; have h3 := of_decide_eq_true h; omega)
    all_goals try (refine ⟨i + 1, [], by omega, by omega, ?_⟩; (focus (repeat' (first | exact trivial | exact ⟨trivial⟩ | exact Side.mk rfl | exact sF1 rfl | exact Chk.mk (by kernel_rfl) | exact ⟨Chk.mk (by kernel_rfl)⟩ | exact sMapF Done.flat | exact ⟨by rw [wrapi] <;> omega⟩ | refine And.intro ?_ ?_ | rfl))); done)
    all_goals first
      | (refine ⟨⟨trivial, trivial⟩, ?_, trivial⟩; rw [hbx]; done)
      | (exfalso; have h4 := inr_no h; omega)
      | skip
theorem row_box {bx : List Two} {a : Int} (hb : bx.length = 4) (h : 0 ≤ a ∧ a ≤ 3) : (bx.map Two.cells)[a.toNat]? = some (bx.getD a.toNat default).cells := by
  rw [List.getElem?_map, List.getD_eq_getElem?_getD, List.getElem?_eq_getElem (by omega)]; rfl
set_option maxHeartbeats 4000000 in
theorem c_impl_ExecFresh (bx : List Two) (hbx : boxOk bx = true) (r : Run) (hr : execOk r = true) (ho : r.ok lim) : Pure PP false 181 [.one (.fz (bx.map Two.cells)), .agg r.cells] (ob (fresh bx r)) := by
  have hb4 := boxOk_len' hbx
  have hf := execOk_f hr
  have cX := c_impl_ExecOk r ho
  obtain ⟨rs, ps, c, d⟩ := r
  have hl : rs.length ≤ 1048576 := ho.1
  refine Pure.vc [(8, .res (ob (boxOk bx))), (12, .res (ob (execOk ⟨rs, ps, c, d⟩)))] TTok hmo Go.Proofs.Tryz.func181 (by kernel_rfl) rfl (by kernel_rfl) ?_
  repeat' (first | refine And.intro ?_ ?_ | exact tf | exact ft | refine tt ?_ | refine ff ?_ | exact ⟨trivial⟩ | exact sAll rfl | exact sF1 rfl | exact sBld (by repeat' (first | exact trivial | rfl | exact Nat.le_of_ble_eq_true rfl | refine And.intro ?_ ?_)) rfl | exact sBS (by repeat' (first | exact trivial | rfl | exact Nat.le_of_ble_eq_true rfl | refine And.intro ?_ ?_)) rfl rfl rfl rfl | exact sBSF (by repeat' (first | exact trivial | rfl | exact Nat.le_of_ble_eq_true rfl | refine And.intro ?_ ?_)) rfl rfl rfl rfl | exact sLe rfl | exact Chk.mk (by kernel_rfl) | exact ⟨Chk.mk (by kernel_rfl)⟩ | exact sLeEq rfl rfl | exact sAnd (by repeat' constructor) (c_impl_BoxOk _ (by rw [hb4]; decide)) | exact sAnd (by repeat' constructor) (cX) | refine fun h => ?_)
  all_goals try (exfalso; simp_all; done)
  refine W.loopC (D := Nat) (fun i => [(20, .row (rs.getD i default).cells), (25, .row (bx.getD (rs.getD i default).a.toNat default).cells)]) TTok hmo
    (fun i => ⟨32, 1, [(0, .one (.ag (bx.map Two.cells))), (3, .one (.ptr 0 0 0)), (4, ob false), (16, .one (.ag (rs.map Two.cells))), (17, oi rs.length), (18, oi i)], [(0, .box [.ag (rs.map Two.cells), .ag (ps.map Two.cells), i6 c, i6 d])]⟩) (fun i => rs.length - i) (fun i => i ≤ rs.length ∧ (rs.take i).all (fun x => decide ((bx.getD x.a.toNat default).a = x.b)) = true) 0 [] ⟨by omega, by simp⟩ ?_ ?_
  · repeat' (first | exact trivial | exact ⟨trivial⟩ | exact Side.mk rfl | exact sF1 rfl | exact Chk.mk (by kernel_rfl) | exact ⟨Chk.mk (by kernel_rfl)⟩ | exact sMapF Two.flat | refine And.intro ?_ ?_ | rfl)
    all_goals exact ⟨by simp⟩
  · intro i ⟨hi, hp⟩
    repeat' (first | refine And.intro ?_ ?_ | exact tf | exact ft | refine tt ?_ | refine ff ?_ | exact ⟨trivial⟩ | exact sAll rfl | exact sF1 rfl | exact sBld (by repeat' (first | exact trivial | rfl | exact Nat.le_of_ble_eq_true rfl | refine And.intro ?_ ?_)) rfl | exact sBS (by repeat' (first | exact trivial | rfl | exact Nat.le_of_ble_eq_true rfl | refine And.intro ?_ ?_)) rfl rfl rfl rfl | exact sBSF (by repeat' (first | exact trivial | rfl | exact Nat.le_of_ble_eq_true rfl | refine And.intro ?_ ?_)) rfl rfl rfl rfl | exact sLe rfl | exact Chk.mk (by kernel_rfl) | exact ⟨Chk.mk (by kernel_rfl)⟩ | exact sLeEq rfl rfl | refine fun h => ?_)
    all_goals try (have hl : i < rs.length := by (have h3 := of_decide_eq_true ‹decide ((i : Int) < (rs.length : Int)) = true›; omega))
    all_goals try (have hrd := hf.rd i hl)
    all_goals try (exact sRow (by omega) (row_at rs _ hl) rfl)
    all_goals try (exact sRow hrd.1 (row_box hb4 hrd) rfl)
    all_goals try (refine ⟨i + 1, [], by omega, ⟨by omega, all_step hl hp (by simp_all)⟩, ?_⟩; (focus (repeat' (first | exact trivial | exact ⟨trivial⟩ | exact Side.mk rfl | exact sF1 rfl | exact Chk.mk (by kernel_rfl) | exact ⟨Chk.mk (by kernel_rfl)⟩ | exact sMapF Two.flat | exact ⟨by rw [wrapi] <;> omega⟩ | refine And.intro ?_ ?_ | rfl))); done)
    all_goals first
      | (refine ⟨?_⟩; have := all_bad (f := fun x : Two => decide ((bx.getD x.a.toNat default).a = x.b)) (xs := rs) (i := i) hl (decide_eq_false (bne_iff_ne.1 h)); simp only [fresh, this]; repeat' constructor)
      | (refine ⟨?_⟩; have := all_end (f := fun x : Two => decide ((bx.getD x.a.toNat default).a = x.b)) (xs := rs) (i := i) (by have h3 := of_decide_eq_false h; omega) hp; simp only [fresh, this]; repeat' constructor)
      | skip
theorem doPuts_step {bx ps : List Two} {i : Nat} (h : i < ps.length) : doPuts bx (ps.take (i + 1)) = doPut (doPuts bx (ps.take i)) (ps.getD i default) := by
  rw [List.take_succ_eq_append_getElem h, getD_get h]; simp only [doPuts, List.foldl_append, List.foldl_cons, List.foldl_nil]
theorem take_ok {ps : List Two} {P : Two → Prop} (h : ∀ i, i < ps.length → P (ps.getD i default)) (k : Nat) : ∀ i, i < (ps.take k).length → P ((ps.take k).getD i default) := fun i hi => by
  have hi' : i < k ∧ i < ps.length := by simp at hi; omega
  have := h i hi'.2
  rwa [getD_get hi, List.getElem_take, ← getD_get hi'.2]
set_option maxHeartbeats 4000000 in
theorem p_impl_ExecDo (bx : List Two) (hbx : boxOk bx = true) (r : Run) (hr : execOk r = true) (ho : r.ok lim) : Pure PP false 182 [.one (.fz (bx.map Two.cells)), .agg r.cells] (.one (.own ((doPuts bx r.puts).map Two.cells))) := by
  have hb4 := boxOk_len' hbx
  have hf := execOk_f hr
  have cX := c_impl_ExecOk r ho
  obtain ⟨rs, ps, c, d⟩ := r
  have hl : ps.length ≤ 1048576 := ho.2
  have hpt := hf.pt
  dsimp only at hpt
  have hok := fun k => doPuts_ok (ps := ps.take k) hbx (take_ok (P := fun x => (0 ≤ x.a ∧ x.a ≤ 3) ∧ -1000000 ≤ x.b ∧ x.b ≤ 1000000) hpt k)
  refine Pure.vc [(9, .res (ob (boxOk bx))), (13, .res (ob (execOk ⟨rs, ps, c, d⟩))), (17, .res (.one (.own (bx.map Two.cells))))] TTok hmo Go.Proofs.Tryz.func182 (by kernel_rfl) rfl (by kernel_rfl) ?_
  repeat' (first | refine And.intro ?_ ?_ | exact tf | exact ft | refine tt ?_ | refine ff ?_ | exact ⟨trivial⟩ | exact sAll rfl | exact sF1 rfl | exact sBld (by repeat' (first | exact trivial | rfl | exact Nat.le_of_ble_eq_true rfl | refine And.intro ?_ ?_)) rfl | exact sBS (by repeat' (first | exact trivial | rfl | exact Nat.le_of_ble_eq_true rfl | refine And.intro ?_ ?_)) rfl rfl rfl rfl | exact sBSF (by repeat' (first | exact trivial | rfl | exact Nat.le_of_ble_eq_true rfl | refine And.intro ?_ ?_)) rfl rfl rfl rfl | exact sLe rfl | exact Chk.mk (by kernel_rfl) | exact ⟨Chk.mk (by kernel_rfl)⟩ | exact sLeEq rfl rfl | exact sAnd (by repeat' constructor) (c_impl_BoxOk _ (by rw [hb4]; decide)) | exact sAnd (by repeat' constructor) (cX) | exact sAnd (by repeat' constructor) (p_copied_Box bx (by rw [hb4]; decide)) | refine fun h => ?_)
  all_goals try (exfalso; simp_all; done)
  refine W.loopC (D := Nat) (fun i => [(23, .row (ps.getD i default).cells), (33, .resf asI)]) TTok hmo
    (fun i => ⟨42, 2, [(3, .one (.ptr 0 0 0)), (5, .one (.ref 1 0 4)), (19, .one (.ag (ps.map Two.cells))), (20, oi ps.length), (21, oi i)], [(0, .box [.ag (rs.map Two.cells), .ag (ps.map Two.cells), i6 c, i6 d]), (1, .arr ((doPuts bx (ps.take i)).map Two.cells))]⟩) (fun i => ps.length - i) (fun i => i ≤ ps.length) 0 [] (by omega) ?_ ?_
  · repeat' (first | exact trivial | exact ⟨trivial⟩ | exact Side.mk rfl | exact sF1 rfl | exact Chk.mk (by kernel_rfl) | exact ⟨Chk.mk (by kernel_rfl)⟩ | exact sMapF Two.flat | refine And.intro ?_ ?_ | rfl)
    · exact ⟨by rw [List.length_map, hb4]⟩
    · exact ⟨by simp⟩
  · intro i hi
    have hbi := hok i
    have hb4i := boxOk_len' hbi
    repeat' (first | refine And.intro ?_ ?_ | exact tf | exact ft | refine tt ?_ | refine ff ?_ | exact ⟨trivial⟩ | exact sAll rfl | exact sF1 rfl | exact sBld (by repeat' (first | exact trivial | rfl | exact Nat.le_of_ble_eq_true rfl | refine And.intro ?_ ?_)) rfl | exact sBS (by repeat' (first | exact trivial | rfl | exact Nat.le_of_ble_eq_true rfl | refine And.intro ?_ ?_)) rfl rfl rfl rfl | exact sBSF (by repeat' (first | exact trivial | rfl | exact Nat.le_of_ble_eq_true rfl | refine And.intro ?_ ?_)) rfl rfl rfl rfl | exact sLe rfl | exact Chk.mk (by kernel_rfl) | exact ⟨Chk.mk (by kernel_rfl)⟩ | exact sLeEq rfl rfl | refine fun h => ?_)
    all_goals try (have hl : i < ps.length := by (have h3 := of_decide_eq_true ‹decide ((i : Int) < (ps.length : Int)) = true›; omega))
    all_goals try (have hpi := hpt i hl)
    all_goals try (exact sRow (by omega) (row_at ps _ hl) rfl)
    all_goals try (exact sIxO (c := Two.cells) (xs := doPuts bx (ps.take i)) hpi.1.1 (by omega) (by omega) (fun _ => rfl))
    all_goals try (exact sLdI (c := Two.cells) (n := Two.a) (t := fun x => [i6 x.b]) (xs := doPuts bx (ps.take i)) (by omega) (fun _ => rfl))
    all_goals try (exact sSt (c := Two.cells) (m := 2) (xs := doPuts bx (ps.take i)) (by omega) (fun _ => rfl) rfl rfl)
    · refine ⟨i + 1, [], by omega, by omega, ?_⟩
      repeat' (first | exact trivial | exact ⟨trivial⟩ | exact Side.mk rfl | exact sF1 rfl | exact Chk.mk (by kernel_rfl) | exact ⟨Chk.mk (by kernel_rfl)⟩ | exact sMapF Two.flat | refine And.intro ?_ ?_ | rfl)
      · exact ⟨by rw [wrapi] <;> omega⟩
      · refine ⟨?_⟩
        have hv := boxOk_at hbi (i := (ps.getD i default).a.toNat) (by omega)
        rw [doPuts_step hl, mapGet (by omega)]
        generalize hX : (doPuts bx (ps.take i)).getD (ps.getD i default).a.toNat default = X at hv
        have e1 : IntKind.i64.wrap (X.a + 1) = X.a + 1 := by rw [wrapi] <;> omega
        have e2 : (if X.a + 1 < 1000000 then X.a + 1 else 1000000) = min 1000000 (X.a + 1) := by split <;> omega
        unfold doPut
        rw [hX]
        refine setMap ?_
        show [i6 (min 1000000 (X.a + 1)), i6 _] = [i6 (if IntKind.i64.wrap (X.a + 1) < 1000000 then IntKind.i64.wrap (X.a + 1) else 1000000), i6 _]
        rw [e1, e2]
    · have hi' : i = ps.length := by (have h3 := of_decide_eq_false h; omega)
      subst hi'
      exact ⟨⟨trivial, trivial⟩, ⟨rfl, by rw [List.length_map, hb4i], by rw [List.take_length], allF Two.frz⟩, trivial⟩

end Mg

/- Copies with nothing of the argument in them. No condition. -/
namespace Mg
open Go Go.RowKit
set_option maxRecDepth 100000
set_option linter.unusedVariables false
set_option linter.unusedSimpArgs false
attribute [local irreducible] W Pure Con
section
variable {α : Type} {c cA : α → List MC} {xs : List α} {i m : Nat}
/-- A list of which the first ones are one's own already. -/
def rowsG (c cA : α → List MC) (xs : List α) (i : Nat) : List (List MC) := (xs.take i).map c ++ (xs.drop i).map cA
theorem rowsG_len : (rowsG c cA xs i).length = xs.length := by simp [rowsG]; omega
theorem rowsG_all (h : xs.length ≤ i) : rowsG c cA xs i = xs.map c := by
  unfold rowsG; rw [List.take_of_length_le h, List.drop_of_length_le h]; simp
theorem rowsG_row (h1 : ∀ x, (c x).length = m) (h2 : ∀ x, (cA x).length = m) : ∀ r ∈ rowsG c cA xs i, r.length = m := fun r hr => by
  rcases List.mem_append.1 hr with hr | hr
  · obtain ⟨x, _, rfl⟩ := List.mem_map.1 hr; exact h1 x
  · obtain ⟨x, _, rfl⟩ := List.mem_map.1 hr; exact h2 x
theorem sFlG (h1 : ∀ x, (c x).all MC.flat = true) (h2 : ∀ x, (cA x).all MC.flat = true) : Side (∀ r ∈ rowsG c cA xs i, ∀ x ∈ r, x.flat = true) := ⟨fun r hr => by
  rcases List.mem_append.1 hr with hr | hr
  · obtain ⟨x, _, rfl⟩ := List.mem_map.1 hr; exact List.all_eq_true.1 (h1 x)
  · obtain ⟨x, _, rfl⟩ := List.mem_map.1 hr; exact List.all_eq_true.1 (h2 x)⟩
end
section
variable {α : Type} [Inhabited α] {c cA : α → List MC} {xs : List α} {i m : Nat}
theorem rowsG_get (h : i < xs.length) : (rowsG c cA xs i)[i]? = some (cA (xs.getD i default)) := by
  unfold rowsG
  have hl : ((xs.take i).map c).length = i := by simp; omega
  rw [List.getElem?_append_right (by omega), hl, Nat.sub_self, List.getElem?_map, List.getElem?_drop, Nat.add_zero, List.getElem?_eq_getElem h, getD_get h]; rfl
theorem rowsG_getD (h : i < xs.length) : (rowsG c cA xs i).getD (0 + i) [] = cA (xs.getD i default) := by
  rw [Nat.zero_add, List.getD_eq_getElem?_getD, rowsG_get h]; rfl
theorem rowsG_set {r : List MC} (h : i < xs.length) (hr : r = c (xs.getD i default)) : (rowsG c cA xs i).set (0 + i) r = rowsG c cA xs (i + 1) := by
  subst hr
  unfold rowsG
  have hl : ((xs.take i).map c).length = i := by simp; omega
  rw [Nat.zero_add, List.set_append, if_neg (by omega), hl, Nat.sub_self]
  rw [List.drop_eq_getElem_cons h, List.map_cons, List.set_cons_zero]
  rw [List.take_succ_eq_append_getElem h, List.map_append, getD_get h]
  simp
theorem sIxG {k : Int} {n : Nat} (h0 : k = i) (h : i < xs.length) (hn : n = xs.length) (h2 : ∀ x, (cA x).length = m) :
    Side ((0 ≤ k ∧ k < n) ∧ 0 + k.toNat < (rowsG c cA xs i).length ∧ ((rowsG c cA xs i).getD (0 + k.toNat) []).length = m) := by
  subst h0
  rw [Int.toNat_natCast, rowsG_len, rowsG_getD h, hn]
  exact ⟨⟨by omega, by omega⟩, by omega, h2 _⟩
theorem sLdG {off n : Nat} {cs : List MC} (h : i < xs.length) (hc : n ≤ ((cA (xs.getD i default)).drop off).length) (he : ((cA (xs.getD i default)).drop off).take n = cs) :
    Side (n ≤ (List.drop off ((rowsG c cA xs i).getD (0 + i) [])).length ∧ MV.agg (List.take n (List.drop off ((rowsG c cA xs i).getD (0 + i) []))) = MV.agg cs) := by
  rw [rowsG_getD h, he]; exact ⟨⟨hc, rfl⟩⟩
theorem sStG {off n z : Nat} (h : i < xs.length) (h2 : ∀ x, (cA x).length = m) (hb : Nat.ble (off + n) m = true) (hz : n = z) :
    Side ((0 + i < (rowsG c cA xs i).length ∧ off + n ≤ ((rowsG c cA xs i).getD (0 + i) []).length) ∧ n = z) :=
  ⟨⟨by rw [rowsG_len]; omega, by rw [rowsG_getD h, h2]; exact Nat.le_of_ble_eq_true hb⟩, hz⟩
theorem sSetG {k : Nat} {r : List MC} (h : i < xs.length) (hk : k = i) (hr : c (xs.getD i default) = r) : Side (rowsG c cA xs (i + 1) = (rowsG c cA xs i).set (0 + k) r) := ⟨by rw [hk, rowsG_set h hr.symm]⟩
end
def Vote.cellsA (v : Vote) : List MC := v.cells.map MC.toA
def Entry.cellsA (v : Entry) : List MC := v.cells.map MC.toA
theorem c_votesCopyP (vs : List Vote) (hx : vs.length ≤ lim) (hv : VsOk lim vs) : Pure PP false 106 [.one (.fz (vs.map Vote.cells))] (.one (.own (vs.map Vote.cells))) := by
  have hx0 : vs.length ≤ 1048576 := hx
  refine Pure.vc [(6, .con true [] [] [] (sCpV vs.length))] TTok hmo Go.Proofs.Tryz.func106 (by kernel_rfl) rfl (by kernel_rfl) ?_
  repeat' (first | refine And.intro ?_ ?_ | exact tf | exact ft | refine tt ?_ | refine ff ?_ | exact ⟨trivial⟩ | exact sAll rfl | exact sF1 rfl | exact sBld (by repeat' (first | exact trivial | rfl | exact Nat.le_of_ble_eq_true rfl | refine And.intro ?_ ?_)) rfl | exact sBS (by repeat' (first | exact trivial | rfl | exact Nat.le_of_ble_eq_true rfl | refine And.intro ?_ ?_)) rfl rfl rfl rfl | exact sBSF (by repeat' (first | exact trivial | rfl | exact Nat.le_of_ble_eq_true rfl | refine And.intro ?_ ?_)) rfl rfl rfl rfl | exact sLe rfl | exact Chk.mk (by kernel_rfl) | exact ⟨Chk.mk (by kernel_rfl)⟩ | exact sLeEq rfl rfl | refine fun h => ?_)
  · exact ⟨c_copied_VoteU vs hx⟩
  · exact ⟨fun _ _ => trivial⟩
  · exact ⟨fun _ _ => ⟨trivial, trivial⟩⟩
  · refine W.loopC (D := Nat) (fun i => [(18, .res (.agg (vs.getD i default).e.cellsA)), (19, .res (.agg (vs.getD i default).e.cells))]) TTok hmo (fun i => ⟨24, 1, [(3, .one (.ref 0 0 vs.length)), (8, oi vs.length), (9, oi i)], [(0, .arr (rowsG Vote.cells Vote.cellsA vs i))]⟩) (fun i => vs.length - i) (fun i => i ≤ vs.length) 0 [] (Nat.zero_le _) ?_ ?_
    · repeat' (first | exact trivial | exact ⟨trivial⟩ | exact Side.mk rfl | exact sF1 rfl | exact Chk.mk (by kernel_rfl) | exact ⟨Chk.mk (by kernel_rfl)⟩ | exact sFlG Vote.flat (fun _ => rfl) | refine And.intro ?_ ?_ | rfl)
      exact ⟨by unfold rowsG; rw [List.map_map]; rfl⟩
    · intro i hi
      repeat' (first | refine And.intro ?_ ?_ | exact tf | exact ft | refine tt ?_ | refine ff ?_ | exact ⟨trivial⟩ | exact sAll rfl | exact sF1 rfl | exact sBld (by repeat' (first | exact trivial | rfl | exact Nat.le_of_ble_eq_true rfl | refine And.intro ?_ ?_)) rfl | exact sBS (by repeat' (first | exact trivial | rfl | exact Nat.le_of_ble_eq_true rfl | refine And.intro ?_ ?_)) rfl rfl rfl rfl | exact sBSF (by repeat' (first | exact trivial | rfl | exact Nat.le_of_ble_eq_true rfl | refine And.intro ?_ ?_)) rfl rfl rfl rfl | exact sLe rfl | exact Chk.mk (by kernel_rfl) | exact ⟨Chk.mk (by kernel_rfl)⟩ | exact sLeEq rfl rfl | exact sAnd (by repeat' constructor) (c_entryCopy _ (hv _ (getD_mem (by have := of_decide_eq_true h; omega)))) | refine fun h => ?_)
      all_goals try (have hl := of_decide_eq_true h)
      all_goals try (exact sIxG rfl (by omega) rfl (fun _ => rfl))
      all_goals try (exact sLdG (xs := vs) (i := i) (by omega) (Nat.le_of_ble_eq_true rfl) rfl)
      all_goals try (exact sStG (m := 8) (i := i) (xs := vs) (by omega) (fun _ => rfl) rfl rfl)
      all_goals try (first | exact ⟨trivial, trivial⟩ | exact ⟨Nat.le_of_ble_eq_true rfl, trivial⟩ | exact ⟨trivial, Nat.le_of_ble_eq_true rfl, trivial⟩ | exact ⟨Nat.le_of_ble_eq_true rfl, trivial, trivial⟩)
      · refine ⟨i + 1, [], by omega, by omega, ?_⟩
        repeat' (first | exact trivial | exact ⟨trivial⟩ | exact Side.mk rfl | exact sF1 rfl | exact Chk.mk (by kernel_rfl) | exact ⟨Chk.mk (by kernel_rfl)⟩ | exact sFlG Vote.flat (fun _ => rfl) | exact sSetG (by omega) rfl (by rw [Int.toNat_natCast, rowsG_getD (by omega)]; rfl) | exact ⟨by rw [wrapi] <;> omega⟩ | refine And.intro ?_ ?_ | rfl)
      · have hi' := of_decide_eq_false h
        refine ⟨⟨trivial, trivial⟩, ⟨rfl, ?_, rowsG_all (by omega), ?_⟩, trivial⟩
        · rw [rowsG_len]
        · rw [rowsG_all (by omega)]; exact allF Vote.frz
theorem map_unA (d : List Vote) : ((d.map Vote.cells).map fun r => r.map MC.unA) = d.map Vote.cells := by
  rw [List.map_map]; exact List.map_congr_left fun v _ => rfl
theorem set_unA {d : List Vote} {k n : Nat} {r : List MC} {v : Vote} (hr : (r.map MC.unA) = v.cells) (hn : n = d.length) : (((((d.map Vote.cells).set k r).drop 0).take n).map fun r => r.map MC.unA) = (d.set k v).map Vote.cells := by
  rw [List.drop_zero, List.take_of_length_le (by simp [hn]), List.map_set, map_unA, hr, List.map_set]
theorem set_allA {d : List Vote} {k : Nat} {r : List MC} (hr : r.all MC.fa = true) : AllA ((d.map Vote.cells).set k r) := ⟨fun x hx => by
  rcases List.mem_or_eq_of_mem_set hx with hx | rfl
  · obtain ⟨v, _, rfl⟩ := List.mem_map.1 hx
    exact List.all_eq_true.1 (show v.cells.all MC.fa = true from rfl)
  · exact List.all_eq_true.1 hr⟩
theorem c_accCopyP (a : Acc) (ha : a.ok lim) : Pure PP false 103 [.agg a.cells] (.agg [i6 a.p, .own (a.votes.map Vote.cells)]) := by
  refine Pure.vc [(7, .res (.one (.own (a.votes.map Vote.cells)))), (900001, .row [i6 0, i6 1, i6 2, i6 3, i6 4, i6 5, i6 6])] TTok hmo Go.Proofs.Tryz.func103 (by kernel_rfl) rfl (by kernel_rfl) ?_
  repeat' (first | refine And.intro ?_ ?_ | exact tf | exact ft | refine tt ?_ | refine ff ?_ | exact ⟨trivial⟩ | exact sAll rfl | exact sF1 rfl | exact sBld (by repeat' (first | exact trivial | rfl | exact Nat.le_of_ble_eq_true rfl | refine And.intro ?_ ?_)) rfl | exact sBS (by repeat' (first | exact trivial | rfl | exact Nat.le_of_ble_eq_true rfl | refine And.intro ?_ ?_)) rfl rfl rfl rfl | exact sBSF (by repeat' (first | exact trivial | rfl | exact Nat.le_of_ble_eq_true rfl | refine And.intro ?_ ?_)) rfl rfl rfl rfl | exact sLe rfl | exact Chk.mk (by kernel_rfl) | exact ⟨Chk.mk (by kernel_rfl)⟩ | exact sLeEq rfl rfl | exact sAnd (by repeat' constructor) (c_votesCopyP _ ha.1 ha.2) | refine fun h => ?_)
  all_goals try (exact ⟨rfl⟩)
  all_goals try (exact trivial)
  exact ⟨⟨Nat.le_of_ble_eq_true rfl, trivial⟩, rfl, ⟨rfl, by simp, rfl, allF Vote.frz⟩, trivial⟩
theorem c_accCopyQ (a : Acc) (ha : a.ok lim) : Pure PP false 103 [.agg a.cells] (.agg a.cells) := (c_accCopyP a ha).to rfl
def pAcc (q : Acc × Bool) : MV := .tup [.agg [i6 q.1.p, .own (q.1.votes.map Vote.cells)], ob q.2]
def qAcc (q : Acc × Bool) : MV := .tup [.agg q.1.cells, ob q.2]
theorem c_AccPromiseP (a : Acc) (ha : a.ok lim) (bal : Int) : Pure PP false 73 [.agg a.cells, oi bal] (pAcc (accPromise a bal)) := by
  generalize hq : accPromise a bal = q
  unfold accPromise at hq
  refine Pure.vc [(8, .res (ob (accOk a))), (12, .res (.agg [i6 a.p, .own (a.votes.map Vote.cells)])), (14, .res (ob (inr bal 1 3000)))] TTok hmo Go.Proofs.Tryz.func73 (by kernel_rfl) rfl (by kernel_rfl) ?_
  repeat' (first | refine And.intro ?_ ?_ | exact tf | exact ft | refine tt ?_ | refine ff ?_ | exact ⟨trivial⟩ | exact sAll rfl | exact sF1 rfl | exact sBld (by repeat' (first | exact trivial | rfl | exact Nat.le_of_ble_eq_true rfl | refine And.intro ?_ ?_)) rfl | exact sBS (by repeat' (first | exact trivial | rfl | exact Nat.le_of_ble_eq_true rfl | refine And.intro ?_ ?_)) rfl rfl rfl rfl | exact sBSF (by repeat' (first | exact trivial | rfl | exact Nat.le_of_ble_eq_true rfl | refine And.intro ?_ ?_)) rfl rfl rfl rfl | exact sLe rfl | exact Chk.mk (by kernel_rfl) | exact ⟨Chk.mk (by kernel_rfl)⟩ | exact sLeEq rfl rfl | exact sAnd (by repeat' constructor) (c_impl_AccOk a ha) | exact sAnd (by repeat' constructor) (c_accCopyP a ha) | exact sAnd (by repeat' constructor) (c_impl_in _ _ _) | refine fun h => ?_)
  · obtain rfl : (⟨0, []⟩, false) = q := by rw [← hq, if_neg (by simp_all)]
    exact ⟨⟨Nat.le_of_ble_eq_true rfl, trivial, trivial⟩, ⟨rfl, rfl, trivial⟩, ⟨rfl, trivial⟩, trivial⟩
  · obtain rfl : (a, false) = q := by rw [← hq, if_pos (by simp_all), if_neg (by simp_all)]
    exact ⟨⟨Nat.le_of_ble_eq_true rfl, trivial, trivial⟩, ⟨rfl, ⟨rfl, by simp, rfl, allF Vote.frz⟩, trivial⟩, ⟨rfl, trivial⟩, trivial⟩
  · obtain rfl : (⟨bal, a.votes⟩, true) = q := by rw [← hq, if_pos (by simp_all), if_pos (by simp_all)]
    exact ⟨⟨Nat.le_of_ble_eq_true rfl, trivial, trivial⟩, ⟨rfl, ⟨rfl, by simp, rfl, allF Vote.frz⟩, trivial⟩, ⟨rfl, trivial⟩, trivial⟩
  · obtain rfl : (a, false) = q := by rw [← hq, if_pos (by simp_all), if_neg (by simp_all)]
    exact ⟨⟨Nat.le_of_ble_eq_true rfl, trivial, trivial⟩, ⟨rfl, ⟨rfl, by simp, rfl, allF Vote.frz⟩, trivial⟩, ⟨rfl, trivial⟩, trivial⟩
theorem c_AccPromiseQ (a : Acc) (ha : a.ok lim) (bal : Int) : Pure PP false 73 [.agg a.cells, oi bal] (qAcc (accPromise a bal)) := (c_AccPromiseP a ha bal).to rfl
end Mg
