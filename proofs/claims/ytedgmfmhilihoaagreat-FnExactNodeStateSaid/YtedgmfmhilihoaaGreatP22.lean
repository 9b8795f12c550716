/- Parts of the abstract state logic and of the walks, one behind the other: NS3, NS4. No condition. -/
import Derived.Test.YtedgmfmhilihoaaGreatP21
import Derived.Test.YtedgmfmhilihoaaGreatP13
import Derived.Test.YtedgmfmhilihoaaGreatP14
/- An entry done, on the program's side. No condition. -/
namespace Mg
open Go Go.RowKit
set_option maxRecDepth 100000
set_option linter.unusedVariables false
set_option linter.unusedSimpArgs false
attribute [local irreducible] W Pure Con
set_option maxHeartbeats 8000000 in
theorem p_impl_CertApply (s : St) (hs : StOk s) (e : Entry) (he : entryOk e = true) (heo : e.ok lim) (ha : s.at_ < 40) : Pure PP false 155 [.agg s.cells, .agg e.cells]
    (.tup [.agg [i6 (apply1 s e).1.at_, .own ((apply1 s e).1.boxes.map Two.cells), .own ((apply1 s e).1.dones.map Done.cells)], oi (apply1 s e).2]) := by
  obtain ⟨q, hq⟩ : ∃ q, apply1 s e = q := ⟨_, rfl⟩
  rw [hq]
  have cO := c_impl_CertOk s hs
  obtain ⟨at_, bx, ds⟩ := s
  have hat := hs.at0
  have hb4 := boxOk_len' hs.box
  have hln := hs.len
  dsimp only at hat hb4 hln ha
  have hl40 : ds.length ≤ 40 := by omega
  have wa : IntKind.i64.wrap (at_ + 1) = at_ + 1 := by rw [wrapi] <;> omega
  refine Pure.vc [(15, .res (ob true)), (19, .res (ob (entryOk e))), (800003, .row [])] TTok hmo Go.Proofs.Tryz.func155 (by kernel_rfl) rfl (by kernel_rfl) ?_
  repeat' (first | refine And.intro ?_ ?_ | exact tf | exact ft | refine tt ?_ | refine ff ?_ | exact ⟨trivial⟩ | exact sAll rfl | exact sF1 rfl | exact sBld (by repeat' (first | exact trivial | rfl | exact Nat.le_of_ble_eq_true rfl | refine And.intro ?_ ?_)) rfl | exact sBS (by repeat' (first | exact trivial | rfl | exact Nat.le_of_ble_eq_true rfl | refine And.intro ?_ ?_)) rfl rfl rfl rfl | exact sBSF (by repeat' (first | exact trivial | rfl | exact Nat.le_of_ble_eq_true rfl | refine And.intro ?_ ?_)) rfl rfl rfl rfl | exact sLe rfl | exact Chk.mk (by kernel_rfl) | exact ⟨Chk.mk (by kernel_rfl)⟩ | exact sLeEq rfl rfl | exact sAnd (by repeat' constructor) (cO) | exact sAnd (by repeat' constructor) (c_impl_CertEntry e heo) | refine fun h => ?_)
  all_goals try (exfalso; simp_all; done)
  all_goals try (exfalso; have h3 := eq_of_beq h; omega)
  refine W.seqT [(33, .res (.one (.own (bx.map Two.cells))))] [0, 1, 2, 3, 4, 5, 6, 7, 8] TTok hmo (Chk.mk (by kernel_rfl)) ?_
  repeat' (first | refine And.intro ?_ ?_ | exact tf | exact ft | refine tt ?_ | refine ff ?_ | exact ⟨trivial⟩ | exact sAll rfl | exact sF1 rfl | exact sBld (by repeat' (first | exact trivial | rfl | exact Nat.le_of_ble_eq_true rfl | refine And.intro ?_ ?_)) rfl | exact sBS (by repeat' (first | exact trivial | rfl | exact Nat.le_of_ble_eq_true rfl | refine And.intro ?_ ?_)) rfl rfl rfl rfl | exact sBSF (by repeat' (first | exact trivial | rfl | exact Nat.le_of_ble_eq_true rfl | refine And.intro ?_ ?_)) rfl rfl rfl rfl | exact sLe rfl | exact Chk.mk (by kernel_rfl) | exact ⟨Chk.mk (by kernel_rfl)⟩ | exact sLeEq rfl rfl | exact sAnd (by repeat' constructor) (p_copied_Box bx (by rw [hb4]; decide)) | refine fun h => ?_)
  all_goals try (exact ⟨rfl⟩)
  all_goals try (exact trivial)
  all_goals first
    | (refine W.sub ⟨152, 5, [(2, .one (.ptr 0 0 0)), (3, .one (.ptr 1 0 0)), (4, .one (.ptr 2 0 0)), (5, oi 0), (6, .one (.ptr 4 0 0))], [(0, .box [i6 at_, .ag (bx.map Two.cells), .ag (ds.map Done.cells)]), (1, .box e.cellsA), (2, .box [i6 0, .nil, .nil]), (3, .arr (bx.map Two.cells)), (4, .box [i6 (at_ + 1), .ref 3 0 4, .nil])]⟩ [] ?_ ?body; (focus ((repeat' (first | exact trivial | exact ⟨trivial⟩ | exact Side.mk rfl | exact sF1 rfl | exact Chk.mk (by kernel_rfl) | exact ⟨Chk.mk (by kernel_rfl)⟩ | exact sMapF Two.flat | exact ⟨wa⟩ | exact ⟨by rw [List.length_map, hb4]⟩ | refine And.intro ?_ ?_ | rfl)); done)))
    | (refine W.sub ⟨152, 5, [(2, .one (.ptr 0 0 0)), (3, .one (.ptr 1 0 0)), (4, .one (.ptr 2 0 0)), (5, oi 0), (6, .one (.ptr 4 0 0))], [(0, .box [i6 at_, .ag (bx.map Two.cells), .ag (ds.map Done.cells)]), (1, .box e.cellsA), (2, .box [i6 0, .nil, .nil]), (3, .arr (bx.map Two.cells)), (4, .box [i6 (at_ + 1), .ref 3 0 4, .nil])]⟩ [(3, 4), (4, 3)] ?_ ?body; (focus ((repeat' (first | exact trivial | exact ⟨trivial⟩ | exact Side.mk rfl | exact sF1 rfl | exact Chk.mk (by kernel_rfl) | exact ⟨Chk.mk (by kernel_rfl)⟩ | exact sMapF Two.flat | exact ⟨wa⟩ | exact ⟨by rw [List.length_map, hb4]⟩ | refine And.intro ?_ ?_ | rfl)); done)))
  case body =>
    refine W.go [(39, .res (.one (.own (ds.map Done.cells)))), (800019, .row [])] TTok hmo ?_
    repeat' (first | refine And.intro ?_ ?_ | exact tf | exact ft | refine tt ?_ | refine ff ?_ | exact ⟨trivial⟩ | exact sAll rfl | exact sF1 rfl | exact sBld (by repeat' (first | exact trivial | rfl | exact Nat.le_of_ble_eq_true rfl | refine And.intro ?_ ?_)) rfl | exact sBS (by repeat' (first | exact trivial | rfl | exact Nat.le_of_ble_eq_true rfl | refine And.intro ?_ ?_)) rfl rfl rfl rfl | exact sBSF (by repeat' (first | exact trivial | rfl | exact Nat.le_of_ble_eq_true rfl | refine And.intro ?_ ?_)) rfl rfl rfl rfl | exact sLe rfl | exact Chk.mk (by kernel_rfl) | exact ⟨Chk.mk (by kernel_rfl)⟩ | exact sLeEq rfl rfl | exact sAnd (by repeat' constructor) (p_copied_Done ds (by show _ ≤ 1048576; omega)) | refine fun h => ?_)
    · obtain rfl : (up ⟨at_, bx, ds⟩, 5) = q := by rw [← hq]; unfold apply1; rw [if_pos h]
      exact ⟨⟨Nat.le_of_ble_eq_true rfl, trivial, trivial⟩, ⟨rfl, ⟨rfl, by rw [List.length_map, hb4], rfl, allF Two.frz⟩, ⟨rfl, rfl, rfl, allF Done.frz⟩, trivial⟩, ⟨rfl, trivial⟩, trivial⟩
    · have hn : e.none = false := h
      refine W.loopC (D := Nat) (fun i => [(47, .row (ds.getD i default).cells), (67, .res (.one (.own (ds.map Done.cells))))]) TTok hmo
        (fun i => ⟨152, 5, [(2, .one (.ptr 0 0 0)), (3, .one (.ptr 1 0 0)), (4, .one (.ptr 2 0 0)), (5, oi 0), (6, .one (.ptr 4 0 0)), (43, .one (.ag (ds.map Done.cells))), (44, oi ds.length), (45, oi i)], [(0, .box [i6 at_, .ag (bx.map Two.cells), .ag (ds.map Done.cells)]), (1, .box e.cellsA), (2, .box [i6 0, .nil, .nil]), (3, .arr (bx.map Two.cells)), (4, .box [i6 (at_ + 1), .ref 3 0 4, .nil])]⟩) (fun i => ds.length - i)
        (fun i => i ≤ ds.length ∧ ∀ j, j < i → (ds.getD j default).q.a = e.q.a → ¬ e.q.b ≤ (ds.getD j default).q.b) 0 [] ⟨by omega, fun j hj => by omega⟩ ?_ ?_
      · repeat' (first | exact trivial | exact ⟨trivial⟩ | exact Side.mk rfl | exact sF1 rfl | exact Chk.mk (by kernel_rfl) | exact ⟨Chk.mk (by kernel_rfl)⟩ | exact sMapF Done.flat | exact sMapF Two.flat | exact ⟨by simp⟩ | refine And.intro ?_ ?_ | rfl)
      · intro i ⟨hi, hp⟩
        repeat' (first | refine And.intro ?_ ?_ | exact tf | exact ft | refine tt ?_ | refine ff ?_ | exact ⟨trivial⟩ | exact sAll rfl | exact sF1 rfl | exact sBld (by repeat' (first | exact trivial | rfl | exact Nat.le_of_ble_eq_true rfl | refine And.intro ?_ ?_)) rfl | exact sBS (by repeat' (first | exact trivial | rfl | exact Nat.le_of_ble_eq_true rfl | refine And.intro ?_ ?_)) rfl rfl rfl rfl | exact sBSF (by repeat' (first | exact trivial | rfl | exact Nat.le_of_ble_eq_true rfl | refine And.intro ?_ ?_)) rfl rfl rfl rfl | exact sLe rfl | exact Chk.mk (by kernel_rfl) | exact ⟨Chk.mk (by kernel_rfl)⟩ | exact sLeEq rfl rfl | exact sAnd (by repeat' constructor) (p_copied_Done ds (by show _ ≤ 1048576; omega)) | refine fun h => ?_)
        all_goals try (have hl : i < ds.length := by (have h3 := of_decide_eq_true ‹decide ((i : Int) < (ds.length : Int)) = true›; omega))
        all_goals try (exact sRow (by omega) (row_at ds _ hl) rfl)
        all_goals try (have hra : (ds.getD i default).q.a = e.q.a := eq_of_beq ‹((ds.getD i default).q.a == e.q.a) = true›)
        · obtain rfl : (up ⟨at_, bx, ds⟩, 3) = q := by rw [← hq]; exact (apply1_again (s := ⟨at_, bx, ds⟩) hs.srt hn hl hra (eq_of_beq h)).symm
          exact ⟨⟨Nat.le_of_ble_eq_true rfl, trivial, trivial⟩, ⟨rfl, ⟨rfl, by rw [List.length_map, hb4], rfl, allF Two.frz⟩, ⟨rfl, rfl, rfl, allF Done.frz⟩, trivial⟩, ⟨rfl, trivial⟩, trivial⟩
        · obtain rfl : (up ⟨at_, bx, ds⟩, 4) = q := by
            rw [← hq]
            refine (apply1_old (s := ⟨at_, bx, ds⟩) hs.srt hn hl hra ?_).symm
            have h3 := of_decide_eq_true ‹decide ((ds.getD i default).q.b ≥ e.q.b) = true›
            have h4 : ¬ (ds.getD i default).q.b = e.q.b := fun e' => by rw [e', beq_self_eq_true] at h; cases h
            show e.q.b < (ds.getD i default).q.b
            omega
          exact ⟨⟨Nat.le_of_ble_eq_true rfl, trivial, trivial⟩, ⟨rfl, ⟨rfl, by rw [List.length_map, hb4], rfl, allF Two.frz⟩, ⟨rfl, rfl, rfl, allF Done.frz⟩, trivial⟩, ⟨rfl, trivial⟩, trivial⟩
        · refine ⟨i + 1, [], by omega, ⟨by omega, fun j hj => ?_⟩, ?_⟩
          · by_cases e' : j = i
            · subst e'; intro _; exact fun h5 => (of_decide_eq_false h) h5
            · exact hp j (by omega)
          · repeat' (first | exact trivial | exact ⟨trivial⟩ | exact Side.mk rfl | exact sF1 rfl | exact Chk.mk (by kernel_rfl) | exact ⟨Chk.mk (by kernel_rfl)⟩ | exact sMapF Done.flat | exact sMapF Two.flat | exact ⟨by rw [wrapi] <;> omega⟩ | refine And.intro ?_ ?_ | rfl)
        · refine ⟨i + 1, [], by omega, ⟨by omega, fun j hj => ?_⟩, ?_⟩
          · by_cases e' : j = i
            · subst e'; intro h5; rw [h5, beq_self_eq_true] at h; cases h
            · exact hp j (by omega)
          · repeat' (first | exact trivial | exact ⟨trivial⟩ | exact Side.mk rfl | exact sF1 rfl | exact Chk.mk (by kernel_rfl) | exact ⟨Chk.mk (by kernel_rfl)⟩ | exact sMapF Done.flat | exact sMapF Two.flat | exact ⟨by rw [wrapi] <;> omega⟩ | refine And.intro ?_ ?_ | rfl)
        · have hi' : i = ds.length := by (have h3 := of_decide_eq_false h; omega)
          subst hi'
          have hqn : apply1 ⟨at_, bx, ds⟩ e = (newSt ⟨at_, bx, ds⟩ e, codeOf bx e.run) := apply1_new (s := ⟨at_, bx, ds⟩) hn hp
          obtain ⟨_, hxe, _⟩ := entryOk_q he hn
          have hxo : e.run.ok lim := heo
          refine W.cut [(97, .res (ob (fresh bx e.run))), (90, .res (.one (.own ((doPuts bx e.run.puts).map Two.cells))))] TTok hmo (fun d : Int × Int × List Two => ⟨152, 6, [(2, .one (.ptr 0 0 0)), (3, .one (.ptr 1 0 0)), (4, .one (.ptr 2 0 0)), (5, oi 0), (6, .one (.ptr 4 0 0)), (9, .one (.ptr 5 0 0))], [(0, .box [i6 at_, .ag (bx.map Two.cells), .ag (ds.map Done.cells)]), (1, .box e.cellsA), (2, .box [i6 0, .nil, .nil]), (3, .arr (d.2.2.map Two.cells)), (4, .box [i6 (at_ + 1), .ref 3 0 4, .nil]), (5, .box [i6 e.q.a, i6 e.q.b, i6 d.1, i6 d.2.1])]⟩)
            (fun d => d.1 = codeOf bx e.run ∧ d.2.1 = (if d.1 = 0 then e.run.c else 0) ∧ d.2.2 = (if d.1 = 0 then doPuts bx e.run.puts else bx)) ?_ ?_
          · repeat' (first | refine And.intro ?_ ?_ | exact tf | exact ft | refine tt ?_ | refine ff ?_ | exact ⟨trivial⟩ | exact sAll rfl | exact sF1 rfl | exact sBld (by repeat' (first | exact trivial | rfl | exact Nat.le_of_ble_eq_true rfl | refine And.intro ?_ ?_)) rfl | exact sBS (by repeat' (first | exact trivial | rfl | exact Nat.le_of_ble_eq_true rfl | refine And.intro ?_ ?_)) rfl rfl rfl rfl | exact sBSF (by repeat' (first | exact trivial | rfl | exact Nat.le_of_ble_eq_true rfl | refine And.intro ?_ ?_)) rfl rfl rfl rfl | exact sLe rfl | exact Chk.mk (by kernel_rfl) | exact ⟨Chk.mk (by kernel_rfl)⟩ | exact sLeEq rfl rfl | exact sAnd (by repeat' constructor) (c_impl_ExecFresh bx hs.box e.run hxe hxo) | exact sAnd (by repeat' constructor) (p_impl_ExecDo bx hs.box e.run hxe hxo) | refine fun h => ?_)
            · show ∃ (d : Int × Int × List Two) (bl : List (Nat × Nat)), _ ∧ _
              have hc : codeOf bx e.run = 1 := by unfold codeOf; rw [if_neg (by simpa using h)]
              refine ⟨(1, 0, bx), [], ⟨hc.symm, rfl, rfl⟩, ?_⟩
              repeat' (first | exact trivial | exact ⟨trivial⟩ | exact Side.mk rfl | exact sF1 rfl | exact Chk.mk (by kernel_rfl) | exact ⟨Chk.mk (by kernel_rfl)⟩ | exact sMapF Two.flat | refine And.intro ?_ ?_ | rfl)
            · show ∃ (d : Int × Int × List Two) (bl : List (Nat × Nat)), _ ∧ _
              have hc : codeOf bx e.run = 2 := by unfold codeOf; rw [if_pos (by simpa using ‹(!fresh bx e.run) = false›), if_neg (by simpa using h)]
              refine ⟨(2, 0, bx), [], ⟨hc.symm, rfl, rfl⟩, ?_⟩
              repeat' (first | exact trivial | exact ⟨trivial⟩ | exact Side.mk rfl | exact sF1 rfl | exact Chk.mk (by kernel_rfl) | exact ⟨Chk.mk (by kernel_rfl)⟩ | exact sMapF Two.flat | refine And.intro ?_ ?_ | rfl)
            · show ∃ (d : Int × Int × List Two) (bl : List (Nat × Nat)), _ ∧ _
              have hc : codeOf bx e.run = 0 := by unfold codeOf; rw [if_pos (by simpa using ‹(!fresh bx e.run) = false›), if_pos (by simpa using h)]
              have hl4 := boxOk_len' (doPuts_ok hs.box (execOk_f hxe).pt)
              refine ⟨(0, e.run.c, doPuts bx e.run.puts), [(3, 6)], ⟨hc.symm, rfl, rfl⟩, ?_⟩
              repeat' (first | exact trivial | exact ⟨trivial⟩ | exact Side.mk rfl | exact sF1 rfl | exact Chk.mk (by kernel_rfl) | exact ⟨Chk.mk (by kernel_rfl)⟩ | exact sMapF Two.flat | exact ⟨by rw [List.length_map, hl4]⟩ | exact ⟨by rw [List.length_map]; exact hl4.symm⟩ | refine And.intro ?_ ?_ | rfl)
          · rintro ⟨cd, vl, bx'⟩ ⟨h1, h2, h3⟩
            dsimp only at h1 h2 h3 ⊢
            have hl4 : bx'.length = 4 := by
              rw [h3]; split
              · exact boxOk_len' (doPuts_ok hs.box (execOk_f hxe).pt)
              · exact hb4
            have hX : (insD ⟨e.q, cd, vl⟩ false ds).length ≤ 41 := by
              have := insD_len ⟨e.q, cd, vl⟩ false ds
              simp only [Bool.false_eq_true, if_false] at this
              omega
            obtain rfl : (⟨at_ + 1, bx', insD ⟨e.q, cd, vl⟩ false ds⟩, cd) = q := by
              rw [← hq, hqn, h3, h2, h1]; rfl
            refine W.go [(800034, .row [])] TTok hmo ?_
            repeat' (first | refine And.intro ?_ ?_ | exact tf | exact ft | refine tt ?_ | refine ff ?_ | exact ⟨trivial⟩ | exact sAll rfl | exact sF1 rfl | exact sBld (by repeat' (first | exact trivial | rfl | exact Nat.le_of_ble_eq_true rfl | refine And.intro ?_ ?_)) rfl | exact sBS (by repeat' (first | exact trivial | rfl | exact Nat.le_of_ble_eq_true rfl | refine And.intro ?_ ?_)) rfl rfl rfl rfl | exact sBSF (by repeat' (first | exact trivial | rfl | exact Nat.le_of_ble_eq_true rfl | refine And.intro ?_ ?_)) rfl rfl rfl rfl | exact sLe rfl | exact Chk.mk (by kernel_rfl) | exact ⟨Chk.mk (by kernel_rfl)⟩ | exact sLeEq rfl rfl | refine fun h => ?_)
            refine W.vslot 10 rfl ?_
            refine W.loopC (D := Nat × List Done × Bool) (fun d => [(111, .row (ds.getD d.1 default).cells), (800028, .row [])]) TTok hmo
              (fun d => ⟨152, 7, [(2, .one (.ptr 0 0 0)), (3, .one (.ptr 1 0 0)), (4, .one (.ptr 2 0 0)), (5, oi 0), (6, .one (.ptr 4 0 0)), (9, .one (.ptr 5 0 0)), (10, .one (.ref 6 0 d.2.1.length)), (11, ob d.2.2), (107, .one (.ag (ds.map Done.cells))), (108, oi ds.length), (109, oi d.1)], [(0, .box [i6 at_, .ag (bx.map Two.cells), .ag (ds.map Done.cells)]), (1, .box e.cellsA), (2, .box [i6 0, .nil, .nil]), (3, .arr (bx'.map Two.cells)), (4, .box [i6 (at_ + 1), .ref 3 0 4, .nil]), (5, .box [i6 e.q.a, i6 e.q.b, i6 cd, i6 vl]), (6, .arr (d.2.1.map Done.cells))]⟩) (fun d => ds.length - d.1)
              (fun d => d.1 ≤ ds.length ∧ d.2.1 ++ insD ⟨e.q, cd, vl⟩ d.2.2 (ds.drop d.1) = insD ⟨e.q, cd, vl⟩ false ds) (0, [], false) [] ⟨Nat.zero_le _, rfl⟩ ?_ ?_
            · repeat' (first | exact trivial | exact ⟨trivial⟩ | exact Side.mk rfl | exact sF1 rfl | exact Chk.mk (by kernel_rfl) | exact ⟨Chk.mk (by kernel_rfl)⟩ | exact sMapF Done.flat | exact sMapF Two.flat | exact ⟨by simp⟩ | refine And.intro ?_ ?_ | rfl)
            · rintro ⟨i, acc, put⟩ ⟨hi, hinv⟩
              dsimp only at hi hinv
              have hal : acc.length ≤ 41 := by
                have := congrArg List.length hinv
                rw [List.length_append] at this; omega
              repeat' (first | refine And.intro ?_ ?_ | exact tf | exact ft | refine tt ?_ | refine ff ?_ | exact ⟨trivial⟩ | exact sAll rfl | exact sF1 rfl | exact sBld (by repeat' (first | exact trivial | rfl | exact Nat.le_of_ble_eq_true rfl | refine And.intro ?_ ?_)) rfl | exact sBS (by repeat' (first | exact trivial | rfl | exact Nat.le_of_ble_eq_true rfl | refine And.intro ?_ ?_)) rfl rfl rfl rfl | exact sBSF (by repeat' (first | exact trivial | rfl | exact Nat.le_of_ble_eq_true rfl | refine And.intro ?_ ?_)) rfl rfl rfl rfl | exact sLe rfl | exact Chk.mk (by kernel_rfl) | exact ⟨Chk.mk (by kernel_rfl)⟩ | exact sLeEq rfl rfl | refine fun h => ?_)
              all_goals dsimp only at *
              all_goals try (have hl : i < ds.length := by (have h3 := of_decide_eq_true ‹decide ((i : Int) < (ds.length : Int)) = true›; omega))
              all_goals try (exact sRow (by omega) (row_at ds _ hl) rfl)
              · have hdr := drop_at hl
                generalize ds.getD i default = x at *
                refine W.cut [(126, .row [])] TTok hmo (fun d : List Done × Bool => ⟨152, 8, [(2, .one (.ptr 0 0 0)), (3, .one (.ptr 1 0 0)), (4, .one (.ptr 2 0 0)), (5, oi 0), (6, .one (.ptr 4 0 0)), (9, .one (.ptr 5 0 0)), (10, .one (.ref 6 0 d.1.length)), (11, ob d.2), (13, .one (.ptr 7 0 0)), (107, .one (.ag (ds.map Done.cells))), (108, oi ds.length), (109, oi i)], [(0, .box [i6 at_, .ag (bx.map Two.cells), .ag (ds.map Done.cells)]), (1, .box e.cellsA), (2, .box [i6 0, .nil, .nil]), (3, .arr (bx'.map Two.cells)), (4, .box [i6 (at_ + 1), .ref 3 0 4, .nil]), (5, .box [i6 e.q.a, i6 e.q.b, i6 cd, i6 vl]), (6, .arr (d.1.map Done.cells)), (7, .box x.cells)]⟩)
                  (fun d => d = (if put = false ∧ e.q.a ≤ x.q.a then (acc ++ [⟨e.q, cd, vl⟩], true) else (acc, put))) ?_ ?_
                · repeat' (first | refine And.intro ?_ ?_ | exact tf | exact ft | refine tt ?_ | refine ff ?_ | exact ⟨trivial⟩ | exact sAll rfl | exact sF1 rfl | exact sBld (by repeat' (first | exact trivial | rfl | exact Nat.le_of_ble_eq_true rfl | refine And.intro ?_ ?_)) rfl | exact sBS (by repeat' (first | exact trivial | rfl | exact Nat.le_of_ble_eq_true rfl | refine And.intro ?_ ?_)) rfl rfl rfl rfl | exact sBSF (by repeat' (first | exact trivial | rfl | exact Nat.le_of_ble_eq_true rfl | refine And.intro ?_ ?_)) rfl rfl rfl rfl | exact sLe rfl | exact Chk.mk (by kernel_rfl) | exact ⟨Chk.mk (by kernel_rfl)⟩ | exact sLeEq rfl rfl | refine fun h => ?_)
                  all_goals try (exact sApp (xs := acc) (c := Done.cells) (by simp) (fun _ => rfl) rfl (by omega) rfl rfl)
                  all_goals try (first | exact ⟨trivial, trivial⟩ | exact ⟨Nat.le_of_ble_eq_true rfl, trivial⟩ | exact ⟨trivial, Nat.le_of_ble_eq_true rfl, trivial⟩ | exact ⟨Nat.le_of_ble_eq_true rfl, trivial, trivial⟩)
                  all_goals (show ∃ (d : List Done × Bool) (bl : List (Nat × Nat)), _ ∧ _)
                  · refine ⟨(acc ++ [⟨e.q, cd, vl⟩], true), [(6, 8)], by rw [if_pos ⟨by simpa using ‹(!put) = true›, of_decide_eq_true h⟩], ?_⟩
                    repeat' (first | exact trivial | exact ⟨trivial⟩ | exact Side.mk rfl | exact sF1 rfl | exact Chk.mk (by kernel_rfl) | exact ⟨Chk.mk (by kernel_rfl)⟩ | exact sAppR rfl | exact ⟨by rw [List.length_append, List.length_map]; rfl⟩ | exact sMapF Done.flat | exact sMapF Two.flat | refine And.intro ?_ ?_ | rfl)
                  · refine ⟨(acc, put), [], by rw [if_neg fun h' => absurd h'.2 (of_decide_eq_false h)], ?_⟩
                    repeat' (first | exact trivial | exact ⟨trivial⟩ | exact Side.mk rfl | exact sF1 rfl | exact Chk.mk (by kernel_rfl) | exact ⟨Chk.mk (by kernel_rfl)⟩ | exact sMapF Done.flat | exact sMapF Two.flat | refine And.intro ?_ ?_ | rfl)
                  · refine ⟨(acc, put), [], by rw [if_neg fun h' => by rw [h'.1] at h; cases h], ?_⟩
                    repeat' (first | exact trivial | exact ⟨trivial⟩ | exact Side.mk rfl | exact sF1 rfl | exact Chk.mk (by kernel_rfl) | exact ⟨Chk.mk (by kernel_rfl)⟩ | exact sMapF Done.flat | exact sMapF Two.flat | refine And.intro ?_ ?_ | rfl)
                · rintro ⟨acc', put'⟩ hd'
                  have hinv2 : acc' ++ (if x.q.a = e.q.a then [] else [x]) ++ insD ⟨e.q, cd, vl⟩ put' (ds.drop (i + 1)) = insD ⟨e.q, cd, vl⟩ false ds := by
                    rw [← hinv, hdr, insD_cons]
                    by_cases hc : put = false ∧ e.q.a ≤ x.q.a
                    · rw [if_pos hc] at hd'
                      obtain ⟨rfl, rfl⟩ := Prod.mk.inj hd'
                      rw [if_pos hc, decide_eq_true hc.2, Bool.or_true]
                      simp only [List.append_assoc]
                    · rw [if_neg hc] at hd'
                      obtain ⟨h7, h8⟩ := Prod.mk.inj hd'
                      rw [h7, h8]
                      rw [if_neg hc]
                      have : (put || decide (e.q.a ≤ x.q.a)) = put := by
                        cases hp : put with
                        | true => rfl
                        | false => rw [Bool.false_or]; exact decide_eq_false fun h' => hc ⟨hp, h'⟩
                      rw [this]
                      simp only [List.append_assoc, List.nil_append]
                  have hal' : acc'.length ≤ 42 := by
                    have := congrArg List.length hinv2
                    rw [List.length_append, List.length_append] at this; omega
                  clear hd'
                  refine W.go [(137, .row [])] TTok hmo ?_
                  repeat' (first | refine And.intro ?_ ?_ | exact tf | exact ft | refine tt ?_ | refine ff ?_ | exact ⟨trivial⟩ | exact sAll rfl | exact sF1 rfl | exact sBld (by repeat' (first | exact trivial | rfl | exact Nat.le_of_ble_eq_true rfl | refine And.intro ?_ ?_)) rfl | exact sBS (by repeat' (first | exact trivial | rfl | exact Nat.le_of_ble_eq_true rfl | refine And.intro ?_ ?_)) rfl rfl rfl rfl | exact sBSF (by repeat' (first | exact trivial | rfl | exact Nat.le_of_ble_eq_true rfl | refine And.intro ?_ ?_)) rfl rfl rfl rfl | exact sLe rfl | exact Chk.mk (by kernel_rfl) | exact ⟨Chk.mk (by kernel_rfl)⟩ | exact sLeEq rfl rfl | refine fun h => ?_)
                  all_goals dsimp only at *
                  all_goals try (exact sApp (xs := acc') (c := Done.cells) (by simp) (fun _ => rfl) rfl (by omega) rfl rfl)
                  all_goals try (first | exact ⟨trivial, trivial⟩ | exact ⟨Nat.le_of_ble_eq_true rfl, trivial⟩ | exact ⟨trivial, Nat.le_of_ble_eq_true rfl, trivial⟩ | exact ⟨Nat.le_of_ble_eq_true rfl, trivial, trivial⟩)
                  · refine ⟨(i + 1, acc' ++ [x], put'), [(6, 8)], by dsimp only; omega, ⟨by dsimp only; omega, ?_⟩, ?_⟩
                    · rw [if_neg (bne_iff_ne.1 h)] at hinv2; exact hinv2
                    · repeat' (first | exact trivial | exact ⟨trivial⟩ | exact Side.mk rfl | exact sF1 rfl | exact Chk.mk (by kernel_rfl) | exact ⟨Chk.mk (by kernel_rfl)⟩ | exact sAppR rfl | exact ⟨by rw [List.length_append, List.length_map]; rfl⟩ | exact sMapF Done.flat | exact sMapF Two.flat | exact ⟨by rw [wrapi] <;> omega⟩ | refine And.intro ?_ ?_ | rfl)
                  · refine ⟨(i + 1, acc', put'), [], by dsimp only; omega, ⟨by dsimp only; omega, ?_⟩, ?_⟩
                    · rw [if_pos (bne_eq_false_iff_eq.1 h), List.append_nil] at hinv2; exact hinv2
                    · repeat' (first | exact trivial | exact ⟨trivial⟩ | exact Side.mk rfl | exact sF1 rfl | exact Chk.mk (by kernel_rfl) | exact ⟨Chk.mk (by kernel_rfl)⟩ | exact sMapF Done.flat | exact sMapF Two.flat | exact ⟨by rw [wrapi] <;> omega⟩ | refine And.intro ?_ ?_ | rfl)
              · have hi' : i = ds.length := by (have h3 := of_decide_eq_false h; omega)
                subst hi'
                rw [List.drop_length, insD_nil] at hinv
                generalize insD ⟨e.q, cd, vl⟩ false ds = X at *
                refine W.cut [(144, .row [])] TTok hmo (fun d : Unit => ⟨152, 7, [(2, .one (.ptr 0 0 0)), (3, .one (.ptr 1 0 0)), (4, .one (.ptr 2 0 0)), (5, oi 0), (6, .one (.ptr 4 0 0)), (9, .one (.ptr 5 0 0)), (10, .one (.ref 6 0 X.length))], [(0, .box [i6 at_, .ag (bx.map Two.cells), .ag (ds.map Done.cells)]), (1, .box e.cellsA), (2, .box [i6 0, .nil, .nil]), (3, .arr (bx'.map Two.cells)), (4, .box [i6 (at_ + 1), .ref 3 0 4, .nil]), (5, .box [i6 e.q.a, i6 e.q.b, i6 cd, i6 vl]), (6, .arr (X.map Done.cells))]⟩) (fun _ => True) ?_ ?_
                · repeat' (first | refine And.intro ?_ ?_ | exact tf | exact ft | refine tt ?_ | refine ff ?_ | exact ⟨trivial⟩ | exact sAll rfl | exact sF1 rfl | exact sBld (by repeat' (first | exact trivial | rfl | exact Nat.le_of_ble_eq_true rfl | refine And.intro ?_ ?_)) rfl | exact sBS (by repeat' (first | exact trivial | rfl | exact Nat.le_of_ble_eq_true rfl | refine And.intro ?_ ?_)) rfl rfl rfl rfl | exact sBSF (by repeat' (first | exact trivial | rfl | exact Nat.le_of_ble_eq_true rfl | refine And.intro ?_ ?_)) rfl rfl rfl rfl | exact sLe rfl | exact Chk.mk (by kernel_rfl) | exact ⟨Chk.mk (by kernel_rfl)⟩ | exact sLeEq rfl rfl | refine fun h => ?_)
                  all_goals try (exact sApp (xs := acc) (c := Done.cells) (by simp) (fun _ => rfl) rfl (by omega) rfl rfl)
                  all_goals try (first | exact ⟨trivial, trivial⟩ | exact ⟨Nat.le_of_ble_eq_true rfl, trivial⟩ | exact ⟨trivial, Nat.le_of_ble_eq_true rfl, trivial⟩ | exact ⟨Nat.le_of_ble_eq_true rfl, trivial, trivial⟩)
                  all_goals (show ∃ (d : Unit) (bl : List (Nat × Nat)), _ ∧ _)
                  · have hX' : acc ++ [⟨e.q, cd, vl⟩] = X := by rw [← hinv, if_neg (by simpa using h)]
                    subst hX'
                    refine ⟨(), [(6, 7)], trivial, ?_⟩
                    repeat' (first | exact trivial | exact ⟨trivial⟩ | exact Side.mk rfl | exact sF1 rfl | exact Chk.mk (by kernel_rfl) | exact ⟨Chk.mk (by kernel_rfl)⟩ | exact sAppR rfl | exact ⟨by rw [List.length_append, List.length_map]; rfl⟩ | exact sMapF Done.flat | exact sMapF Two.flat | refine And.intro ?_ ?_ | rfl)
                  · have hX' : acc = X := by rw [← hinv, if_pos (by simpa using h), List.append_nil]
                    subst hX'
                    refine ⟨(), [], trivial, ?_⟩
                    repeat' (first | exact trivial | exact ⟨trivial⟩ | exact Side.mk rfl | exact sF1 rfl | exact Chk.mk (by kernel_rfl) | exact ⟨Chk.mk (by kernel_rfl)⟩ | exact sMapF Done.flat | exact sMapF Two.flat | refine And.intro ?_ ?_ | rfl)
                · rintro _ _
                  refine W.go [(147, .res (.one (.own (X.map Done.cells)))), (900037, .row [i6 0, i6 1, i6 2, i6 3, i6 4])] TTok hmo ?_
                  repeat' (first | refine And.intro ?_ ?_ | exact tf | exact ft | refine tt ?_ | refine ff ?_ | exact ⟨trivial⟩ | exact sAll rfl | exact sF1 rfl | exact sBld (by repeat' (first | exact trivial | rfl | exact Nat.le_of_ble_eq_true rfl | refine And.intro ?_ ?_)) rfl | exact sBS (by repeat' (first | exact trivial | rfl | exact Nat.le_of_ble_eq_true rfl | refine And.intro ?_ ?_)) rfl rfl rfl rfl | exact sBSF (by repeat' (first | exact trivial | rfl | exact Nat.le_of_ble_eq_true rfl | refine And.intro ?_ ?_)) rfl rfl rfl rfl | exact sLe rfl | exact Chk.mk (by kernel_rfl) | exact ⟨Chk.mk (by kernel_rfl)⟩ | exact sLeEq rfl rfl | refine fun h => ?_)
                  all_goals try (exact ⟨rfl⟩)
                  all_goals try (exact trivial)
                  · exact sLend ⟨lendF Done.frz rfl, trivial⟩ (p_copied_Done X (by show _ ≤ 1048576; omega)) (congrArg (fun z => [MV.one (.fz z)]) (l_all rfl))
                  · exact ⟨⟨Nat.le_of_ble_eq_true rfl, trivial, trivial⟩, ⟨rfl, ⟨rfl, by rw [List.length_map, hl4], rfl, allF Two.frz⟩, ⟨rfl, rfl, rfl, allF Done.frz⟩, trivial⟩, ⟨rfl, trivial⟩, trivial⟩
end Mg

/- Entries done, one behind the other, on the program's side. No condition. -/
namespace Mg
open Go Go.RowKit
set_option maxRecDepth 100000
set_option linter.unusedVariables false
set_option linter.unusedSimpArgs false
attribute [local irreducible] W Pure Con
def ic (n : Int) : List MC := [i6 n]
theorem ic.frz (n : Int) : (ic n).all MC.frz = true := rfl
theorem ic.flat (n : Int) : (ic n).all MC.flat = true := rfl
def pSt (s : St) : MV := .agg [i6 s.at_, .own (s.boxes.map Two.cells), .own (s.dones.map Done.cells)]
set_option maxHeartbeats 8000000 in
theorem p_impl_folded (l : List Entry) (he : ∀ e ∈ l, entryOk e = true) (hl : l.length ≤ 40) (ho : ∀ e ∈ l, e.ok lim) : Pure PP false 117 [.one (.fz (l.map Entry.cells))]
    (.tup [pSt (foldS stOpen l), .one (.own ((codesL stOpen l).map ic))]) := by
  have inv : ∀ i, i ≤ l.length → StOk (foldS stOpen (l.take i)) ∧ (foldS stOpen (l.take i)).at_ = i := fun i hi => by
    have := foldS_ok (l := l.take i) stOpen_ok (fun e h => he e (List.mem_of_mem_take h)) (by simp [stOpen]; omega)
    refine ⟨this.1, ?_⟩
    rw [this.2]; simp [stOpen]; omega
  unfold pSt
  refine Pure.vc [(10, .res (.agg [i6 0, .own (stOpen.boxes.map Two.cells), .own (stOpen.dones.map Done.cells)]))] TTok hmo Go.Proofs.Tryz.func117 (by kernel_rfl) rfl (by kernel_rfl) ?_
  repeat' (first | refine And.intro ?_ ?_ | exact tf | exact ft | refine tt ?_ | refine ff ?_ | exact ⟨trivial⟩ | exact sAll rfl | exact sF1 rfl | exact sBld (by repeat' (first | exact trivial | rfl | exact Nat.le_of_ble_eq_true rfl | refine And.intro ?_ ?_)) rfl | exact sBS (by repeat' (first | exact trivial | rfl | exact Nat.le_of_ble_eq_true rfl | refine And.intro ?_ ?_)) rfl rfl rfl rfl | exact sBSF (by repeat' (first | exact trivial | rfl | exact Nat.le_of_ble_eq_true rfl | refine And.intro ?_ ?_)) rfl rfl rfl rfl | exact sLe rfl | exact Chk.mk (by kernel_rfl) | exact ⟨Chk.mk (by kernel_rfl)⟩ | exact sLeEq rfl rfl | exact sAnd (by repeat' constructor) (p_impl_CertOpen) | refine fun h => ?_)
  refine W.vslot 5 rfl ?_
  refine W.loopC (D := Nat) (fun i => [(15, .row (l.getD i default).cells), (20, .res (.tup [pSt (foldS stOpen (l.take (i + 1))), oi (apply1 (foldS stOpen (l.take i)) (l.getD i default)).2])), (26, .row [])]) TTok hmo
    (fun i => ⟨31, 5, [(2, .one (.ptr 0 0 0)), (4, .one (.ptr 3 0 0)), (5, .one (.ref 4 0 i)), (11, .one (.ag (l.map Entry.cells))), (12, oi l.length), (13, oi i)],
      [(0, .box [i6 0, .nil, .nil]), (1, .arr ((foldS stOpen (l.take i)).boxes.map Two.cells)), (2, .arr ((foldS stOpen (l.take i)).dones.map Done.cells)), (3, .box [i6 (foldS stOpen (l.take i)).at_, .ref 1 0 (foldS stOpen (l.take i)).boxes.length, .ref 2 0 (foldS stOpen (l.take i)).dones.length]), (4, .arr ((codesL stOpen (l.take i)).map ic))]⟩) (fun i => l.length - i) (fun i => i ≤ l.length) 0 [] (Nat.zero_le _) ?_ ?_
  · repeat' (first | exact trivial | exact ⟨trivial⟩ | exact Side.mk rfl | exact sF1 rfl | exact Chk.mk (by kernel_rfl) | exact ⟨Chk.mk (by kernel_rfl)⟩ | exact sMapF Two.flat | exact sMapF Done.flat | exact sMapF ic.flat | exact ⟨by simp⟩ | refine And.intro ?_ ?_ | rfl)
    all_goals skip
  · intro i hi
    repeat' (first | refine And.intro ?_ ?_ | exact tf | exact ft | refine tt ?_ | refine ff ?_ | exact ⟨trivial⟩ | exact sAll rfl | exact sF1 rfl | exact sBld (by repeat' (first | exact trivial | rfl | exact Nat.le_of_ble_eq_true rfl | refine And.intro ?_ ?_)) rfl | exact sBS (by repeat' (first | exact trivial | rfl | exact Nat.le_of_ble_eq_true rfl | refine And.intro ?_ ?_)) rfl rfl rfl rfl | exact sBSF (by repeat' (first | exact trivial | rfl | exact Nat.le_of_ble_eq_true rfl | refine And.intro ?_ ?_)) rfl rfl rfl rfl | exact sLe rfl | exact Chk.mk (by kernel_rfl) | exact ⟨Chk.mk (by kernel_rfl)⟩ | exact sLeEq rfl rfl | refine fun h => ?_)
    all_goals try (have hli : i < l.length := by (have h3 := of_decide_eq_true ‹decide ((i : Int) < (l.length : Int)) = true›; omega))
    all_goals try (exact sRow (by omega) (row_at l _ hli) rfl)
    · have hv := inv i hi
      have hv1 := inv (i + 1) hli
      have cA := p_impl_CertApply (foldS stOpen (l.take i)) hv.1 (l.getD i default) (he _ (getD_mem hli)) (ho _ (getD_mem hli)) (by rw [hv.2]; omega)
      rw [← foldS_step hli] at cA
      exact sLend ⟨⟨trivial, lendF Two.frz rfl, lendF Done.frz rfl, trivial⟩, ⟨trivial, trivial, trivial, trivial, trivial, trivial, trivial, trivial⟩, trivial⟩ cA
        (by simp only [l_all (c := Two.cells) rfl, l_all (c := Done.cells) rfl]; rfl)
    · exact sApp (xs := codesL stOpen (l.take i)) (c := ic) (by simp [codesL_len]; omega) (fun _ => rfl) rfl (by rw [codesL_len]; simp; omega) rfl rfl
    · have hv1 := inv (i + 1) hli
      refine ⟨i + 1, [(1, 6), (2, 7), (4, 9)], by omega, by omega, ?_⟩
      repeat' (first | exact trivial | exact ⟨trivial⟩ | exact Side.mk rfl | exact sF1 rfl | exact Chk.mk (by kernel_rfl) | exact ⟨Chk.mk (by kernel_rfl)⟩ | exact sMapF Two.flat | exact sMapF Done.flat | exact sMapF ic.flat | exact ⟨by rw [List.length_map, codesL_len, List.length_take, Nat.min_eq_left (by omega)]; rfl⟩ | exact ⟨by rw [codesL_step hli]; simp; rfl⟩ | exact ⟨by rw [wrapi] <;> omega⟩ | exact ⟨by simp; done⟩ | refine And.intro ?_ ?_ | rfl)
      all_goals skip
    · have hil : i = l.length := by (have h3 := of_decide_eq_false h; omega)
      subst hil
      rw [List.take_length]
      exact ⟨⟨Nat.le_of_ble_eq_true rfl, trivial, trivial⟩, ⟨rfl, ⟨rfl, by simp, rfl, allF Two.frz⟩, ⟨rfl, by simp, rfl, allF Done.frz⟩, trivial⟩, ⟨⟨rfl, by rw [List.length_map, codesL_len], rfl, allF ic.frz⟩, trivial⟩, trivial⟩
theorem stNone_own : pSt stNone = .agg [i6 0, .own [], .own []] := rfl
theorem p_impl_CertFold (l : List Entry) (hl : l.length ≤ lim) (ho : ∀ e ∈ l, e.ok lim) : Pure PP false 58 [.one (.fz (l.map Entry.cells))] (pSt (foldC l)) := by
  unfold foldC
  by_cases h0 : entsOk l = true
  · rw [if_pos h0]
    have hs : l.length ≤ 40 ∧ ∀ e ∈ l, entryOk e = true := by simpa [entsOk] using h0
    have cF := p_impl_folded l hs.2 hs.1 ho
    unfold pSt at cF ⊢
    refine Pure.vc [(6, .res (ob (entsOk l))), (11, .res (.tup [pSt (foldS stOpen l), .one (.own ((codesL stOpen l).map ic))]))] TTok hmo Go.Proofs.Tryz.func58 (by kernel_rfl) rfl (by kernel_rfl) ?_
    repeat' (first | refine And.intro ?_ ?_ | exact tf | exact ft | refine tt ?_ | refine ff ?_ | exact ⟨trivial⟩ | exact sAll rfl | exact sF1 rfl | exact sBld (by repeat' (first | exact trivial | rfl | exact Nat.le_of_ble_eq_true rfl | refine And.intro ?_ ?_)) rfl | exact sBS (by repeat' (first | exact trivial | rfl | exact Nat.le_of_ble_eq_true rfl | refine And.intro ?_ ?_)) rfl rfl rfl rfl | exact sBSF (by repeat' (first | exact trivial | rfl | exact Nat.le_of_ble_eq_true rfl | refine And.intro ?_ ?_)) rfl rfl rfl rfl | exact sLe rfl | exact Chk.mk (by kernel_rfl) | exact ⟨Chk.mk (by kernel_rfl)⟩ | exact sLeEq rfl rfl | exact sAnd (by repeat' constructor) (c_impl_listOk l (Nat.le_trans hl (by decide)) ho) | exact sAnd (by repeat' constructor) (cF) | refine fun h => ?_)
    all_goals try (exfalso; simp_all; done)
    all_goals first | exact ⟨⟨Nat.le_of_ble_eq_true rfl, trivial⟩, rfl, ⟨rfl, rfl, rfl, allF Two.frz⟩, ⟨rfl, rfl, rfl, allF Done.frz⟩, trivial⟩ | exact ⟨⟨Nat.le_of_ble_eq_true rfl, trivial⟩, rfl, rfl, rfl, trivial⟩
  · rw [if_neg h0]
    refine Pure.vc [(6, .res (ob (entsOk l)))] TTok hmo Go.Proofs.Tryz.func58 (by kernel_rfl) rfl (by kernel_rfl) ?_
    repeat' (first | refine And.intro ?_ ?_ | exact tf | exact ft | refine tt ?_ | refine ff ?_ | exact ⟨trivial⟩ | exact sAll rfl | exact sF1 rfl | exact sBld (by repeat' (first | exact trivial | rfl | exact Nat.le_of_ble_eq_true rfl | refine And.intro ?_ ?_)) rfl | exact sBS (by repeat' (first | exact trivial | rfl | exact Nat.le_of_ble_eq_true rfl | refine And.intro ?_ ?_)) rfl rfl rfl rfl | exact sBSF (by repeat' (first | exact trivial | rfl | exact Nat.le_of_ble_eq_true rfl | refine And.intro ?_ ?_)) rfl rfl rfl rfl | exact sLe rfl | exact Chk.mk (by kernel_rfl) | exact ⟨Chk.mk (by kernel_rfl)⟩ | exact sLeEq rfl rfl | exact sAnd (by repeat' constructor) (c_impl_listOk l (Nat.le_trans hl (by decide)) ho) | refine fun h => ?_)
    all_goals try (exfalso; simp_all; done)
    all_goals first | exact ⟨⟨Nat.le_of_ble_eq_true rfl, trivial⟩, rfl, ⟨rfl, rfl, rfl, allF Two.frz⟩, ⟨rfl, rfl, rfl, allF Done.frz⟩, trivial⟩ | exact ⟨⟨Nat.le_of_ble_eq_true rfl, trivial⟩, rfl, rfl, rfl, trivial⟩
theorem p_impl_NodeState (n : Node) (hn : n.ok lim) : Pure PP false 14 [.agg n.cells] (pSt (stateOf n)) := by
  unfold stateOf
  by_cases h0 : nodeOk n = true
  · rw [if_pos h0]
    have hk : entsOk n.known = true := by simp only [nodeOk, Bool.and_eq_true] at h0; exact h0.1.1.1.1.1.2
    have cF := p_impl_CertFold n.known hn.known.1 hn.known.2
    unfold foldC at cF
    rw [if_pos hk] at cF
    unfold pSt at cF ⊢
    refine Pure.vc [(4, .res (ob (nodeOk n))), (9, .res (pSt (foldS stOpen n.known)))] TTok hmo Go.Proofs.Tryz.func14 (by kernel_rfl) rfl (by kernel_rfl) ?_
    repeat' (first | refine And.intro ?_ ?_ | exact tf | exact ft | refine tt ?_ | refine ff ?_ | exact ⟨trivial⟩ | exact sAll rfl | exact sF1 rfl | exact sBld (by repeat' (first | exact trivial | rfl | exact Nat.le_of_ble_eq_true rfl | refine And.intro ?_ ?_)) rfl | exact sBS (by repeat' (first | exact trivial | rfl | exact Nat.le_of_ble_eq_true rfl | refine And.intro ?_ ?_)) rfl rfl rfl rfl | exact sBSF (by repeat' (first | exact trivial | rfl | exact Nat.le_of_ble_eq_true rfl | refine And.intro ?_ ?_)) rfl rfl rfl rfl | exact sLe rfl | exact Chk.mk (by kernel_rfl) | exact ⟨Chk.mk (by kernel_rfl)⟩ | exact sLeEq rfl rfl | exact sAnd (by repeat' constructor) (c_impl_NodeOk n hn) | exact sAnd (by repeat' constructor) (cF) | refine fun h => ?_)
    all_goals try (exfalso; simp_all; done)
    all_goals first | exact ⟨⟨Nat.le_of_ble_eq_true rfl, trivial⟩, rfl, ⟨rfl, rfl, rfl, allF Two.frz⟩, ⟨rfl, rfl, rfl, allF Done.frz⟩, trivial⟩ | exact ⟨⟨Nat.le_of_ble_eq_true rfl, trivial⟩, rfl, rfl, rfl, trivial⟩
  · rw [if_neg h0]
    refine Pure.vc [(4, .res (ob (nodeOk n)))] TTok hmo Go.Proofs.Tryz.func14 (by kernel_rfl) rfl (by kernel_rfl) ?_
    repeat' (first | refine And.intro ?_ ?_ | exact tf | exact ft | refine tt ?_ | refine ff ?_ | exact ⟨trivial⟩ | exact sAll rfl | exact sF1 rfl | exact sBld (by repeat' (first | exact trivial | rfl | exact Nat.le_of_ble_eq_true rfl | refine And.intro ?_ ?_)) rfl | exact sBS (by repeat' (first | exact trivial | rfl | exact Nat.le_of_ble_eq_true rfl | refine And.intro ?_ ?_)) rfl rfl rfl rfl | exact sBSF (by repeat' (first | exact trivial | rfl | exact Nat.le_of_ble_eq_true rfl | refine And.intro ?_ ?_)) rfl rfl rfl rfl | exact sLe rfl | exact Chk.mk (by kernel_rfl) | exact ⟨Chk.mk (by kernel_rfl)⟩ | exact sLeEq rfl rfl | exact sAnd (by repeat' constructor) (c_impl_NodeOk n hn) | refine fun h => ?_)
    all_goals try (exfalso; simp_all; done)
    all_goals first | exact ⟨⟨Nat.le_of_ble_eq_true rfl, trivial⟩, rfl, ⟨rfl, rfl, rfl, allF Two.frz⟩, ⟨rfl, rfl, rfl, allF Done.frz⟩, trivial⟩ | exact ⟨⟨Nat.le_of_ble_eq_true rfl, trivial⟩, rfl, rfl, rfl, trivial⟩
end Mg
