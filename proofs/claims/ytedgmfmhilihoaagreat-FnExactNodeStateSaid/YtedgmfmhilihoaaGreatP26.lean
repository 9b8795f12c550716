/- Parts of the abstract state logic and of the walks, one behind the other: E2, E4, EB. No condition. -/
import Derived.Test.YtedgmfmhilihoaaGreatP25
import Derived.Test.YtedgmfmhilihoaaGreatP23
import Derived.Test.YtedgmfmhilihoaaGreatP14
/- Entries and votes, numbered. No condition. -/
namespace Mg
open Go Go.RowKit
set_option maxRecDepth 100000
set_option linter.unusedVariables false
set_option linter.unusedSimpArgs false
attribute [local irreducible] W Pure

theorem k_markEntryS (xs : List Entry) (k : Int) (hk0 : 0 ≤ k) (hk1 : k ≤ 3000000000000000000) (hx : xs.length ≤ lim) (hv : ∀ v ∈ xs, v.ok lim) : TMark PP 46 (.one (.fz (xs.map Entry.cells))) k (.one (.fz ((mkL mkEntry ctEntry xs k).map Entry.cells))) (k + ctL ctEntry xs) := by
  have hx0 : xs.length ≤ 1048576 := hx
  have hbd : ∀ x ∈ xs, 0 ≤ ctEntry x ∧ ctEntry x ≤ 5000000 := fun x hx => ctEntry_bd (hv x hx)
  refine TMark.vcL (fun B => []) TTok hmo Go.Proofs.Tryz.func46 (by kernel_rfl) rfl (by kernel_rfl) (allF Entry.frz) (allF Entry.frz) (fun B hB => ?_)
  repeat' (first | refine And.intro ?_ ?_ | exact tf | exact ft | refine tt ?_ | refine ff ?_ | exact ⟨trivial⟩ | exact sAll rfl | exact sF1 rfl | exact sBld (by repeat' (first | exact trivial | rfl | exact Nat.le_of_ble_eq_true rfl | refine And.intro ?_ ?_)) rfl | exact sBS (by repeat' (first | exact trivial | rfl | exact Nat.le_of_ble_eq_true rfl | refine And.intro ?_ ?_)) rfl rfl rfl rfl | exact sBSF (by repeat' (first | exact trivial | rfl | exact Nat.le_of_ble_eq_true rfl | refine And.intro ?_ ?_)) rfl rfl rfl rfl | exact sLe rfl | exact Chk.mk (by kernel_rfl) | exact ⟨Chk.mk (by kernel_rfl)⟩ | exact sLeEq rfl rfl | refine fun h => ?_)
  refine W.loopC (D := Nat) (fun i => [(800004, .row [])]) TTok hmo (fun i => ⟨70, 1, [(0, .one (.ref 0 0 xs.length)), (1, oi (k + ctL ctEntry (xs.take i))), (5, oi i)], [(0, .arr (labR true B 0 ((mkUp mkEntry ctEntry xs k i).map Entry.cells)))]⟩) (fun i => xs.length - i) (fun i => i ≤ xs.length) 0 [] (Nat.zero_le _) ?_ ?_
  · repeat' (first | exact trivial | exact Side.mk rfl | exact Chk.mk (by kernel_rfl) | exact ⟨Chk.mk (by kernel_rfl)⟩ | exact sFlatL (allF Entry.frz) | exact sUp0 | exact sK0 | exact sLenM | refine And.intro ?_ ?_ | rfl)
  · intro i hi
    repeat' (first | refine And.intro ?_ ?_ | exact tf | exact ft | refine tt ?_ | refine ff ?_ | exact ⟨trivial⟩ | exact sAll rfl | exact sF1 rfl | exact sBld (by repeat' (first | exact trivial | rfl | exact Nat.le_of_ble_eq_true rfl | refine And.intro ?_ ?_)) rfl | exact sBS (by repeat' (first | exact trivial | rfl | exact Nat.le_of_ble_eq_true rfl | refine And.intro ?_ ?_)) rfl rfl rfl rfl | exact sBSF (by repeat' (first | exact trivial | rfl | exact Nat.le_of_ble_eq_true rfl | refine And.intro ?_ ?_)) rfl rfl rfl rfl | exact sLe rfl | exact Chk.mk (by kernel_rfl) | exact ⟨Chk.mk (by kernel_rfl)⟩ | exact sLeEq rfl rfl | refine fun h => ?_)
    · have hl : i < xs.length := by have := of_decide_eq_true h; omega
      have hct := ctL_bdt (i := i) (M := 5000000) (by decide) hbd
      have hce := hbd _ (getD_mem hl)
      have hct1 := ctL_take (ct := ctEntry) hl
      have hMb : (xs.length : Int) * 5000000 ≤ 10000000000000000 := by omega
      have hget : (labR true B 0 ((mkUp mkEntry ctEntry xs k i).map Entry.cells))[i]? = some (labRow true (B i) 0 (Entry.cells (xs.getD i default))) := lab_map_get (mkUp_get hl)
      have hlr : i < (labR true B 0 ((mkUp mkEntry ctEntry xs k i).map Entry.cells)).length := by rw [labR_len, List.length_map, mkUp_len]; exact hl
      have hl2 : i < ((mkUp mkEntry ctEntry xs k i).map Entry.cells).length := by rw [List.length_map, mkUp_len]; exact hl
      have hn : xs.length = (labR true B 0 ((mkUp mkEntry ctEntry xs k i).map Entry.cells)).length := by rw [labR_len, List.length_map, mkUp_len]
      have hfl : ∀ r ∈ (labR true B 0 ((mkUp mkEntry ctEntry xs k i).map Entry.cells)), ∀ c ∈ r, c.flat = true := lab_flat (allF Entry.frz)
      have hup := mkUp_set (f := mkEntry) (ct := ctEntry) (k := k) hl
      have hkf : k + ctL ctEntry (xs.take (i + 1)) = k + ctL ctEntry (xs.take i) + ctEntry (xs.getD i default) := by omega
      generalize hkk : k + ctL ctEntry (xs.take i) = kk at *
      generalize hxx : xs.getD i default = x at *
      have hxo := hv x (by rw [← hxx]; exact getD_mem hl)
      have hcx : ctEntry x = 5 + 2 * (x.run.reads.length : Int) + 2 * (x.run.puts.length : Int) := rfl
      rw [hcx] at hkf hce
      refine W.sub ⟨70, 1, [(0, .one (.ref 0 0 xs.length)), (1, oi (kk)), (5, oi i)], [(0, .arr ((labR true B 0 ((mkUp mkEntry ctEntry xs k i).map Entry.cells)).set i [bo x.none, i6 x.q.a, i6 x.q.b, .tr true (B i 3).B (B i 3).u (x.run.reads.map Two.cells), .tr true (B i 4).B (B i 4).u (x.run.puts.map Two.cells), i6 x.run.c, i6 x.run.d]))]⟩ [] ?_ ?_
      · repeat' (first | exact trivial | exact Side.mk rfl | exact Chk.mk (by kernel_rfl) | exact ⟨Chk.mk (by kernel_rfl)⟩ | exact sSet0 hget | exact sFlatN hfl rfl | exact ⟨rfl⟩ | refine And.intro ?_ ?_ | rfl)
      refine W.go [(800006, .row [])] TTok hmo ?_
      repeat' (first | refine And.intro ?_ ?_ | exact tf | exact ft | refine tt ?_ | refine ff ?_ | exact ⟨trivial⟩ | exact sAll rfl | exact sF1 rfl | exact sBld (by repeat' (first | exact trivial | rfl | exact Nat.le_of_ble_eq_true rfl | refine And.intro ?_ ?_)) rfl | exact sBS (by repeat' (first | exact trivial | rfl | exact Nat.le_of_ble_eq_true rfl | refine And.intro ?_ ?_)) rfl rfl rfl rfl | exact sBSF (by repeat' (first | exact trivial | rfl | exact Nat.le_of_ble_eq_true rfl | refine And.intro ?_ ?_)) rfl rfl rfl rfl | exact sLe rfl | exact Chk.mk (by kernel_rfl) | exact ⟨Chk.mk (by kernel_rfl)⟩ | exact sLeEq rfl rfl | refine fun h => ?_)
      all_goals try (exact sIxN hlr rfl hn rfl)
      all_goals try (exact sStN hlr (by simp) rfl rfl)
      all_goals try (exact fun hq => absurd hq (by decide))
      all_goals try (exact ⟨fun hq => absurd hq (by decide)⟩)
      refine W.sub ⟨70, 1, [(0, .one (.ref 0 0 xs.length)), (1, oi (kk + 1)), (5, oi i)], [(0, .arr ((labR true B 0 ((mkUp mkEntry ctEntry xs k i).map Entry.cells)).set i [bo (mkB (kk)), i6 x.q.a, i6 x.q.b, .tr true (B i 3).B (B i 3).u (x.run.reads.map Two.cells), .tr true (B i 4).B (B i 4).u (x.run.puts.map Two.cells), i6 x.run.c, i6 x.run.d]))]⟩ [] ?_ ?_
      · repeat' (first | exact trivial | exact Side.mk rfl | exact Chk.mk (by kernel_rfl) | exact ⟨Chk.mk (by kernel_rfl)⟩ | exact sSetN hlr (by simp) rfl | exact sFlatN hfl rfl | exact sWrap (by omega) (by omega) (by omega) | refine And.intro ?_ ?_ | rfl)
      refine W.go [(800008, .row [])] TTok hmo ?_
      repeat' (first | refine And.intro ?_ ?_ | exact tf | exact ft | refine tt ?_ | refine ff ?_ | exact ⟨trivial⟩ | exact sAll rfl | exact sF1 rfl | exact sBld (by repeat' (first | exact trivial | rfl | exact Nat.le_of_ble_eq_true rfl | refine And.intro ?_ ?_)) rfl | exact sBS (by repeat' (first | exact trivial | rfl | exact Nat.le_of_ble_eq_true rfl | refine And.intro ?_ ?_)) rfl rfl rfl rfl | exact sBSF (by repeat' (first | exact trivial | rfl | exact Nat.le_of_ble_eq_true rfl | refine And.intro ?_ ?_)) rfl rfl rfl rfl | exact sLe rfl | exact Chk.mk (by kernel_rfl) | exact ⟨Chk.mk (by kernel_rfl)⟩ | exact sLeEq rfl rfl | refine fun h => ?_)
      all_goals try (exact sIxN hlr rfl hn rfl)
      all_goals try (exact sStN hlr (by simp) rfl rfl)
      all_goals try (exact fun hq => absurd hq (by decide))
      all_goals try (exact ⟨fun hq => absurd hq (by decide)⟩)
      refine W.sub ⟨70, 1, [(0, .one (.ref 0 0 xs.length)), (1, oi (kk + 2)), (5, oi i)], [(0, .arr ((labR true B 0 ((mkUp mkEntry ctEntry xs k i).map Entry.cells)).set i [bo (mkB (kk)), i6 (kk + 1), i6 x.q.b, .tr true (B i 3).B (B i 3).u (x.run.reads.map Two.cells), .tr true (B i 4).B (B i 4).u (x.run.puts.map Two.cells), i6 x.run.c, i6 x.run.d]))]⟩ [] ?_ ?_
      · repeat' (first | exact trivial | exact Side.mk rfl | exact Chk.mk (by kernel_rfl) | exact ⟨Chk.mk (by kernel_rfl)⟩ | exact sSetN hlr (by simp) rfl | exact sFlatN hfl rfl | exact sWrap (by omega) (by omega) (by omega) | refine And.intro ?_ ?_ | rfl)
      refine W.go [(800010, .row [])] TTok hmo ?_
      repeat' (first | refine And.intro ?_ ?_ | exact tf | exact ft | refine tt ?_ | refine ff ?_ | exact ⟨trivial⟩ | exact sAll rfl | exact sF1 rfl | exact sBld (by repeat' (first | exact trivial | rfl | exact Nat.le_of_ble_eq_true rfl | refine And.intro ?_ ?_)) rfl | exact sBS (by repeat' (first | exact trivial | rfl | exact Nat.le_of_ble_eq_true rfl | refine And.intro ?_ ?_)) rfl rfl rfl rfl | exact sBSF (by repeat' (first | exact trivial | rfl | exact Nat.le_of_ble_eq_true rfl | refine And.intro ?_ ?_)) rfl rfl rfl rfl | exact sLe rfl | exact Chk.mk (by kernel_rfl) | exact ⟨Chk.mk (by kernel_rfl)⟩ | exact sLeEq rfl rfl | refine fun h => ?_)
      all_goals try (exact sIxN hlr rfl hn rfl)
      all_goals try (exact sStN hlr (by simp) rfl rfl)
      all_goals try (exact fun hq => absurd hq (by decide))
      all_goals try (exact ⟨fun hq => absurd hq (by decide)⟩)
      refine W.sub ⟨70, 1, [(0, .one (.ref 0 0 xs.length)), (1, oi (kk + 3)), (5, oi i)], [(0, .arr ((labR true B 0 ((mkUp mkEntry ctEntry xs k i).map Entry.cells)).set i [bo (mkB (kk)), i6 (kk + 1), i6 (kk + 2), .tr true (B i 3).B (B i 3).u (x.run.reads.map Two.cells), .tr true (B i 4).B (B i 4).u (x.run.puts.map Two.cells), i6 x.run.c, i6 x.run.d]))]⟩ [] ?_ ?_
      · repeat' (first | exact trivial | exact Side.mk rfl | exact Chk.mk (by kernel_rfl) | exact ⟨Chk.mk (by kernel_rfl)⟩ | exact sSetN hlr (by simp) rfl | exact sFlatN hfl rfl | exact sWrap (by omega) (by omega) (by omega) | refine And.intro ?_ ?_ | rfl)
      have q1 := k_markReadS x.run.reads (kk + 3) (by omega) (by omega) hxo.1
      have q2 := tmark_eq (k2 := kk + 3 + 2 * (x.run.reads.length : Int)) q1 (by have := ctTwos x.run.reads; omega)
      refine W.go [(800011, .row []), (42, .res (.one (.tr true (B i 3).B (B i 3).u (x.run.reads.map Two.cells)))), (44, .mark (fun _ _ => (.one (.fz ((mkTwos x.run.reads (kk + 3)).map Two.cells)), kk + 3 + 2 * (x.run.reads.length : Int))) [0, 5] [] [0] [(0, i, 3)])] TTok hmo ?_
      repeat' (first | refine And.intro ?_ ?_ | exact tf | exact ft | refine tt ?_ | refine ff ?_ | exact ⟨trivial⟩ | exact sAll rfl | exact sF1 rfl | exact sBld (by repeat' (first | exact trivial | rfl | exact Nat.le_of_ble_eq_true rfl | refine And.intro ?_ ?_)) rfl | exact sBS (by repeat' (first | exact trivial | rfl | exact Nat.le_of_ble_eq_true rfl | refine And.intro ?_ ?_)) rfl rfl rfl rfl | exact sBSF (by repeat' (first | exact trivial | rfl | exact Nat.le_of_ble_eq_true rfl | refine And.intro ?_ ?_)) rfl rfl rfl rfl | exact sLe rfl | exact Chk.mk (by kernel_rfl) | exact ⟨Chk.mk (by kernel_rfl)⟩ | exact sLeEq rfl rfl | refine fun h => ?_)
      all_goals try (exact ⟨apart_one⟩)
      all_goals try (exact sIxN hlr rfl hn rfl)
      all_goals try (refine Side.mk ?_; simp only [Int.toNat_natCast, setGet hlr]; exact ⟨Nat.le_of_ble_eq_true rfl, rfl⟩; done)
      all_goals try (exact Side.mk q2)
      all_goals try (exact trivial)
      all_goals try (exact Side.mk (.ref _ _ _))
      all_goals try (exact Side.mk (.sc _))
      all_goals try (exact sUpN hB rfl (allF Entry.frz) hl2 rfl rfl (by repeat' (first | exact trivial | exact ⟨.sc _⟩ | exact ⟨.mk _ _ _ _ (List.Mem.head _)⟩ | exact ⟨.tr _ _ _ _ fun y h1 h2 => absurd (hB _ _ _ _ y h1 h2).2 (by decide)⟩ | refine And.intro ?_ ?_)))
      refine W.sub ⟨70, 1, [(0, .one (.ref 0 0 xs.length)), (1, oi (kk + 3 + 2 * (x.run.reads.length : Int))), (5, oi i)], [(0, .arr ((labR true B 0 ((mkUp mkEntry ctEntry xs k i).map Entry.cells)).set i [bo (mkB (kk)), i6 (kk + 1), i6 (kk + 2), .tr true (B i 3).B (B i 3).u ((mkTwos x.run.reads (kk + 3)).map Two.cells), .tr true (B i 4).B (B i 4).u (x.run.puts.map Two.cells), i6 x.run.c, i6 x.run.d]))]⟩ [] ?_ ?_
      · repeat' (first | exact trivial | exact Side.mk rfl | exact Chk.mk (by kernel_rfl) | exact ⟨Chk.mk (by kernel_rfl)⟩ | exact sSetM hlr rfl rfl | exact sFlatN hfl rfl | exact ⟨by omega⟩ | refine And.intro ?_ ?_ | rfl)
      have q1 := k_markPutS x.run.puts (kk + 3 + 2 * (x.run.reads.length : Int)) (by omega) (by omega) hxo.2
      have q2 := tmark_eq (k2 := kk + 3 + 2 * (x.run.reads.length : Int) + 2 * (x.run.puts.length : Int)) q1 (by have := ctTwos x.run.puts; omega)
      refine W.go [(800012, .row []), (50, .res (.one (.tr true (B i 4).B (B i 4).u (x.run.puts.map Two.cells)))), (52, .mark (fun _ _ => (.one (.fz ((mkTwos x.run.puts (kk + 3 + 2 * (x.run.reads.length : Int))).map Two.cells)), kk + 3 + 2 * (x.run.reads.length : Int) + 2 * (x.run.puts.length : Int))) [0, 5] [] [0] [(0, i, 4)])] TTok hmo ?_
      repeat' (first | refine And.intro ?_ ?_ | exact tf | exact ft | refine tt ?_ | refine ff ?_ | exact ⟨trivial⟩ | exact sAll rfl | exact sF1 rfl | exact sBld (by repeat' (first | exact trivial | rfl | exact Nat.le_of_ble_eq_true rfl | refine And.intro ?_ ?_)) rfl | exact sBS (by repeat' (first | exact trivial | rfl | exact Nat.le_of_ble_eq_true rfl | refine And.intro ?_ ?_)) rfl rfl rfl rfl | exact sBSF (by repeat' (first | exact trivial | rfl | exact Nat.le_of_ble_eq_true rfl | refine And.intro ?_ ?_)) rfl rfl rfl rfl | exact sLe rfl | exact Chk.mk (by kernel_rfl) | exact ⟨Chk.mk (by kernel_rfl)⟩ | exact sLeEq rfl rfl | refine fun h => ?_)
      all_goals try (exact ⟨apart_one⟩)
      all_goals try (exact sIxN hlr rfl hn rfl)
      all_goals try (refine Side.mk ?_; simp only [Int.toNat_natCast, setGet hlr]; exact ⟨Nat.le_of_ble_eq_true rfl, rfl⟩; done)
      all_goals try (exact Side.mk q2)
      all_goals try (exact trivial)
      all_goals try (exact Side.mk (.ref _ _ _))
      all_goals try (exact Side.mk (.sc _))
      all_goals try (exact sUpN hB rfl (allF Entry.frz) hl2 rfl rfl (by repeat' (first | exact trivial | exact ⟨.sc _⟩ | exact ⟨.mk _ _ _ _ (List.Mem.head _)⟩ | exact ⟨.tr _ _ _ _ fun y h1 h2 => absurd (hB _ _ _ _ y h1 h2).2 (by decide)⟩ | refine And.intro ?_ ?_)))
      refine W.sub ⟨70, 1, [(0, .one (.ref 0 0 xs.length)), (1, oi (kk + 3 + 2 * (x.run.reads.length : Int) + 2 * (x.run.puts.length : Int))), (5, oi i)], [(0, .arr ((labR true B 0 ((mkUp mkEntry ctEntry xs k i).map Entry.cells)).set i [bo (mkB (kk)), i6 (kk + 1), i6 (kk + 2), .tr true (B i 3).B (B i 3).u ((mkTwos x.run.reads (kk + 3)).map Two.cells), .tr true (B i 4).B (B i 4).u ((mkTwos x.run.puts (kk + 3 + 2 * (x.run.reads.length : Int))).map Two.cells), i6 x.run.c, i6 x.run.d]))]⟩ [] ?_ ?_
      · repeat' (first | exact trivial | exact Side.mk rfl | exact Chk.mk (by kernel_rfl) | exact ⟨Chk.mk (by kernel_rfl)⟩ | exact sSetM hlr rfl rfl | exact sFlatN hfl rfl | exact ⟨by omega⟩ | refine And.intro ?_ ?_ | rfl)
      refine W.go [(800014, .row [])] TTok hmo ?_
      repeat' (first | refine And.intro ?_ ?_ | exact tf | exact ft | refine tt ?_ | refine ff ?_ | exact ⟨trivial⟩ | exact sAll rfl | exact sF1 rfl | exact sBld (by repeat' (first | exact trivial | rfl | exact Nat.le_of_ble_eq_true rfl | refine And.intro ?_ ?_)) rfl | exact sBS (by repeat' (first | exact trivial | rfl | exact Nat.le_of_ble_eq_true rfl | refine And.intro ?_ ?_)) rfl rfl rfl rfl | exact sBSF (by repeat' (first | exact trivial | rfl | exact Nat.le_of_ble_eq_true rfl | refine And.intro ?_ ?_)) rfl rfl rfl rfl | exact sLe rfl | exact Chk.mk (by kernel_rfl) | exact ⟨Chk.mk (by kernel_rfl)⟩ | exact sLeEq rfl rfl | refine fun h => ?_)
      all_goals try (exact sIxN hlr rfl hn rfl)
      all_goals try (exact sStN hlr (by simp) rfl rfl)
      all_goals try (exact fun hq => absurd hq (by decide))
      all_goals try (exact ⟨fun hq => absurd hq (by decide)⟩)
      refine W.sub ⟨70, 1, [(0, .one (.ref 0 0 xs.length)), (1, oi (kk + 4 + 2 * (x.run.reads.length : Int) + 2 * (x.run.puts.length : Int))), (5, oi i)], [(0, .arr ((labR true B 0 ((mkUp mkEntry ctEntry xs k i).map Entry.cells)).set i [bo (mkB (kk)), i6 (kk + 1), i6 (kk + 2), .tr true (B i 3).B (B i 3).u ((mkTwos x.run.reads (kk + 3)).map Two.cells), .tr true (B i 4).B (B i 4).u ((mkTwos x.run.puts (kk + 3 + 2 * (x.run.reads.length : Int))).map Two.cells), i6 (kk + 3 + 2 * (x.run.reads.length : Int) + 2 * (x.run.puts.length : Int)), i6 x.run.d]))]⟩ [] ?_ ?_
      · repeat' (first | exact trivial | exact Side.mk rfl | exact Chk.mk (by kernel_rfl) | exact ⟨Chk.mk (by kernel_rfl)⟩ | exact sSetN hlr (by simp) rfl | exact sFlatN hfl rfl | exact sWrap (by omega) (by omega) (by omega) | refine And.intro ?_ ?_ | rfl)
      refine W.go [] TTok hmo ?_
      repeat' (first | refine And.intro ?_ ?_ | exact tf | exact ft | refine tt ?_ | refine ff ?_ | exact ⟨trivial⟩ | exact sAll rfl | exact sF1 rfl | exact sBld (by repeat' (first | exact trivial | rfl | exact Nat.le_of_ble_eq_true rfl | refine And.intro ?_ ?_)) rfl | exact sBS (by repeat' (first | exact trivial | rfl | exact Nat.le_of_ble_eq_true rfl | refine And.intro ?_ ?_)) rfl rfl rfl rfl | exact sBSF (by repeat' (first | exact trivial | rfl | exact Nat.le_of_ble_eq_true rfl | refine And.intro ?_ ?_)) rfl rfl rfl rfl | exact sLe rfl | exact Chk.mk (by kernel_rfl) | exact ⟨Chk.mk (by kernel_rfl)⟩ | exact sLeEq rfl rfl | refine fun h => ?_)
      all_goals try (exact sIxN hlr rfl hn rfl)
      all_goals try (exact sStN hlr (by simp) rfl rfl)
      all_goals try (exact fun hq => absurd hq (by decide))
      all_goals try (exact ⟨fun hq => absurd hq (by decide)⟩)
      refine ⟨i + 1, [], by omega, by omega, ?_⟩
      repeat' (first | exact trivial | exact Side.mk rfl | exact Chk.mk (by kernel_rfl) | exact ⟨Chk.mk (by kernel_rfl)⟩ | exact sFlatL (allF Entry.frz) | exact ⟨(congrArg (fun q => labR true B 0 (q.map Entry.cells)) hup.symm).trans ((lab_map_set (x := mkEntry x kk)).symm.trans (sSetN (r' := labRow true (B i) 0 (Entry.cells (mkEntry x kk))) hlr (by simp) rfl).h)⟩ | exact sWrap (by omega) (by omega) (by omega) | exact ⟨by omega⟩ | exact ⟨by dsimp only; omega⟩ | exact sWrap (by omega) (by omega) (by omega) | refine And.intro ?_ ?_ | rfl)
    all_goals (have hle : xs.length ≤ i := by have := of_decide_eq_false h; omega)
    all_goals first | exact ⟨⟨trivial, trivial⟩⟩ | exact sKE hle | exact sUpE hle | exact ⟨likeR_map (mkL_len _ _).symm fun _ _ => by repeat' constructor⟩

theorem k_markVoteS (xs : List Vote) (k : Int) (hk0 : 0 ≤ k) (hk1 : k ≤ 3000000000000000000) (hx : xs.length ≤ lim) (hv : ∀ v ∈ xs, v.ok lim) : TMark PP 48 (.one (.fz (xs.map Vote.cells))) k (.one (.fz ((mkL mkVote ctVote xs k).map Vote.cells))) (k + ctL ctVote xs) := by
  have hx0 : xs.length ≤ 1048576 := hx
  have hbd : ∀ x ∈ xs, 0 ≤ ctVote x ∧ ctVote x ≤ 5000001 := fun x hx => ctVote_bd (hv x hx)
  refine TMark.vcL (fun B => []) TTok hmo Go.Proofs.Tryz.func48 (by kernel_rfl) rfl (by kernel_rfl) (allF Vote.frz) (allF Vote.frz) (fun B hB => ?_)
  repeat' (first | refine And.intro ?_ ?_ | exact tf | exact ft | refine tt ?_ | refine ff ?_ | exact ⟨trivial⟩ | exact sAll rfl | exact sF1 rfl | exact sBld (by repeat' (first | exact trivial | rfl | exact Nat.le_of_ble_eq_true rfl | refine And.intro ?_ ?_)) rfl | exact sBS (by repeat' (first | exact trivial | rfl | exact Nat.le_of_ble_eq_true rfl | refine And.intro ?_ ?_)) rfl rfl rfl rfl | exact sBSF (by repeat' (first | exact trivial | rfl | exact Nat.le_of_ble_eq_true rfl | refine And.intro ?_ ?_)) rfl rfl rfl rfl | exact sLe rfl | exact Chk.mk (by kernel_rfl) | exact ⟨Chk.mk (by kernel_rfl)⟩ | exact sLeEq rfl rfl | refine fun h => ?_)
  refine W.loopC (D := Nat) (fun i => [(800004, .row [])]) TTok hmo (fun i => ⟨84, 1, [(0, .one (.ref 0 0 xs.length)), (1, oi (k + ctL ctVote (xs.take i))), (5, oi i)], [(0, .arr (labR true B 0 ((mkUp mkVote ctVote xs k i).map Vote.cells)))]⟩) (fun i => xs.length - i) (fun i => i ≤ xs.length) 0 [] (Nat.zero_le _) ?_ ?_
  · repeat' (first | exact trivial | exact Side.mk rfl | exact Chk.mk (by kernel_rfl) | exact ⟨Chk.mk (by kernel_rfl)⟩ | exact sFlatL (allF Vote.frz) | exact sUp0 | exact sK0 | exact sLenM | refine And.intro ?_ ?_ | rfl)
  · intro i hi
    repeat' (first | refine And.intro ?_ ?_ | exact tf | exact ft | refine tt ?_ | refine ff ?_ | exact ⟨trivial⟩ | exact sAll rfl | exact sF1 rfl | exact sBld (by repeat' (first | exact trivial | rfl | exact Nat.le_of_ble_eq_true rfl | refine And.intro ?_ ?_)) rfl | exact sBS (by repeat' (first | exact trivial | rfl | exact Nat.le_of_ble_eq_true rfl | refine And.intro ?_ ?_)) rfl rfl rfl rfl | exact sBSF (by repeat' (first | exact trivial | rfl | exact Nat.le_of_ble_eq_true rfl | refine And.intro ?_ ?_)) rfl rfl rfl rfl | exact sLe rfl | exact Chk.mk (by kernel_rfl) | exact ⟨Chk.mk (by kernel_rfl)⟩ | exact sLeEq rfl rfl | refine fun h => ?_)
    · have hl : i < xs.length := by have := of_decide_eq_true h; omega
      have hct := ctL_bdt (i := i) (M := 5000001) (by decide) hbd
      have hce := hbd _ (getD_mem hl)
      have hct1 := ctL_take (ct := ctVote) hl
      have hMb : (xs.length : Int) * 5000001 ≤ 10000000000000000 := by omega
      have hget : (labR true B 0 ((mkUp mkVote ctVote xs k i).map Vote.cells))[i]? = some (labRow true (B i) 0 (Vote.cells (xs.getD i default))) := lab_map_get (mkUp_get hl)
      have hlr : i < (labR true B 0 ((mkUp mkVote ctVote xs k i).map Vote.cells)).length := by rw [labR_len, List.length_map, mkUp_len]; exact hl
      have hl2 : i < ((mkUp mkVote ctVote xs k i).map Vote.cells).length := by rw [List.length_map, mkUp_len]; exact hl
      have hn : xs.length = (labR true B 0 ((mkUp mkVote ctVote xs k i).map Vote.cells)).length := by rw [labR_len, List.length_map, mkUp_len]
      have hfl : ∀ r ∈ (labR true B 0 ((mkUp mkVote ctVote xs k i).map Vote.cells)), ∀ c ∈ r, c.flat = true := lab_flat (allF Vote.frz)
      have hup := mkUp_set (f := mkVote) (ct := ctVote) (k := k) hl
      have hkf : k + ctL ctVote (xs.take (i + 1)) = k + ctL ctVote (xs.take i) + ctVote (xs.getD i default) := by omega
      generalize hkk : k + ctL ctVote (xs.take i) = kk at *
      generalize hxx : xs.getD i default = x at *
      have hxo := hv x (by rw [← hxx]; exact getD_mem hl)
      have hcx : ctVote x = 6 + 2 * (x.e.run.reads.length : Int) + 2 * (x.e.run.puts.length : Int) := rfl
      rw [hcx] at hkf hce
      refine W.sub ⟨84, 1, [(0, .one (.ref 0 0 xs.length)), (1, oi (kk)), (5, oi i)], [(0, .arr ((labR true B 0 ((mkUp mkVote ctVote xs k i).map Vote.cells)).set i [i6 x.bal, bo x.e.none, i6 x.e.q.a, i6 x.e.q.b, .tr true (B i 4).B (B i 4).u (x.e.run.reads.map Two.cells), .tr true (B i 5).B (B i 5).u (x.e.run.puts.map Two.cells), i6 x.e.run.c, i6 x.e.run.d]))]⟩ [] ?_ ?_
      · repeat' (first | exact trivial | exact Side.mk rfl | exact Chk.mk (by kernel_rfl) | exact ⟨Chk.mk (by kernel_rfl)⟩ | exact sSet0 hget | exact sFlatN hfl rfl | exact ⟨rfl⟩ | refine And.intro ?_ ?_ | rfl)
      refine W.go [(800006, .row [])] TTok hmo ?_
      repeat' (first | refine And.intro ?_ ?_ | exact tf | exact ft | refine tt ?_ | refine ff ?_ | exact ⟨trivial⟩ | exact sAll rfl | exact sF1 rfl | exact sBld (by repeat' (first | exact trivial | rfl | exact Nat.le_of_ble_eq_true rfl | refine And.intro ?_ ?_)) rfl | exact sBS (by repeat' (first | exact trivial | rfl | exact Nat.le_of_ble_eq_true rfl | refine And.intro ?_ ?_)) rfl rfl rfl rfl | exact sBSF (by repeat' (first | exact trivial | rfl | exact Nat.le_of_ble_eq_true rfl | refine And.intro ?_ ?_)) rfl rfl rfl rfl | exact sLe rfl | exact Chk.mk (by kernel_rfl) | exact ⟨Chk.mk (by kernel_rfl)⟩ | exact sLeEq rfl rfl | refine fun h => ?_)
      all_goals try (exact sIxN hlr rfl hn rfl)
      all_goals try (exact sStN hlr (by simp) rfl rfl)
      all_goals try (exact fun hq => absurd hq (by decide))
      all_goals try (exact ⟨fun hq => absurd hq (by decide)⟩)
      refine W.sub ⟨84, 1, [(0, .one (.ref 0 0 xs.length)), (1, oi (kk + 1)), (5, oi i)], [(0, .arr ((labR true B 0 ((mkUp mkVote ctVote xs k i).map Vote.cells)).set i [i6 (kk), bo x.e.none, i6 x.e.q.a, i6 x.e.q.b, .tr true (B i 4).B (B i 4).u (x.e.run.reads.map Two.cells), .tr true (B i 5).B (B i 5).u (x.e.run.puts.map Two.cells), i6 x.e.run.c, i6 x.e.run.d]))]⟩ [] ?_ ?_
      · repeat' (first | exact trivial | exact Side.mk rfl | exact Chk.mk (by kernel_rfl) | exact ⟨Chk.mk (by kernel_rfl)⟩ | exact sSetN hlr (by simp) rfl | exact sFlatN hfl rfl | exact sWrap (by omega) (by omega) (by omega) | refine And.intro ?_ ?_ | rfl)
      refine W.go [(800008, .row [])] TTok hmo ?_
      repeat' (first | refine And.intro ?_ ?_ | exact tf | exact ft | refine tt ?_ | refine ff ?_ | exact ⟨trivial⟩ | exact sAll rfl | exact sF1 rfl | exact sBld (by repeat' (first | exact trivial | rfl | exact Nat.le_of_ble_eq_true rfl | refine And.intro ?_ ?_)) rfl | exact sBS (by repeat' (first | exact trivial | rfl | exact Nat.le_of_ble_eq_true rfl | refine And.intro ?_ ?_)) rfl rfl rfl rfl | exact sBSF (by repeat' (first | exact trivial | rfl | exact Nat.le_of_ble_eq_true rfl | refine And.intro ?_ ?_)) rfl rfl rfl rfl | exact sLe rfl | exact Chk.mk (by kernel_rfl) | exact ⟨Chk.mk (by kernel_rfl)⟩ | exact sLeEq rfl rfl | refine fun h => ?_)
      all_goals try (exact sIxN hlr rfl hn rfl)
      all_goals try (exact sStN hlr (by simp) rfl rfl)
      all_goals try (exact fun hq => absurd hq (by decide))
      all_goals try (exact ⟨fun hq => absurd hq (by decide)⟩)
      refine W.sub ⟨84, 1, [(0, .one (.ref 0 0 xs.length)), (1, oi (kk + 2)), (5, oi i)], [(0, .arr ((labR true B 0 ((mkUp mkVote ctVote xs k i).map Vote.cells)).set i [i6 (kk), bo (mkB (kk + 1)), i6 x.e.q.a, i6 x.e.q.b, .tr true (B i 4).B (B i 4).u (x.e.run.reads.map Two.cells), .tr true (B i 5).B (B i 5).u (x.e.run.puts.map Two.cells), i6 x.e.run.c, i6 x.e.run.d]))]⟩ [] ?_ ?_
      · repeat' (first | exact trivial | exact Side.mk rfl | exact Chk.mk (by kernel_rfl) | exact ⟨Chk.mk (by kernel_rfl)⟩ | exact sSetN hlr (by simp) rfl | exact sFlatN hfl rfl | exact sWrap (by omega) (by omega) (by omega) | refine And.intro ?_ ?_ | rfl)
      refine W.go [(800010, .row [])] TTok hmo ?_
      repeat' (first | refine And.intro ?_ ?_ | exact tf | exact ft | refine tt ?_ | refine ff ?_ | exact ⟨trivial⟩ | exact sAll rfl | exact sF1 rfl | exact sBld (by repeat' (first | exact trivial | rfl | exact Nat.le_of_ble_eq_true rfl | refine And.intro ?_ ?_)) rfl | exact sBS (by repeat' (first | exact trivial | rfl | exact Nat.le_of_ble_eq_true rfl | refine And.intro ?_ ?_)) rfl rfl rfl rfl | exact sBSF (by repeat' (first | exact trivial | rfl | exact Nat.le_of_ble_eq_true rfl | refine And.intro ?_ ?_)) rfl rfl rfl rfl | exact sLe rfl | exact Chk.mk (by kernel_rfl) | exact ⟨Chk.mk (by kernel_rfl)⟩ | exact sLeEq rfl rfl | refine fun h => ?_)
      all_goals try (exact sIxN hlr rfl hn rfl)
      all_goals try (exact sStN hlr (by simp) rfl rfl)
      all_goals try (exact fun hq => absurd hq (by decide))
      all_goals try (exact ⟨fun hq => absurd hq (by decide)⟩)
      refine W.sub ⟨84, 1, [(0, .one (.ref 0 0 xs.length)), (1, oi (kk + 3)), (5, oi i)], [(0, .arr ((labR true B 0 ((mkUp mkVote ctVote xs k i).map Vote.cells)).set i [i6 (kk), bo (mkB (kk + 1)), i6 (kk + 2), i6 x.e.q.b, .tr true (B i 4).B (B i 4).u (x.e.run.reads.map Two.cells), .tr true (B i 5).B (B i 5).u (x.e.run.puts.map Two.cells), i6 x.e.run.c, i6 x.e.run.d]))]⟩ [] ?_ ?_
      · repeat' (first | exact trivial | exact Side.mk rfl | exact Chk.mk (by kernel_rfl) | exact ⟨Chk.mk (by kernel_rfl)⟩ | exact sSetN hlr (by simp) rfl | exact sFlatN hfl rfl | exact sWrap (by omega) (by omega) (by omega) | refine And.intro ?_ ?_ | rfl)
      refine W.go [(800012, .row [])] TTok hmo ?_
      repeat' (first | refine And.intro ?_ ?_ | exact tf | exact ft | refine tt ?_ | refine ff ?_ | exact ⟨trivial⟩ | exact sAll rfl | exact sF1 rfl | exact sBld (by repeat' (first | exact trivial | rfl | exact Nat.le_of_ble_eq_true rfl | refine And.intro ?_ ?_)) rfl | exact sBS (by repeat' (first | exact trivial | rfl | exact Nat.le_of_ble_eq_true rfl | refine And.intro ?_ ?_)) rfl rfl rfl rfl | exact sBSF (by repeat' (first | exact trivial | rfl | exact Nat.le_of_ble_eq_true rfl | refine And.intro ?_ ?_)) rfl rfl rfl rfl | exact sLe rfl | exact Chk.mk (by kernel_rfl) | exact ⟨Chk.mk (by kernel_rfl)⟩ | exact sLeEq rfl rfl | refine fun h => ?_)
      all_goals try (exact sIxN hlr rfl hn rfl)
      all_goals try (exact sStN hlr (by simp) rfl rfl)
      all_goals try (exact fun hq => absurd hq (by decide))
      all_goals try (exact ⟨fun hq => absurd hq (by decide)⟩)
      refine W.sub ⟨84, 1, [(0, .one (.ref 0 0 xs.length)), (1, oi (kk + 4)), (5, oi i)], [(0, .arr ((labR true B 0 ((mkUp mkVote ctVote xs k i).map Vote.cells)).set i [i6 (kk), bo (mkB (kk + 1)), i6 (kk + 2), i6 (kk + 3), .tr true (B i 4).B (B i 4).u (x.e.run.reads.map Two.cells), .tr true (B i 5).B (B i 5).u (x.e.run.puts.map Two.cells), i6 x.e.run.c, i6 x.e.run.d]))]⟩ [] ?_ ?_
      · repeat' (first | exact trivial | exact Side.mk rfl | exact Chk.mk (by kernel_rfl) | exact ⟨Chk.mk (by kernel_rfl)⟩ | exact sSetN hlr (by simp) rfl | exact sFlatN hfl rfl | exact sWrap (by omega) (by omega) (by omega) | refine And.intro ?_ ?_ | rfl)
      have q1 := k_markReadS x.e.run.reads (kk + 4) (by omega) (by omega) hxo.1
      have q2 := tmark_eq (k2 := kk + 4 + 2 * (x.e.run.reads.length : Int)) q1 (by have := ctTwos x.e.run.reads; omega)
      refine W.go [(800013, .row []), (53, .res (.one (.tr true (B i 4).B (B i 4).u (x.e.run.reads.map Two.cells)))), (55, .mark (fun _ _ => (.one (.fz ((mkTwos x.e.run.reads (kk + 4)).map Two.cells)), kk + 4 + 2 * (x.e.run.reads.length : Int))) [0, 5] [] [0] [(0, i, 4)])] TTok hmo ?_
      repeat' (first | refine And.intro ?_ ?_ | exact tf | exact ft | refine tt ?_ | refine ff ?_ | exact ⟨trivial⟩ | exact sAll rfl | exact sF1 rfl | exact sBld (by repeat' (first | exact trivial | rfl | exact Nat.le_of_ble_eq_true rfl | refine And.intro ?_ ?_)) rfl | exact sBS (by repeat' (first | exact trivial | rfl | exact Nat.le_of_ble_eq_true rfl | refine And.intro ?_ ?_)) rfl rfl rfl rfl | exact sBSF (by repeat' (first | exact trivial | rfl | exact Nat.le_of_ble_eq_true rfl | refine And.intro ?_ ?_)) rfl rfl rfl rfl | exact sLe rfl | exact Chk.mk (by kernel_rfl) | exact ⟨Chk.mk (by kernel_rfl)⟩ | exact sLeEq rfl rfl | refine fun h => ?_)
      all_goals try (exact ⟨apart_one⟩)
      all_goals try (exact sIxN hlr rfl hn rfl)
      all_goals try (refine Side.mk ?_; simp only [Int.toNat_natCast, setGet hlr]; exact ⟨Nat.le_of_ble_eq_true rfl, rfl⟩; done)
      all_goals try (exact Side.mk q2)
      all_goals try (exact trivial)
      all_goals try (exact Side.mk (.ref _ _ _))
      all_goals try (exact Side.mk (.sc _))
      all_goals try (exact sUpN hB rfl (allF Vote.frz) hl2 rfl rfl (by repeat' (first | exact trivial | exact ⟨.sc _⟩ | exact ⟨.mk _ _ _ _ (List.Mem.head _)⟩ | exact ⟨.tr _ _ _ _ fun y h1 h2 => absurd (hB _ _ _ _ y h1 h2).2 (by decide)⟩ | refine And.intro ?_ ?_)))
      refine W.sub ⟨84, 1, [(0, .one (.ref 0 0 xs.length)), (1, oi (kk + 4 + 2 * (x.e.run.reads.length : Int))), (5, oi i)], [(0, .arr ((labR true B 0 ((mkUp mkVote ctVote xs k i).map Vote.cells)).set i [i6 (kk), bo (mkB (kk + 1)), i6 (kk + 2), i6 (kk + 3), .tr true (B i 4).B (B i 4).u ((mkTwos x.e.run.reads (kk + 4)).map Two.cells), .tr true (B i 5).B (B i 5).u (x.e.run.puts.map Two.cells), i6 x.e.run.c, i6 x.e.run.d]))]⟩ [] ?_ ?_
      · repeat' (first | exact trivial | exact Side.mk rfl | exact Chk.mk (by kernel_rfl) | exact ⟨Chk.mk (by kernel_rfl)⟩ | exact sSetM hlr rfl rfl | exact sFlatN hfl rfl | exact ⟨by omega⟩ | refine And.intro ?_ ?_ | rfl)
      have q1 := k_markPutS x.e.run.puts (kk + 4 + 2 * (x.e.run.reads.length : Int)) (by omega) (by omega) hxo.2
      have q2 := tmark_eq (k2 := kk + 4 + 2 * (x.e.run.reads.length : Int) + 2 * (x.e.run.puts.length : Int)) q1 (by have := ctTwos x.e.run.puts; omega)
      refine W.go [(800014, .row []), (62, .res (.one (.tr true (B i 5).B (B i 5).u (x.e.run.puts.map Two.cells)))), (64, .mark (fun _ _ => (.one (.fz ((mkTwos x.e.run.puts (kk + 4 + 2 * (x.e.run.reads.length : Int))).map Two.cells)), kk + 4 + 2 * (x.e.run.reads.length : Int) + 2 * (x.e.run.puts.length : Int))) [0, 5] [] [0] [(0, i, 5)])] TTok hmo ?_
      repeat' (first | refine And.intro ?_ ?_ | exact tf | exact ft | refine tt ?_ | refine ff ?_ | exact ⟨trivial⟩ | exact sAll rfl | exact sF1 rfl | exact sBld (by repeat' (first | exact trivial | rfl | exact Nat.le_of_ble_eq_true rfl | refine And.intro ?_ ?_)) rfl | exact sBS (by repeat' (first | exact trivial | rfl | exact Nat.le_of_ble_eq_true rfl | refine And.intro ?_ ?_)) rfl rfl rfl rfl | exact sBSF (by repeat' (first | exact trivial | rfl | exact Nat.le_of_ble_eq_true rfl | refine And.intro ?_ ?_)) rfl rfl rfl rfl | exact sLe rfl | exact Chk.mk (by kernel_rfl) | exact ⟨Chk.mk (by kernel_rfl)⟩ | exact sLeEq rfl rfl | refine fun h => ?_)
      all_goals try (exact ⟨apart_one⟩)
      all_goals try (exact sIxN hlr rfl hn rfl)
      all_goals try (refine Side.mk ?_; simp only [Int.toNat_natCast, setGet hlr]; exact ⟨Nat.le_of_ble_eq_true rfl, rfl⟩; done)
      all_goals try (exact Side.mk q2)
      all_goals try (exact trivial)
      all_goals try (exact Side.mk (.ref _ _ _))
      all_goals try (exact Side.mk (.sc _))
      all_goals try (exact sUpN hB rfl (allF Vote.frz) hl2 rfl rfl (by repeat' (first | exact trivial | exact ⟨.sc _⟩ | exact ⟨.mk _ _ _ _ (List.Mem.head _)⟩ | exact ⟨.tr _ _ _ _ fun y h1 h2 => absurd (hB _ _ _ _ y h1 h2).2 (by decide)⟩ | refine And.intro ?_ ?_)))
      refine W.sub ⟨84, 1, [(0, .one (.ref 0 0 xs.length)), (1, oi (kk + 4 + 2 * (x.e.run.reads.length : Int) + 2 * (x.e.run.puts.length : Int))), (5, oi i)], [(0, .arr ((labR true B 0 ((mkUp mkVote ctVote xs k i).map Vote.cells)).set i [i6 (kk), bo (mkB (kk + 1)), i6 (kk + 2), i6 (kk + 3), .tr true (B i 4).B (B i 4).u ((mkTwos x.e.run.reads (kk + 4)).map Two.cells), .tr true (B i 5).B (B i 5).u ((mkTwos x.e.run.puts (kk + 4 + 2 * (x.e.run.reads.length : Int))).map Two.cells), i6 x.e.run.c, i6 x.e.run.d]))]⟩ [] ?_ ?_
      · repeat' (first | exact trivial | exact Side.mk rfl | exact Chk.mk (by kernel_rfl) | exact ⟨Chk.mk (by kernel_rfl)⟩ | exact sSetM hlr rfl rfl | exact sFlatN hfl rfl | exact ⟨by omega⟩ | refine And.intro ?_ ?_ | rfl)
      refine W.go [(800016, .row [])] TTok hmo ?_
      repeat' (first | refine And.intro ?_ ?_ | exact tf | exact ft | refine tt ?_ | refine ff ?_ | exact ⟨trivial⟩ | exact sAll rfl | exact sF1 rfl | exact sBld (by repeat' (first | exact trivial | rfl | exact Nat.le_of_ble_eq_true rfl | refine And.intro ?_ ?_)) rfl | exact sBS (by repeat' (first | exact trivial | rfl | exact Nat.le_of_ble_eq_true rfl | refine And.intro ?_ ?_)) rfl rfl rfl rfl | exact sBSF (by repeat' (first | exact trivial | rfl | exact Nat.le_of_ble_eq_true rfl | refine And.intro ?_ ?_)) rfl rfl rfl rfl | exact sLe rfl | exact Chk.mk (by kernel_rfl) | exact ⟨Chk.mk (by kernel_rfl)⟩ | exact sLeEq rfl rfl | refine fun h => ?_)
      all_goals try (exact sIxN hlr rfl hn rfl)
      all_goals try (exact sStN hlr (by simp) rfl rfl)
      all_goals try (exact fun hq => absurd hq (by decide))
      all_goals try (exact ⟨fun hq => absurd hq (by decide)⟩)
      refine W.sub ⟨84, 1, [(0, .one (.ref 0 0 xs.length)), (1, oi (kk + 5 + 2 * (x.e.run.reads.length : Int) + 2 * (x.e.run.puts.length : Int))), (5, oi i)], [(0, .arr ((labR true B 0 ((mkUp mkVote ctVote xs k i).map Vote.cells)).set i [i6 (kk), bo (mkB (kk + 1)), i6 (kk + 2), i6 (kk + 3), .tr true (B i 4).B (B i 4).u ((mkTwos x.e.run.reads (kk + 4)).map Two.cells), .tr true (B i 5).B (B i 5).u ((mkTwos x.e.run.puts (kk + 4 + 2 * (x.e.run.reads.length : Int))).map Two.cells), i6 (kk + 4 + 2 * (x.e.run.reads.length : Int) + 2 * (x.e.run.puts.length : Int)), i6 x.e.run.d]))]⟩ [] ?_ ?_
      · repeat' (first | exact trivial | exact Side.mk rfl | exact Chk.mk (by kernel_rfl) | exact ⟨Chk.mk (by kernel_rfl)⟩ | exact sSetN hlr (by simp) rfl | exact sFlatN hfl rfl | exact sWrap (by omega) (by omega) (by omega) | refine And.intro ?_ ?_ | rfl)
      refine W.go [] TTok hmo ?_
      repeat' (first | refine And.intro ?_ ?_ | exact tf | exact ft | refine tt ?_ | refine ff ?_ | exact ⟨trivial⟩ | exact sAll rfl | exact sF1 rfl | exact sBld (by repeat' (first | exact trivial | rfl | exact Nat.le_of_ble_eq_true rfl | refine And.intro ?_ ?_)) rfl | exact sBS (by repeat' (first | exact trivial | rfl | exact Nat.le_of_ble_eq_true rfl | refine And.intro ?_ ?_)) rfl rfl rfl rfl | exact sBSF (by repeat' (first | exact trivial | rfl | exact Nat.le_of_ble_eq_true rfl | refine And.intro ?_ ?_)) rfl rfl rfl rfl | exact sLe rfl | exact Chk.mk (by kernel_rfl) | exact ⟨Chk.mk (by kernel_rfl)⟩ | exact sLeEq rfl rfl | refine fun h => ?_)
      all_goals try (exact sIxN hlr rfl hn rfl)
      all_goals try (exact sStN hlr (by simp) rfl rfl)
      all_goals try (exact fun hq => absurd hq (by decide))
      all_goals try (exact ⟨fun hq => absurd hq (by decide)⟩)
      refine ⟨i + 1, [], by omega, by omega, ?_⟩
      repeat' (first | exact trivial | exact Side.mk rfl | exact Chk.mk (by kernel_rfl) | exact ⟨Chk.mk (by kernel_rfl)⟩ | exact sFlatL (allF Vote.frz) | exact ⟨(congrArg (fun q => labR true B 0 (q.map Vote.cells)) hup.symm).trans ((lab_map_set (x := mkVote x kk)).symm.trans (sSetN (r' := labRow true (B i) 0 (Vote.cells (mkVote x kk))) hlr (by simp) rfl).h)⟩ | exact sWrap (by omega) (by omega) (by omega) | exact ⟨by omega⟩ | exact ⟨by dsimp only; omega⟩ | exact sWrap (by omega) (by omega) (by omega) | refine And.intro ?_ ?_ | rfl)
    all_goals (have hle : xs.length ≤ i := by have := of_decide_eq_false h; omega)
    all_goals first | exact ⟨⟨trivial, trivial⟩⟩ | exact sKE hle | exact sUpE hle | exact ⟨likeR_map (mkL_len _ _).symm fun _ _ => by repeat' constructor⟩

end Mg

/- Structs, numbered and held. No condition. -/
namespace Mg
open Go Go.RowKit
set_option maxRecDepth 100000
set_option linter.unusedVariables false
set_option linter.unusedSimpArgs false
attribute [local irreducible] W Pure

theorem k_markRun (x : Run) (k : Int) (hk0 : 0 ≤ k) (hk1 : k ≤ 2000000000000000000) (hx : x.ok lim) : TMark PP 113 (.agg x.cells) k (.agg (mkRun x k).cells) (k + 2 * (x.reads.length : Int) + 2 * (x.puts.length : Int)) := by
  have hr : x.reads.length ≤ 1048576 := hx.1
  have hp : x.puts.length ≤ 1048576 := hx.2
  refine TMark.vcS (fun B => [(800001, .row [])]) TTok hmo Go.Proofs.Tryz.func113 (by kernel_rfl) rfl (by kernel_rfl) rfl (fun B hB => ?_)
  repeat' (first | refine And.intro ?_ ?_ | exact tf | exact ft | refine tt ?_ | refine ff ?_ | exact ⟨trivial⟩ | exact sAll rfl | exact sF1 rfl | exact sBld (by repeat' (first | exact trivial | rfl | exact Nat.le_of_ble_eq_true rfl | refine And.intro ?_ ?_)) rfl | exact sBS (by repeat' (first | exact trivial | rfl | exact Nat.le_of_ble_eq_true rfl | refine And.intro ?_ ?_)) rfl rfl rfl rfl | exact sBSF (by repeat' (first | exact trivial | rfl | exact Nat.le_of_ble_eq_true rfl | refine And.intro ?_ ?_)) rfl rfl rfl rfl | exact sLe rfl | exact Chk.mk (by kernel_rfl) | exact ⟨Chk.mk (by kernel_rfl)⟩ | exact sLeEq rfl rfl | refine fun h => ?_)
  refine W.sub ⟨14, 1, [(0, .agg [.tr true (B 0).B (B 0).u (x.reads.map Two.cells), .tr true (B 1).B (B 1).u (x.puts.map Two.cells), i6 x.c, i6 x.d]), (1, oi k), (2, .one (.ptr 0 0 0))], [(0, .box [.tr true (B 0).B (B 0).u (x.reads.map Two.cells), .tr true (B 1).B (B 1).u (x.puts.map Two.cells), i6 x.c, i6 x.d])]⟩ [] ?_ ?_
  · repeat' (first | exact trivial | exact Side.mk rfl | exact Chk.mk (by kernel_rfl) | exact ⟨Chk.mk (by kernel_rfl)⟩ | refine And.intro ?_ ?_ | rfl)
  have q1 := k_markReadS x.reads (k) (by omega) (by omega) hx.1
  have q2 := tmark_eq (k2 := k + 2 * (x.reads.length : Int)) q1 (by have := ctTwos x.reads; omega)
  refine W.go [(800002, .row []), (8, .mark (fun _ _ => (.one (.fz ((mkTwos x.reads (k)).map Two.cells)), k + 2 * (x.reads.length : Int))) [2] [(0, [(0, 0)])] [0] [(0, 0, 0)])] TTok hmo ?_
  repeat' (first | refine And.intro ?_ ?_ | exact tf | exact ft | refine tt ?_ | refine ff ?_ | exact ⟨trivial⟩ | exact sAll rfl | exact sF1 rfl | exact sBld (by repeat' (first | exact trivial | rfl | exact Nat.le_of_ble_eq_true rfl | refine And.intro ?_ ?_)) rfl | exact sBS (by repeat' (first | exact trivial | rfl | exact Nat.le_of_ble_eq_true rfl | refine And.intro ?_ ?_)) rfl rfl rfl rfl | exact sBSF (by repeat' (first | exact trivial | rfl | exact Nat.le_of_ble_eq_true rfl | refine And.intro ?_ ?_)) rfl rfl rfl rfl | exact sLe rfl | exact Chk.mk (by kernel_rfl) | exact ⟨Chk.mk (by kernel_rfl)⟩ | exact sLeEq rfl rfl | refine fun h => ?_)
  all_goals try (exact ⟨apart_one⟩)
  all_goals try (exact Side.mk q2)
  all_goals try (exact trivial)
  all_goals try (exact Side.mk (.ptr _ _ _))
  all_goals try (repeat' (first | exact trivial | exact Side.mk (.sc _) | exact Side.mk (.mk _ _ _ _ (List.Mem.head _)) | exact Side.mk (.tr _ _ _ _ fun y h1 h2 => absurd (hB _ _ y h1 h2) (by decide)) | refine And.intro ?_ ?_); done)
  refine W.sub ⟨14, 1, [(0, .agg [.tr true (B 0).B (B 0).u ((mkTwos x.reads (k)).map Two.cells), .tr true (B 1).B (B 1).u (x.puts.map Two.cells), i6 x.c, i6 x.d]), (1, oi (k + 2 * (x.reads.length : Int))), (2, .one (.ptr 0 0 0))], [(0, .box [.tr true (B 0).B (B 0).u ((mkTwos x.reads (k)).map Two.cells), .tr true (B 1).B (B 1).u (x.puts.map Two.cells), i6 x.c, i6 x.d])]⟩ [] ?_ ?_
  · repeat' (first | exact trivial | exact Side.mk rfl | exact Chk.mk (by kernel_rfl) | exact ⟨Chk.mk (by kernel_rfl)⟩ | exact ⟨by omega⟩ | refine And.intro ?_ ?_ | rfl)
  have q1 := k_markPutS x.puts (k + 2 * (x.reads.length : Int)) (by omega) (by omega) hx.2
  have q2 := tmark_eq (k2 := k + 2 * (x.reads.length : Int) + 2 * (x.puts.length : Int)) q1 (by have := ctTwos x.puts; omega)
  refine W.go [(12, .mark (fun _ _ => (.one (.fz ((mkTwos x.puts (k + 2 * (x.reads.length : Int))).map Two.cells)), k + 2 * (x.reads.length : Int) + 2 * (x.puts.length : Int))) [2] [(0, [(1, 0)])] [0] [(0, 0, 1)])] TTok hmo ?_
  repeat' (first | refine And.intro ?_ ?_ | exact tf | exact ft | refine tt ?_ | refine ff ?_ | exact ⟨trivial⟩ | exact sAll rfl | exact sF1 rfl | exact sBld (by repeat' (first | exact trivial | rfl | exact Nat.le_of_ble_eq_true rfl | refine And.intro ?_ ?_)) rfl | exact sBS (by repeat' (first | exact trivial | rfl | exact Nat.le_of_ble_eq_true rfl | refine And.intro ?_ ?_)) rfl rfl rfl rfl | exact sBSF (by repeat' (first | exact trivial | rfl | exact Nat.le_of_ble_eq_true rfl | refine And.intro ?_ ?_)) rfl rfl rfl rfl | exact sLe rfl | exact Chk.mk (by kernel_rfl) | exact ⟨Chk.mk (by kernel_rfl)⟩ | exact sLeEq rfl rfl | refine fun h => ?_)
  all_goals try (exact ⟨apart_one⟩)
  all_goals try (exact Side.mk q2)
  all_goals try (exact trivial)
  all_goals try (exact Side.mk (.ptr _ _ _))
  all_goals try (repeat' (first | exact trivial | exact Side.mk (.sc _) | exact Side.mk (.mk _ _ _ _ (List.Mem.head _)) | exact Side.mk (.tr _ _ _ _ fun y h1 h2 => absurd (hB _ _ y h1 h2) (by decide)) | refine And.intro ?_ ?_); done)
  all_goals first | exact ⟨⟨trivial, trivial⟩⟩ | exact ⟨rfl⟩ | exact ⟨trivial⟩ | exact ⟨by repeat' constructor⟩

theorem k_markEntry (x : Entry) (k : Int) (hk0 : 0 ≤ k) (hk1 : k ≤ 2000000000000000000) (hx : x.ok lim) : TMark PP 49 (.agg x.cells) k (.agg (mkRunE x k).cells) (k + 2 * (x.run.reads.length : Int) + 2 * (x.run.puts.length : Int)) := by
  refine TMark.vcS (fun B => [(800001, .row [])]) TTok hmo Go.Proofs.Tryz.func49 (by kernel_rfl) rfl (by kernel_rfl) rfl (fun B hB => ?_)
  repeat' (first | refine And.intro ?_ ?_ | exact tf | exact ft | refine tt ?_ | refine ff ?_ | exact ⟨trivial⟩ | exact sAll rfl | exact sF1 rfl | exact sBld (by repeat' (first | exact trivial | rfl | exact Nat.le_of_ble_eq_true rfl | refine And.intro ?_ ?_)) rfl | exact sBS (by repeat' (first | exact trivial | rfl | exact Nat.le_of_ble_eq_true rfl | refine And.intro ?_ ?_)) rfl rfl rfl rfl | exact sBSF (by repeat' (first | exact trivial | rfl | exact Nat.le_of_ble_eq_true rfl | refine And.intro ?_ ?_)) rfl rfl rfl rfl | exact sLe rfl | exact Chk.mk (by kernel_rfl) | exact ⟨Chk.mk (by kernel_rfl)⟩ | exact sLeEq rfl rfl | refine fun h => ?_)
  refine W.sub ⟨10, 1, [(0, .agg [bo x.none, i6 x.q.a, i6 x.q.b, .tr true (B 3).B (B 3).u (x.run.reads.map Two.cells), .tr true (B 4).B (B 4).u (x.run.puts.map Two.cells), i6 x.run.c, i6 x.run.d]), (1, oi k), (2, .one (.ptr 0 0 0))], [(0, .box [bo x.none, i6 x.q.a, i6 x.q.b, .tr true (B 3).B (B 3).u (x.run.reads.map Two.cells), .tr true (B 4).B (B 4).u (x.run.puts.map Two.cells), i6 x.run.c, i6 x.run.d])]⟩ [] ?_ ?_
  · repeat' (first | exact trivial | exact Side.mk rfl | exact Chk.mk (by kernel_rfl) | exact ⟨Chk.mk (by kernel_rfl)⟩ | refine And.intro ?_ ?_ | rfl)
  have q1 := k_markRun x.run (k) (by omega) (by omega) hx
  have q2 := tmark_eq (k2 := k + 2 * (x.run.reads.length : Int) + 2 * (x.run.puts.length : Int)) q1 (by omega)
  refine W.go [(8, .mark (fun _ _ => (.agg [.fz ((mkTwos x.run.reads (k)).map Two.cells), .fz ((mkTwos x.run.puts (k + 2 * (x.run.reads.length : Int))).map Two.cells), i6 x.run.c, i6 x.run.d], k + 2 * (x.run.reads.length : Int) + 2 * (x.run.puts.length : Int))) [2] [(0, [(3, 0), (4, 1)])] [0] [(0, 0, 3), (0, 1, 4)])] TTok hmo ?_
  repeat' (first | refine And.intro ?_ ?_ | exact tf | exact ft | refine tt ?_ | refine ff ?_ | exact ⟨trivial⟩ | exact sAll rfl | exact sF1 rfl | exact sBld (by repeat' (first | exact trivial | rfl | exact Nat.le_of_ble_eq_true rfl | refine And.intro ?_ ?_)) rfl | exact sBS (by repeat' (first | exact trivial | rfl | exact Nat.le_of_ble_eq_true rfl | refine And.intro ?_ ?_)) rfl rfl rfl rfl | exact sBSF (by repeat' (first | exact trivial | rfl | exact Nat.le_of_ble_eq_true rfl | refine And.intro ?_ ?_)) rfl rfl rfl rfl | exact sLe rfl | exact Chk.mk (by kernel_rfl) | exact ⟨Chk.mk (by kernel_rfl)⟩ | exact sLeEq rfl rfl | refine fun h => ?_)
  all_goals try (exact ⟨apart_row (B := B) (o := 3) hB (cs0 := [.fz (x.run.reads.map Two.cells), .fz (x.run.puts.map Two.cells), i6 x.run.c, i6 x.run.d])⟩)
  all_goals try (exact Side.mk q2)
  all_goals try (exact trivial)
  all_goals try (exact Side.mk (.ptr _ _ _))
  all_goals try (repeat' (first | exact trivial | exact Side.mk (.sc _) | exact Side.mk (.mk _ _ _ _ (List.Mem.head _)) | exact Side.mk (.mk _ _ _ _ (List.Mem.tail _ (List.Mem.head _))) | exact Side.mk (.tr _ _ _ _ fun y h1 h2 => nin_row (o := 3) hB h1 rfl (cs0 := [.fz (x.run.reads.map Two.cells), .fz (x.run.puts.map Two.cells), i6 x.run.c, i6 x.run.d]) h2) | refine And.intro ?_ ?_); done)
  all_goals first | exact ⟨⟨trivial, trivial⟩⟩ | exact ⟨rfl⟩ | exact ⟨trivial⟩ | exact ⟨by repeat' constructor⟩

theorem k_markAcc (x : Acc) (k : Int) (hk0 : 0 ≤ k) (hk1 : k ≤ 2000000000000000000) (hx : x.ok lim) : TMark PP 45 (.agg x.cells) k (.agg (mkAcc x k).cells) (k + ctVotes x.votes) := by
  refine TMark.vcS (fun B => [(800001, .row [])]) TTok hmo Go.Proofs.Tryz.func45 (by kernel_rfl) rfl (by kernel_rfl) rfl (fun B hB => ?_)
  repeat' (first | refine And.intro ?_ ?_ | exact tf | exact ft | refine tt ?_ | refine ff ?_ | exact ⟨trivial⟩ | exact sAll rfl | exact sF1 rfl | exact sBld (by repeat' (first | exact trivial | rfl | exact Nat.le_of_ble_eq_true rfl | refine And.intro ?_ ?_)) rfl | exact sBS (by repeat' (first | exact trivial | rfl | exact Nat.le_of_ble_eq_true rfl | refine And.intro ?_ ?_)) rfl rfl rfl rfl | exact sBSF (by repeat' (first | exact trivial | rfl | exact Nat.le_of_ble_eq_true rfl | refine And.intro ?_ ?_)) rfl rfl rfl rfl | exact sLe rfl | exact Chk.mk (by kernel_rfl) | exact ⟨Chk.mk (by kernel_rfl)⟩ | exact sLeEq rfl rfl | refine fun h => ?_)
  refine W.sub ⟨10, 1, [(0, .agg [i6 x.p, .tr true (B 1).B (B 1).u (x.votes.map Vote.cells)]), (1, oi k), (2, .one (.ptr 0 0 0))], [(0, .box [i6 x.p, .tr true (B 1).B (B 1).u (x.votes.map Vote.cells)])]⟩ [] ?_ ?_
  · repeat' (first | exact trivial | exact Side.mk rfl | exact Chk.mk (by kernel_rfl) | exact ⟨Chk.mk (by kernel_rfl)⟩ | refine And.intro ?_ ?_ | rfl)
  have q1 := k_markVoteS x.votes (k) (by omega) (by omega) hx.1 hx.2
  have q2 := tmark_eq (k2 := k + ctVotes x.votes) q1 (by rfl)
  refine W.go [(8, .mark (fun _ _ => (.one (.fz ((mkVotes x.votes (k)).map Vote.cells)), k + ctVotes x.votes)) [2] [(0, [(1, 0)])] [0] [(0, 0, 1)])] TTok hmo ?_
  repeat' (first | refine And.intro ?_ ?_ | exact tf | exact ft | refine tt ?_ | refine ff ?_ | exact ⟨trivial⟩ | exact sAll rfl | exact sF1 rfl | exact sBld (by repeat' (first | exact trivial | rfl | exact Nat.le_of_ble_eq_true rfl | refine And.intro ?_ ?_)) rfl | exact sBS (by repeat' (first | exact trivial | rfl | exact Nat.le_of_ble_eq_true rfl | refine And.intro ?_ ?_)) rfl rfl rfl rfl | exact sBSF (by repeat' (first | exact trivial | rfl | exact Nat.le_of_ble_eq_true rfl | refine And.intro ?_ ?_)) rfl rfl rfl rfl | exact sLe rfl | exact Chk.mk (by kernel_rfl) | exact ⟨Chk.mk (by kernel_rfl)⟩ | exact sLeEq rfl rfl | refine fun h => ?_)
  all_goals try (exact ⟨apart_one⟩)
  all_goals try (exact Side.mk q2)
  all_goals try (exact trivial)
  all_goals try (exact Side.mk (.ptr _ _ _))
  all_goals try (repeat' (first | exact trivial | exact Side.mk (.sc _) | exact Side.mk (.mk _ _ _ _ (List.Mem.head _)) | exact Side.mk (.tr _ _ _ _ fun y h1 h2 => absurd (hB _ _ y h1 h2) (by decide)) | refine And.intro ?_ ?_); done)
  all_goals first | exact ⟨⟨trivial, trivial⟩⟩ | exact ⟨rfl⟩ | exact ⟨trivial⟩ | exact ⟨by repeat' constructor⟩

end Mg

/- How much there is to number; blocks apart. No condition. -/
namespace Mg
open Go Go.RowKit
set_option linter.unusedVariables false
theorem ctVotes_bd {vs : List Vote} (hl : vs.length ≤ lim) (h : ∀ v ∈ vs, v.ok lim) : 0 ≤ ctVotes vs ∧ ctVotes vs ≤ 6000000000000 := by
  have hl : vs.length ≤ 1048576 := hl
  have := ctL_bd (ct := ctVote) (M := 5000001) (xs := vs) fun x hx => ctVote_bd (h x hx)
  unfold ctVotes
  omega
theorem ctL_tot {α : Type} [Inhabited α] {ct : α → Int} : ∀ {xs : List α}, (∀ x ∈ xs, 0 ≤ ct x) → ∀ i, 0 ≤ ctL ct (xs.take i) ∧ ctL ct (xs.take i) ≤ ctL ct xs
  | [], _, i => by simp [ctL]
  | x :: xs, h, 0 => by
    have h1 := h x (by simp)
    have h2 := ctL_tot (ct := ct) (xs := xs) (fun y hy => h y (List.mem_cons_of_mem _ hy)) xs.length
    rw [List.take_length] at h2
    simp only [List.take_zero, ctL]; omega
  | x :: xs, h, i + 1 => by
    have h1 := h x (by simp)
    have h2 := ctL_tot (ct := ct) (xs := xs) (fun y hy => h y (List.mem_cons_of_mem _ hy)) i
    simp only [List.take_succ_cons, ctL]; omega
theorem ctEntries_bd {vs : List Entry} (h : EntriesOk lim vs) : 0 ≤ ctEntries vs ∧ ctEntries vs ≤ 6000000000000 := by
  have hl : vs.length ≤ 1048576 := h.1
  have := ctL_bd (ct := ctEntry) (M := 5000000) (xs := vs) fun x hx => ctEntry_bd (h.2 x hx)
  unfold ctEntries
  omega
theorem in_any {T : Nat → Nat → Tk} {y : Nat} {i o : Nat} {cs0 : List MC} (h : in1 y (.agg (labRow true (T i) o cs0))) (hp : cs0.all plainC = true := by rfl) : Any T y := by
  obtain ⟨c, hc, h2⟩ := h
  obtain ⟨j, hj⟩ := List.getElem?_of_mem hc
  rw [labRow_get] at hj
  obtain ⟨d, hd, rfl⟩ := Option.map_eq_some_iff.1 hj
  have hpc := List.all_eq_true.1 hp d (List.mem_of_getElem? hd)
  refine ⟨i, o + j, ?_⟩
  cases d <;> first | exact h2.elim | exact h2 | cases hpc
theorem in_dis {N : Bk} {y : Nat} {cs : List MC} (hd : ∀ c ∈ cs, disC N c) (h : in1 y (.agg cs)) : ¬ N y := by
  obtain ⟨c, hc, h2⟩ := h
  have := hd c hc
  cases c <;> first | exact h2.elim | exact this y h2
theorem disAt {N : Bk} {cs : List MC} (hd : ∀ c ∈ cs, disC N c) (j : Nat) {o : Bool} {B : Bk} {u : Value} {rows : List (List MC)} (h : cs[j]? = some (.tr o B u rows)) : ∀ x, B x → ¬ N x := hd _ (List.mem_of_getElem? h)
def ctRun (r : Run) : Int := 2 * (r.reads.length : Int) + 2 * (r.puts.length : Int)
theorem ctRun_bd {e : Entry} (h : e.ok lim) : 0 ≤ ctRun e.run ∧ ctRun e.run ≤ 6000000000000 := by
  have h1 : e.run.reads.length ≤ 1048576 := h.1
  have h2 : e.run.puts.length ≤ 1048576 := h.2
  unfold ctRun; omega
end Mg
