/- Entries and votes, numbered. No condition. -/
import Derived.Test.YtedgmfmhilihoaaP16
namespace Mg
open Go Go.RowKit
set_option maxRecDepth 100000
set_option linter.unusedVariables false
set_option linter.unusedSimpArgs false
attribute [local irreducible] W Pure

theorem k_markEntryS (xs : List Entry) (k : Int) (hk0 : 0 ≤ k) (hk1 : k ≤ 3000000000000000000) (hx : xs.length ≤ lim) (hv : ∀ v ∈ xs, v.ok lim) : TMark PP 15 (.one (.fz (xs.map Entry.cells))) k (.one (.fz ((mkL mkEntry ctEntry xs k).map Entry.cells))) (k + ctL ctEntry xs) := by
  have hx0 : xs.length ≤ 1048576 := hx
  have hbd : ∀ x ∈ xs, 0 ≤ ctEntry x ∧ ctEntry x ≤ 5000000 := fun x hx => ctEntry_bd (hv x hx)
  refine TMark.vcL (fun B => []) TTok hmo Go.Proofs.Try.func15 (by kernel_rfl) rfl (by kernel_rfl) (allF Entry.frz) (allF Entry.frz) (fun B hB => ?_)
  repeat' (first | refine And.intro ?_ ?_ | exact tf | exact ft | refine tt ?_ | refine ff ?_ | exact ⟨trivial⟩ | exact sAll rfl | exact sF1 rfl | exact sBld (by repeat' (first | exact trivial | rfl | exact Nat.le_of_ble_eq_true rfl | refine And.intro ?_ ?_)) rfl | exact sBS (by repeat' (first | exact trivial | rfl | exact Nat.le_of_ble_eq_true rfl | refine And.intro ?_ ?_)) rfl rfl rfl rfl | exact sBSF (by repeat' (first | exact trivial | rfl | exact Nat.le_of_ble_eq_true rfl | refine And.intro ?_ ?_)) rfl rfl rfl rfl | exact sLe rfl | exact Chk.mk (by kernel_rfl) | exact ⟨Chk.mk (by kernel_rfl)⟩ | exact sLeEq rfl rfl | refine fun h => ?_)
  refine W.loopC (D := Nat) (fun i => [(800004, .row [])]) TTok hmo (fun i => ⟨70, 1, [(0, .one (.ref 0 0 xs.length)), (1, oi (k + ctL ctEntry (xs.take i))), (5, oi i)], [(0, .arr (labR true B 0 ((mkUp mkEntry ctEntry xs k i).map Entry.cells)))]⟩) (fun i => xs.length - i) (fun i => i ≤ xs.length) 0 [] (Nat.zero_le _) ?_ ?_
  · repeat' (first | exact trivial | exact Side.mk rfl | exact Chk.mk (by kernel_rfl) | exact ⟨Chk.mk (by kernel_rfl)⟩ | exact sFlatL (allF Entry.frz) | exact sUp0 | exact sK0 | exact sLenM | refine And.intro ?_ ?_ | rfl)
  · intro i hi
    repeat' (first | refine And.intro ?_ ?_ | exact tf | exact ft | refine tt ?_ | refine ff ?_ | exact ⟨trivial⟩ | exact sAll rfl | exact sF1 rfl | exact sBld (by repeat' (first | exact trivial | rfl | exact Nat.le_of_ble_eq_true rfl | refine And.intro ?_ ?_)) rfl | exact sBS (by repeat' (first | exact trivial | rfl | exact Nat.le_of_ble_eq_true rfl | refine And.intro ?_ ?_)) rfl rfl rfl rfl | exact sBSF (by repeat' (first | exact trivial | rfl | exact Nat.le_of_ble_eq_true rfl | refine And.intro ?_ ?_)) rfl rfl rfl rfl | exact sLe rfl | exact Chk.mk (by kernel_rfl) | exact ⟨Chk.mk (by kernel_rfl)⟩ | exact sLeEq rfl rfl | refine fun h => ?_)
    · have hl : i < xs.length := by have := of_decide_eq_true h; omega
      have hct := ctL_bdt (i := i) (M := 5000000) (by decide) hbd
      have hce := hbd _ (getD_mem hl)
      have hct1 := ctL_take (ct := ctEntry) hl
      have hMb : (xs.length : Int) * 5000000 ≤ 10000000000000000 := by omega
      have hget : (labR true B 0 ((mkUp mkEntry ctEntry xs k i).map Entry.cells))[i]? = some (labRow true (B i) 0 (Entry.cells (xs.getD i default))) := lab_map_get (mkUp_get hl)
      have hlr : i < (labR true B 0 ((mkUp mkEntry ctEntry xs k i).map Entry.cells)).length := by rw [labR_len, List.length_map, mkUp_len]; exact hl
      have hl2 : i < ((mkUp mkEntry ctEntry xs k i).map Entry.cells).length := by rw [List.length_map, mkUp_len]; exact hl
      have hn : xs.length = (labR true B 0 ((mkUp mkEntry ctEntry xs k i).map Entry.cells)).length := by rw [labR_len, List.length_map, mkUp_len]
      have hfl : ∀ r ∈ (labR true B 0 ((mkUp mkEntry ctEntry xs k i).map Entry.cells)), ∀ c ∈ r, c.flat = true := lab_flat (allF Entry.frz)
      have hup := mkUp_set (f := mkEntry) (ct := ctEntry) (k := k) hl
      have hkf : k + ctL ctEntry (xs.take (i + 1)) = k + ctL ctEntry (xs.take i) + ctEntry (xs.getD i default) := by omega
      generalize hkk : k + ctL ctEntry (xs.take i) = kk at *
      generalize hxx : xs.getD i default = x at *
      have hxo := hv x (by rw [← hxx]; exact getD_mem hl)
      have hcx : ctEntry x = 5 + 2 * (x.run.reads.length : Int) + 2 * (x.run.puts.length : Int) := rfl
      rw [hcx] at hkf hce
      refine W.sub ⟨70, 1, [(0, .one (.ref 0 0 xs.length)), (1, oi (kk)), (5, oi i)], [(0, .arr ((labR true B 0 ((mkUp mkEntry ctEntry xs k i).map Entry.cells)).set i [bo x.none, i6 x.q.a, i6 x.q.b, .tr true (B i 3).B (B i 3).u (x.run.reads.map Two.cells), .tr true (B i 4).B (B i 4).u (x.run.puts.map Two.cells), i6 x.run.c, i6 x.run.d]))]⟩ [] ?_ ?_
      · repeat' (first | exact trivial | exact Side.mk rfl | exact Chk.mk (by kernel_rfl) | exact ⟨Chk.mk (by kernel_rfl)⟩ | exact sSet0 hget | exact sFlatN hfl rfl | exact ⟨rfl⟩ | refine And.intro ?_ ?_ | rfl)
      refine W.go [(800006, .row [])] TTok hmo ?_
      repeat' (first | refine And.intro ?_ ?_ | exact tf | exact ft | refine tt ?_ | refine ff ?_ | exact ⟨trivial⟩ | exact sAll rfl | exact sF1 rfl | exact sBld (by repeat' (first | exact trivial | rfl | exact Nat.le_of_ble_eq_true rfl | refine And.intro ?_ ?_)) rfl | exact sBS (by repeat' (first | exact trivial | rfl | exact Nat.le_of_ble_eq_true rfl | refine And.intro ?_ ?_)) rfl rfl rfl rfl | exact sBSF (by repeat' (first | exact trivial | rfl | exact Nat.le_of_ble_eq_true rfl | refine And.intro ?_ ?_)) rfl rfl rfl rfl | exact sLe rfl | exact Chk.mk (by kernel_rfl) | exact ⟨Chk.mk (by kernel_rfl)⟩ | exact sLeEq rfl rfl | refine fun h => ?_)
      all_goals try (exact sIxN hlr rfl hn rfl)
      all_goals try (exact sStN hlr (by simp) rfl rfl)
      all_goals try (exact fun hq => absurd hq (by decide))
      all_goals try (exact ⟨fun hq => absurd hq (by decide)⟩)
      refine W.sub ⟨70, 1, [(0, .one (.ref 0 0 xs.length)), (1, oi (kk + 1)), (5, oi i)], [(0, .arr ((labR true B 0 ((mkUp mkEntry ctEntry xs k i).map Entry.cells)).set i [bo (mkB (kk)), i6 x.q.a, i6 x.q.b, .tr true (B i 3).B (B i 3).u (x.run.reads.map Two.cells), .tr true (B i 4).B (B i 4).u (x.run.puts.map Two.cells), i6 x.run.c, i6 x.run.d]))]⟩ [] ?_ ?_
      · repeat' (first | exact trivial | exact Side.mk rfl | exact Chk.mk (by kernel_rfl) | exact ⟨Chk.mk (by kernel_rfl)⟩ | exact sSetN hlr (by simp) rfl | exact sFlatN hfl rfl | exact sWrap (by omega) (by omega) (by omega) | refine And.intro ?_ ?_ | rfl)
      refine W.go [(800008, .row [])] TTok hmo ?_
      repeat' (first | refine And.intro ?_ ?_ | exact tf | exact ft | refine tt ?_ | refine ff ?_ | exact ⟨trivial⟩ | exact sAll rfl | exact sF1 rfl | exact sBld (by repeat' (first | exact trivial | rfl | exact Nat.le_of_ble_eq_true rfl | refine And.intro ?_ ?_)) rfl | exact sBS (by repeat' (first | exact trivial | rfl | exact Nat.le_of_ble_eq_true rfl | refine And.intro ?_ ?_)) rfl rfl rfl rfl | exact sBSF (by repeat' (first | exact trivial | rfl | exact Nat.le_of_ble_eq_true rfl | refine And.intro ?_ ?_)) rfl rfl rfl rfl | exact sLe rfl | exact Chk.mk (by kernel_rfl) | exact ⟨Chk.mk (by kernel_rfl)⟩ | exact sLeEq rfl rfl | refine fun h => ?_)
      all_goals try (exact sIxN hlr rfl hn rfl)
      all_goals try (exact sStN hlr (by simp) rfl rfl)
      all_goals try (exact fun hq => absurd hq (by decide))
      all_goals try (exact ⟨fun hq => absurd hq (by decide)⟩)
      refine W.sub ⟨70, 1, [(0, .one (.ref 0 0 xs.length)), (1, oi (kk + 2)), (5, oi i)], [(0, .arr ((labR true B 0 ((mkUp mkEntry ctEntry xs k i).map Entry.cells)).set i [bo (mkB (kk)), i6 (kk + 1), i6 x.q.b, .tr true (B i 3).B (B i 3).u (x.run.reads.map Two.cells), .tr true (B i 4).B (B i 4).u (x.run.puts.map Two.cells), i6 x.run.c, i6 x.run.d]))]⟩ [] ?_ ?_
      · repeat' (first | exact trivial | exact Side.mk rfl | exact Chk.mk (by kernel_rfl) | exact ⟨Chk.mk (by kernel_rfl)⟩ | exact sSetN hlr (by simp) rfl | exact sFlatN hfl rfl | exact sWrap (by omega) (by omega) (by omega) | refine And.intro ?_ ?_ | rfl)
      refine W.go [(800010, .row [])] TTok hmo ?_
      repeat' (first | refine And.intro ?_ ?_ | exact tf | exact ft | refine tt ?_ | refine ff ?_ | exact ⟨trivial⟩ | exact sAll rfl | exact sF1 rfl | exact sBld (by repeat' (first | exact trivial | rfl | exact Nat.le_of_ble_eq_true rfl | refine And.intro ?_ ?_)) rfl | exact sBS (by repeat' (first | exact trivial | rfl | exact Nat.le_of_ble_eq_true rfl | refine And.intro ?_ ?_)) rfl rfl rfl rfl | exact sBSF (by repeat' (first | exact trivial | rfl | exact Nat.le_of_ble_eq_true rfl | refine And.intro ?_ ?_)) rfl rfl rfl rfl | exact sLe rfl | exact Chk.mk (by kernel_rfl) | exact ⟨Chk.mk (by kernel_rfl)⟩ | exact sLeEq rfl rfl | refine fun h => ?_)
      all_goals try (exact sIxN hlr rfl hn rfl)
      all_goals try (exact sStN hlr (by simp) rfl rfl)
      all_goals try (exact fun hq => absurd hq (by decide))
      all_goals try (exact ⟨fun hq => absurd hq (by decide)⟩)
      refine W.sub ⟨70, 1, [(0, .one (.ref 0 0 xs.length)), (1, oi (kk + 3)), (5, oi i)], [(0, .arr ((labR true B 0 ((mkUp mkEntry ctEntry xs k i).map Entry.cells)).set i [bo (mkB (kk)), i6 (kk + 1), i6 (kk + 2), .tr true (B i 3).B (B i 3).u (x.run.reads.map Two.cells), .tr true (B i 4).B (B i 4).u (x.run.puts.map Two.cells), i6 x.run.c, i6 x.run.d]))]⟩ [] ?_ ?_
      · repeat' (first | exact trivial | exact Side.mk rfl | exact Chk.mk (by kernel_rfl) | exact ⟨Chk.mk (by kernel_rfl)⟩ | exact sSetN hlr (by simp) rfl | exact sFlatN hfl rfl | exact sWrap (by omega) (by omega) (by omega) | refine And.intro ?_ ?_ | rfl)
      have q1 := k_markReadS x.run.reads (kk + 3) (by omega) (by omega) hxo.1
      have q2 := tmark_eq (k2 := kk + 3 + 2 * (x.run.reads.length : Int)) q1 (by have := ctTwos x.run.reads; omega)
      refine W.go [(800011, .row []), (42, .res (.one (.tr true (B i 3).B (B i 3).u (x.run.reads.map Two.cells)))), (44, .mark (fun _ _ => (.one (.fz ((mkTwos x.run.reads (kk + 3)).map Two.cells)), kk + 3 + 2 * (x.run.reads.length : Int))) [0, 5] [] [0] [(0, i, 3)])] TTok hmo ?_
      repeat' (first | refine And.intro ?_ ?_ | exact tf | exact ft | refine tt ?_ | refine ff ?_ | exact ⟨trivial⟩ | exact sAll rfl | exact sF1 rfl | exact sBld (by repeat' (first | exact trivial | rfl | exact Nat.le_of_ble_eq_true rfl | refine And.intro ?_ ?_)) rfl | exact sBS (by repeat' (first | exact trivial | rfl | exact Nat.le_of_ble_eq_true rfl | refine And.intro ?_ ?_)) rfl rfl rfl rfl | exact sBSF (by repeat' (first | exact trivial | rfl | exact Nat.le_of_ble_eq_true rfl | refine And.intro ?_ ?_)) rfl rfl rfl rfl | exact sLe rfl | exact Chk.mk (by kernel_rfl) | exact ⟨Chk.mk (by kernel_rfl)⟩ | exact sLeEq rfl rfl | refine fun h => ?_)
      all_goals try (exact ⟨apart_one⟩)
      all_goals try (exact sIxN hlr rfl hn rfl)
      all_goals try (refine Side.mk ?_; simp only [Int.toNat_natCast, setGet hlr]; exact ⟨Nat.le_of_ble_eq_true rfl, rfl⟩; done)
      all_goals try (exact Side.mk q2)
      all_goals try (exact trivial)
      all_goals try (exact Side.mk (.ref _ _ _))
      all_goals try (exact Side.mk (.sc _))
      all_goals try (exact sUpN hB rfl (allF Entry.frz) hl2 rfl rfl (by repeat' (first | exact trivial | exact ⟨.sc _⟩ | exact ⟨.mk _ _ _ _ (List.Mem.head _)⟩ | exact ⟨.tr _ _ _ _ fun y h1 h2 => absurd (hB _ _ _ _ y h1 h2).2 (by decide)⟩ | refine And.intro ?_ ?_)))
      refine W.sub ⟨70, 1, [(0, .one (.ref 0 0 xs.length)), (1, oi (kk + 3 + 2 * (x.run.reads.length : Int))), (5, oi i)], [(0, .arr ((labR true B 0 ((mkUp mkEntry ctEntry xs k i).map Entry.cells)).set i [bo (mkB (kk)), i6 (kk + 1), i6 (kk + 2), .tr true (B i 3).B (B i 3).u ((mkTwos x.run.reads (kk + 3)).map Two.cells), .tr true (B i 4).B (B i 4).u (x.run.puts.map Two.cells), i6 x.run.c, i6 x.run.d]))]⟩ [] ?_ ?_
      · repeat' (first | exact trivial | exact Side.mk rfl | exact Chk.mk (by kernel_rfl) | exact ⟨Chk.mk (by kernel_rfl)⟩ | exact sSetM hlr rfl rfl | exact sFlatN hfl rfl | exact ⟨by omega⟩ | refine And.intro ?_ ?_ | rfl)
      have q1 := k_markPutS x.run.puts (kk + 3 + 2 * (x.run.reads.length : Int)) (by omega) (by omega) hxo.2
      have q2 := tmark_eq (k2 := kk + 3 + 2 * (x.run.reads.length : Int) + 2 * (x.run.puts.length : Int)) q1 (by have := ctTwos x.run.puts; omega)
      refine W.go [(800012, .row []), (50, .res (.one (.tr true (B i 4).B (B i 4).u (x.run.puts.map Two.cells)))), (52, .mark (fun _ _ => (.one (.fz ((mkTwos x.run.puts (kk + 3 + 2 * (x.run.reads.length : Int))).map Two.cells)), kk + 3 + 2 * (x.run.reads.length : Int) + 2 * (x.run.puts.length : Int))) [0, 5] [] [0] [(0, i, 4)])] TTok hmo ?_
      repeat' (first | refine And.intro ?_ ?_ | exact tf | exact ft | refine tt ?_ | refine ff ?_ | exact ⟨trivial⟩ | exact sAll rfl | exact sF1 rfl | exact sBld (by repeat' (first | exact trivial | rfl | exact Nat.le_of_ble_eq_true rfl | refine And.intro ?_ ?_)) rfl | exact sBS (by repeat' (first | exact trivial | rfl | exact Nat.le_of_ble_eq_true rfl | refine And.intro ?_ ?_)) rfl rfl rfl rfl | exact sBSF (by repeat' (first | exact trivial | rfl | exact Nat.le_of_ble_eq_true rfl | refine And.intro ?_ ?_)) rfl rfl rfl rfl | exact sLe rfl | exact Chk.mk (by kernel_rfl) | exact ⟨Chk.mk (by kernel_rfl)⟩ | exact sLeEq rfl rfl | refine fun h => ?_)
      all_goals try (exact ⟨apart_one⟩)
      all_goals try (exact sIxN hlr rfl hn rfl)
      all_goals try (refine Side.mk ?_; simp only [Int.toNat_natCast, setGet hlr]; exact ⟨Nat.le_of_ble_eq_true rfl, rfl⟩; done)
      all_goals try (exact Side.mk q2)
      all_goals try (exact trivial)
      all_goals try (exact Side.mk (.ref _ _ _))
      all_goals try (exact Side.mk (.sc _))
      all_goals try (exact sUpN hB rfl (allF Entry.frz) hl2 rfl rfl (by repeat' (first | exact trivial | exact ⟨.sc _⟩ | exact ⟨.mk _ _ _ _ (List.Mem.head _)⟩ | exact ⟨.tr _ _ _ _ fun y h1 h2 => absurd (hB _ _ _ _ y h1 h2).2 (by decide)⟩ | refine And.intro ?_ ?_)))
      refine W.sub ⟨70, 1, [(0, .one (.ref 0 0 xs.length)), (1, oi (kk + 3 + 2 * (x.run.reads.length : Int) + 2 * (x.run.puts.length : Int))), (5, oi i)], [(0, .arr ((labR true B 0 ((mkUp mkEntry ctEntry xs k i).map Entry.cells)).set i [bo (mkB (kk)), i6 (kk + 1), i6 (kk + 2), .tr true (B i 3).B (B i 3).u ((mkTwos x.run.reads (kk + 3)).map Two.cells), .tr true (B i 4).B (B i 4).u ((mkTwos x.run.puts (kk + 3 + 2 * (x.run.reads.length : Int))).map Two.cells), i6 x.run.c, i6 x.run.d]))]⟩ [] ?_ ?_
      · repeat' (first | exact trivial | exact Side.mk rfl | exact Chk.mk (by kernel_rfl) | exact ⟨Chk.mk (by kernel_rfl)⟩ | exact sSetM hlr rfl rfl | exact sFlatN hfl rfl | exact ⟨by omega⟩ | refine And.intro ?_ ?_ | rfl)
      refine W.go [(800014, .row [])] TTok hmo ?_
      repeat' (first | refine And.intro ?_ ?_ | exact tf | exact ft | refine tt ?_ | refine ff ?_ | exact ⟨trivial⟩ | exact sAll rfl | exact sF1 rfl | exact sBld (by repeat' (first | exact trivial | rfl | exact Nat.le_of_ble_eq_true rfl | refine And.intro ?_ ?_)) rfl | exact sBS (by repeat' (first | exact trivial | rfl | exact Nat.le_of_ble_eq_true rfl | refine And.intro ?_ ?_)) rfl rfl rfl rfl | exact sBSF (by repeat' (first | exact trivial | rfl | exact Nat.le_of_ble_eq_true rfl | refine And.intro ?_ ?_)) rfl rfl rfl rfl | exact sLe rfl | exact Chk.mk (by kernel_rfl) | exact ⟨Chk.mk (by kernel_rfl)⟩ | exact sLeEq rfl rfl | refine fun h => ?_)
      all_goals try (exact sIxN hlr rfl hn rfl)
      all_goals try (exact sStN hlr (by simp) rfl rfl)
      all_goals try (exact fun hq => absurd hq (by decide))
      all_goals try (exact ⟨fun hq => absurd hq (by decide)⟩)
      refine W.sub ⟨70, 1, [(0, .one (.ref 0 0 xs.length)), (1, oi (kk + 4 + 2 * (x.run.reads.length : Int) + 2 * (x.run.puts.length : Int))), (5, oi i)], [(0, .arr ((labR true B 0 ((mkUp mkEntry ctEntry xs k i).map Entry.cells)).set i [bo (mkB (kk)), i6 (kk + 1), i6 (kk + 2), .tr true (B i 3).B (B i 3).u ((mkTwos x.run.reads (kk + 3)).map Two.cells), .tr true (B i 4).B (B i 4).u ((mkTwos x.run.puts (kk + 3 + 2 * (x.run.reads.length : Int))).map Two.cells), i6 (kk + 3 + 2 * (x.run.reads.length : Int) + 2 * (x.run.puts.length : Int)), i6 x.run.d]))]⟩ [] ?_ ?_
      · repeat' (first | exact trivial | exact Side.mk rfl | exact Chk.mk (by kernel_rfl) | exact ⟨Chk.mk (by kernel_rfl)⟩ | exact sSetN hlr (by simp) rfl | exact sFlatN hfl rfl | exact sWrap (by omega) (by omega) (by omega) | refine And.intro ?_ ?_ | rfl)
      refine W.go [] TTok hmo ?_
      repeat' (first | refine And.intro ?_ ?_ | exact tf | exact ft | refine tt ?_ | refine ff ?_ | exact ⟨trivial⟩ | exact sAll rfl | exact sF1 rfl | exact sBld (by repeat' (first | exact trivial | rfl | exact Nat.le_of_ble_eq_true rfl | refine And.intro ?_ ?_)) rfl | exact sBS (by repeat' (first | exact trivial | rfl | exact Nat.le_of_ble_eq_true rfl | refine And.intro ?_ ?_)) rfl rfl rfl rfl | exact sBSF (by repeat' (first | exact trivial | rfl | exact Nat.le_of_ble_eq_true rfl | refine And.intro ?_ ?_)) rfl rfl rfl rfl | exact sLe rfl | exact Chk.mk (by kernel_rfl) | exact ⟨Chk.mk (by kernel_rfl)⟩ | exact sLeEq rfl rfl | refine fun h => ?_)
      all_goals try (exact sIxN hlr rfl hn rfl)
      all_goals try (exact sStN hlr (by simp) rfl rfl)
      all_goals try (exact fun hq => absurd hq (by decide))
      all_goals try (exact ⟨fun hq => absurd hq (by decide)⟩)
      refine ⟨i + 1, [], by omega, by omega, ?_⟩
      repeat' (first | exact trivial | exact Side.mk rfl | exact Chk.mk (by kernel_rfl) | exact ⟨Chk.mk (by kernel_rfl)⟩ | exact sFlatL (allF Entry.frz) | exact ⟨(congrArg (fun q => labR true B 0 (q.map Entry.cells)) hup.symm).trans ((lab_map_set (x := mkEntry x kk)).symm.trans (sSetN (r' := labRow true (B i) 0 (Entry.cells (mkEntry x kk))) hlr (by simp) rfl).h)⟩ | exact sWrap (by omega) (by omega) (by omega) | exact ⟨by omega⟩ | exact ⟨by dsimp only; omega⟩ | exact sWrap (by omega) (by omega) (by omega) | refine And.intro ?_ ?_ | rfl)
    all_goals (have hle : xs.length ≤ i := by have := of_decide_eq_false h; omega)
    all_goals first | exact ⟨⟨trivial, trivial⟩⟩ | exact sKE hle | exact sUpE hle | exact ⟨likeR_map (mkL_len _ _).symm fun _ _ => by repeat' constructor⟩

theorem k_markVoteS (xs : List Vote) (k : Int) (hk0 : 0 ≤ k) (hk1 : k ≤ 3000000000000000000) (hx : xs.length ≤ lim) (hv : ∀ v ∈ xs, v.ok lim) : TMark PP 58 (.one (.fz (xs.map Vote.cells))) k (.one (.fz ((mkL mkVote ctVote xs k).map Vote.cells))) (k + ctL ctVote xs) := by
  have hx0 : xs.length ≤ 1048576 := hx
  have hbd : ∀ x ∈ xs, 0 ≤ ctVote x ∧ ctVote x ≤ 5000001 := fun x hx => ctVote_bd (hv x hx)
  refine TMark.vcL (fun B => []) TTok hmo Go.Proofs.Try.func58 (by kernel_rfl) rfl (by kernel_rfl) (allF Vote.frz) (allF Vote.frz) (fun B hB => ?_)
  repeat' (first | refine And.intro ?_ ?_ | exact tf | exact ft | refine tt ?_ | refine ff ?_ | exact ⟨trivial⟩ | exact sAll rfl | exact sF1 rfl | exact sBld (by repeat' (first | exact trivial | rfl | exact Nat.le_of_ble_eq_true rfl | refine And.intro ?_ ?_)) rfl | exact sBS (by repeat' (first | exact trivial | rfl | exact Nat.le_of_ble_eq_true rfl | refine And.intro ?_ ?_)) rfl rfl rfl rfl | exact sBSF (by repeat' (first | exact trivial | rfl | exact Nat.le_of_ble_eq_true rfl | refine And.intro ?_ ?_)) rfl rfl rfl rfl | exact sLe rfl | exact Chk.mk (by kernel_rfl) | exact ⟨Chk.mk (by kernel_rfl)⟩ | exact sLeEq rfl rfl | refine fun h => ?_)
  refine W.loopC (D := Nat) (fun i => [(800004, .row [])]) TTok hmo (fun i => ⟨84, 1, [(0, .one (.ref 0 0 xs.length)), (1, oi (k + ctL ctVote (xs.take i))), (5, oi i)], [(0, .arr (labR true B 0 ((mkUp mkVote ctVote xs k i).map Vote.cells)))]⟩) (fun i => xs.length - i) (fun i => i ≤ xs.length) 0 [] (Nat.zero_le _) ?_ ?_
  · repeat' (first | exact trivial | exact Side.mk rfl | exact Chk.mk (by kernel_rfl) | exact ⟨Chk.mk (by kernel_rfl)⟩ | exact sFlatL (allF Vote.frz) | exact sUp0 | exact sK0 | exact sLenM | refine And.intro ?_ ?_ | rfl)
  · intro i hi
    repeat' (first | refine And.intro ?_ ?_ | exact tf | exact ft | refine tt ?_ | refine ff ?_ | exact ⟨trivial⟩ | exact sAll rfl | exact sF1 rfl | exact sBld (by repeat' (first | exact trivial | rfl | exact Nat.le_of_ble_eq_true rfl | refine And.intro ?_ ?_)) rfl | exact sBS (by repeat' (first | exact trivial | rfl | exact Nat.le_of_ble_eq_true rfl | refine And.intro ?_ ?_)) rfl rfl rfl rfl | exact sBSF (by repeat' (first | exact trivial | rfl | exact Nat.le_of_ble_eq_true rfl | refine And.intro ?_ ?_)) rfl rfl rfl rfl | exact sLe rfl | exact Chk.mk (by kernel_rfl) | exact ⟨Chk.mk (by kernel_rfl)⟩ | exact sLeEq rfl rfl | refine fun h => ?_)
    · have hl : i < xs.length := by have := of_decide_eq_true h; omega
      have hct := ctL_bdt (i := i) (M := 5000001) (by decide) hbd
      have hce := hbd _ (getD_mem hl)
      have hct1 := ctL_take (ct := ctVote) hl
      have hMb : (xs.length : Int) * 5000001 ≤ 10000000000000000 := by omega
      have hget : (labR true B 0 ((mkUp mkVote ctVote xs k i).map Vote.cells))[i]? = some (labRow true (B i) 0 (Vote.cells (xs.getD i default))) := lab_map_get (mkUp_get hl)
      have hlr : i < (labR true B 0 ((mkUp mkVote ctVote xs k i).map Vote.cells)).length := by rw [labR_len, List.length_map, mkUp_len]; exact hl
      have hl2 : i < ((mkUp mkVote ctVote xs k i).map Vote.cells).length := by rw [List.length_map, mkUp_len]; exact hl
      have hn : xs.length = (labR true B 0 ((mkUp mkVote ctVote xs k i).map Vote.cells)).length := by rw [labR_len, List.length_map, mkUp_len]
      have hfl : ∀ r ∈ (labR true B 0 ((mkUp mkVote ctVote xs k i).map Vote.cells)), ∀ c ∈ r, c.flat = true := lab_flat (allF Vote.frz)
      have hup := mkUp_set (f := mkVote) (ct := ctVote) (k := k) hl
      have hkf : k + ctL ctVote (xs.take (i + 1)) = k + ctL ctVote (xs.take i) + ctVote (xs.getD i default) := by omega
      generalize hkk : k + ctL ctVote (xs.take i) = kk at *
      generalize hxx : xs.getD i default = x at *
      have hxo := hv x (by rw [← hxx]; exact getD_mem hl)
      have hcx : ctVote x = 6 + 2 * (x.e.run.reads.length : Int) + 2 * (x.e.run.puts.length : Int) := rfl
      rw [hcx] at hkf hce
      refine W.sub ⟨84, 1, [(0, .one (.ref 0 0 xs.length)), (1, oi (kk)), (5, oi i)], [(0, .arr ((labR true B 0 ((mkUp mkVote ctVote xs k i).map Vote.cells)).set i [i6 x.bal, bo x.e.none, i6 x.e.q.a, i6 x.e.q.b, .tr true (B i 4).B (B i 4).u (x.e.run.reads.map Two.cells), .tr true (B i 5).B (B i 5).u (x.e.run.puts.map Two.cells), i6 x.e.run.c, i6 x.e.run.d]))]⟩ [] ?_ ?_
      · repeat' (first | exact trivial | exact Side.mk rfl | exact Chk.mk (by kernel_rfl) | exact ⟨Chk.mk (by kernel_rfl)⟩ | exact sSet0 hget | exact sFlatN hfl rfl | exact ⟨rfl⟩ | refine And.intro ?_ ?_ | rfl)
      refine W.go [(800006, .row [])] TTok hmo ?_
      repeat' (first | refine And.intro ?_ ?_ | exact tf | exact ft | refine tt ?_ | refine ff ?_ | exact ⟨trivial⟩ | exact sAll rfl | exact sF1 rfl | exact sBld (by repeat' (first | exact trivial | rfl | exact Nat.le_of_ble_eq_true rfl | refine And.intro ?_ ?_)) rfl | exact sBS (by repeat' (first | exact trivial | rfl | exact Nat.le_of_ble_eq_true rfl | refine And.intro ?_ ?_)) rfl rfl rfl rfl | exact sBSF (by repeat' (first | exact trivial | rfl | exact Nat.le_of_ble_eq_true rfl | refine And.intro ?_ ?_)) rfl rfl rfl rfl | exact sLe rfl | exact Chk.mk (by kernel_rfl) | exact ⟨Chk.mk (by kernel_rfl)⟩ | exact sLeEq rfl rfl | refine fun h => ?_)
      all_goals try (exact sIxN hlr rfl hn rfl)
      all_goals try (exact sStN hlr (by simp) rfl rfl)
      all_goals try (exact fun hq => absurd hq (by decide))
      all_goals try (exact ⟨fun hq => absurd hq (by decide)⟩)
      refine W.sub ⟨84, 1, [(0, .one (.ref 0 0 xs.length)), (1, oi (kk + 1)), (5, oi i)], [(0, .arr ((labR true B 0 ((mkUp mkVote ctVote xs k i).map Vote.cells)).set i [i6 (kk), bo x.e.none, i6 x.e.q.a, i6 x.e.q.b, .tr true (B i 4).B (B i 4).u (x.e.run.reads.map Two.cells), .tr true (B i 5).B (B i 5).u (x.e.run.puts.map Two.cells), i6 x.e.run.c, i6 x.e.run.d]))]⟩ [] ?_ ?_
      · repeat' (first | exact trivial | exact Side.mk rfl | exact Chk.mk (by kernel_rfl) | exact ⟨Chk.mk (by kernel_rfl)⟩ | exact sSetN hlr (by simp) rfl | exact sFlatN hfl rfl | exact sWrap (by omega) (by omega) (by omega) | refine And.intro ?_ ?_ | rfl)
      refine W.go [(800008, .row [])] TTok hmo ?_
      repeat' (first | refine And.intro ?_ ?_ | exact tf | exact ft | refine tt ?_ | refine ff ?_ | exact ⟨trivial⟩ | exact sAll rfl | exact sF1 rfl | exact sBld (by repeat' (first | exact trivial | rfl | exact Nat.le_of_ble_eq_true rfl | refine And.intro ?_ ?_)) rfl | exact sBS (by repeat' (first | exact trivial | rfl | exact Nat.le_of_ble_eq_true rfl | refine And.intro ?_ ?_)) rfl rfl rfl rfl | exact sBSF (by repeat' (first | exact trivial | rfl | exact Nat.le_of_ble_eq_true rfl | refine And.intro ?_ ?_)) rfl rfl rfl rfl | exact sLe rfl | exact Chk.mk (by kernel_rfl) | exact ⟨Chk.mk (by kernel_rfl)⟩ | exact sLeEq rfl rfl | refine fun h => ?_)
      all_goals try (exact sIxN hlr rfl hn rfl)
      all_goals try (exact sStN hlr (by simp) rfl rfl)
      all_goals try (exact fun hq => absurd hq (by decide))
      all_goals try (exact ⟨fun hq => absurd hq (by decide)⟩)
      refine W.sub ⟨84, 1, [(0, .one (.ref 0 0 xs.length)), (1, oi (kk + 2)), (5, oi i)], [(0, .arr ((labR true B 0 ((mkUp mkVote ctVote xs k i).map Vote.cells)).set i [i6 (kk), bo (mkB (kk + 1)), i6 x.e.q.a, i6 x.e.q.b, .tr true (B i 4).B (B i 4).u (x.e.run.reads.map Two.cells), .tr true (B i 5).B (B i 5).u (x.e.run.puts.map Two.cells), i6 x.e.run.c, i6 x.e.run.d]))]⟩ [] ?_ ?_
      · repeat' (first | exact trivial | exact Side.mk rfl | exact Chk.mk (by kernel_rfl) | exact ⟨Chk.mk (by kernel_rfl)⟩ | exact sSetN hlr (by simp) rfl | exact sFlatN hfl rfl | exact sWrap (by omega) (by omega) (by omega) | refine And.intro ?_ ?_ | rfl)
      refine W.go [(800010, .row [])] TTok hmo ?_
      repeat' (first | refine And.intro ?_ ?_ | exact tf | exact ft | refine tt ?_ | refine ff ?_ | exact ⟨trivial⟩ | exact sAll rfl | exact sF1 rfl | exact sBld (by repeat' (first | exact trivial | rfl | exact Nat.le_of_ble_eq_true rfl | refine And.intro ?_ ?_)) rfl | exact sBS (by repeat' (first | exact trivial | rfl | exact Nat.le_of_ble_eq_true rfl | refine And.intro ?_ ?_)) rfl rfl rfl rfl | exact sBSF (by repeat' (first | exact trivial | rfl | exact Nat.le_of_ble_eq_true rfl | refine And.intro ?_ ?_)) rfl rfl rfl rfl | exact sLe rfl | exact Chk.mk (by kernel_rfl) | exact ⟨Chk.mk (by kernel_rfl)⟩ | exact sLeEq rfl rfl | refine fun h => ?_)
      all_goals try (exact sIxN hlr rfl hn rfl)
      all_goals try (exact sStN hlr (by simp) rfl rfl)
      all_goals try (exact fun hq => absurd hq (by decide))
      all_goals try (exact ⟨fun hq => absurd hq (by decide)⟩)
      refine W.sub ⟨84, 1, [(0, .one (.ref 0 0 xs.length)), (1, oi (kk + 3)), (5, oi i)], [(0, .arr ((labR true B 0 ((mkUp mkVote ctVote xs k i).map Vote.cells)).set i [i6 (kk), bo (mkB (kk + 1)), i6 (kk + 2), i6 x.e.q.b, .tr true (B i 4).B (B i 4).u (x.e.run.reads.map Two.cells), .tr true (B i 5).B (B i 5).u (x.e.run.puts.map Two.cells), i6 x.e.run.c, i6 x.e.run.d]))]⟩ [] ?_ ?_
      · repeat' (first | exact trivial | exact Side.mk rfl | exact Chk.mk (by kernel_rfl) | exact ⟨Chk.mk (by kernel_rfl)⟩ | exact sSetN hlr (by simp) rfl | exact sFlatN hfl rfl | exact sWrap (by omega) (by omega) (by omega) | refine And.intro ?_ ?_ | rfl)
      refine W.go [(800012, .row [])] TTok hmo ?_
      repeat' (first | refine And.intro ?_ ?_ | exact tf | exact ft | refine tt ?_ | refine ff ?_ | exact ⟨trivial⟩ | exact sAll rfl | exact sF1 rfl | exact sBld (by repeat' (first | exact trivial | rfl | exact Nat.le_of_ble_eq_true rfl | refine And.intro ?_ ?_)) rfl | exact sBS (by repeat' (first | exact trivial | rfl | exact Nat.le_of_ble_eq_true rfl | refine And.intro ?_ ?_)) rfl rfl rfl rfl | exact sBSF (by repeat' (first | exact trivial | rfl | exact Nat.le_of_ble_eq_true rfl | refine And.intro ?_ ?_)) rfl rfl rfl rfl | exact sLe rfl | exact Chk.mk (by kernel_rfl) | exact ⟨Chk.mk (by kernel_rfl)⟩ | exact sLeEq rfl rfl | refine fun h => ?_)
      all_goals try (exact sIxN hlr rfl hn rfl)
      all_goals try (exact sStN hlr (by simp) rfl rfl)
      all_goals try (exact fun hq => absurd hq (by decide))
      all_goals try (exact ⟨fun hq => absurd hq (by decide)⟩)
      refine W.sub ⟨84, 1, [(0, .one (.ref 0 0 xs.length)), (1, oi (kk + 4)), (5, oi i)], [(0, .arr ((labR true B 0 ((mkUp mkVote ctVote xs k i).map Vote.cells)).set i [i6 (kk), bo (mkB (kk + 1)), i6 (kk + 2), i6 (kk + 3), .tr true (B i 4).B (B i 4).u (x.e.run.reads.map Two.cells), .tr true (B i 5).B (B i 5).u (x.e.run.puts.map Two.cells), i6 x.e.run.c, i6 x.e.run.d]))]⟩ [] ?_ ?_
      · repeat' (first | exact trivial | exact Side.mk rfl | exact Chk.mk (by kernel_rfl) | exact ⟨Chk.mk (by kernel_rfl)⟩ | exact sSetN hlr (by simp) rfl | exact sFlatN hfl rfl | exact sWrap (by omega) (by omega) (by omega) | refine And.intro ?_ ?_ | rfl)
      have q1 := k_markReadS x.e.run.reads (kk + 4) (by omega) (by omega) hxo.1
      have q2 := tmark_eq (k2 := kk + 4 + 2 * (x.e.run.reads.length : Int)) q1 (by have := ctTwos x.e.run.reads; omega)
      refine W.go [(800013, .row []), (53, .res (.one (.tr true (B i 4).B (B i 4).u (x.e.run.reads.map Two.cells)))), (55, .mark (fun _ _ => (.one (.fz ((mkTwos x.e.run.reads (kk + 4)).map Two.cells)), kk + 4 + 2 * (x.e.run.reads.length : Int))) [0, 5] [] [0] [(0, i, 4)])] TTok hmo ?_
      repeat' (first | refine And.intro ?_ ?_ | exact tf | exact ft | refine tt ?_ | refine ff ?_ | exact ⟨trivial⟩ | exact sAll rfl | exact sF1 rfl | exact sBld (by repeat' (first | exact trivial | rfl | exact Nat.le_of_ble_eq_true rfl | refine And.intro ?_ ?_)) rfl | exact sBS (by repeat' (first | exact trivial | rfl | exact Nat.le_of_ble_eq_true rfl | refine And.intro ?_ ?_)) rfl rfl rfl rfl | exact sBSF (by repeat' (first | exact trivial | rfl | exact Nat.le_of_ble_eq_true rfl | refine And.intro ?_ ?_)) rfl rfl rfl rfl | exact sLe rfl | exact Chk.mk (by kernel_rfl) | exact ⟨Chk.mk (by kernel_rfl)⟩ | exact sLeEq rfl rfl | refine fun h => ?_)
      all_goals try (exact ⟨apart_one⟩)
      all_goals try (exact sIxN hlr rfl hn rfl)
      all_goals try (refine Side.mk ?_; simp only [Int.toNat_natCast, setGet hlr]; exact ⟨Nat.le_of_ble_eq_true rfl, rfl⟩; done)
      all_goals try (exact Side.mk q2)
      all_goals try (exact trivial)
      all_goals try (exact Side.mk (.ref _ _ _))
      all_goals try (exact Side.mk (.sc _))
      all_goals try (exact sUpN hB rfl (allF Vote.frz) hl2 rfl rfl (by repeat' (first | exact trivial | exact ⟨.sc _⟩ | exact ⟨.mk _ _ _ _ (List.Mem.head _)⟩ | exact ⟨.tr _ _ _ _ fun y h1 h2 => absurd (hB _ _ _ _ y h1 h2).2 (by decide)⟩ | refine And.intro ?_ ?_)))
      refine W.sub ⟨84, 1, [(0, .one (.ref 0 0 xs.length)), (1, oi (kk + 4 + 2 * (x.e.run.reads.length : Int))), (5, oi i)], [(0, .arr ((labR true B 0 ((mkUp mkVote ctVote xs k i).map Vote.cells)).set i [i6 (kk), bo (mkB (kk + 1)), i6 (kk + 2), i6 (kk + 3), .tr true (B i 4).B (B i 4).u ((mkTwos x.e.run.reads (kk + 4)).map Two.cells), .tr true (B i 5).B (B i 5).u (x.e.run.puts.map Two.cells), i6 x.e.run.c, i6 x.e.run.d]))]⟩ [] ?_ ?_
      · repeat' (first | exact trivial | exact Side.mk rfl | exact Chk.mk (by kernel_rfl) | exact ⟨Chk.mk (by kernel_rfl)⟩ | exact sSetM hlr rfl rfl | exact sFlatN hfl rfl | exact ⟨by omega⟩ | refine And.intro ?_ ?_ | rfl)
      have q1 := k_markPutS x.e.run.puts (kk + 4 + 2 * (x.e.run.reads.length : Int)) (by omega) (by omega) hxo.2
      have q2 := tmark_eq (k2 := kk + 4 + 2 * (x.e.run.reads.length : Int) + 2 * (x.e.run.puts.length : Int)) q1 (by have := ctTwos x.e.run.puts; omega)
      refine W.go [(800014, .row []), (62, .res (.one (.tr true (B i 5).B (B i 5).u (x.e.run.puts.map Two.cells)))), (64, .mark (fun _ _ => (.one (.fz ((mkTwos x.e.run.puts (kk + 4 + 2 * (x.e.run.reads.length : Int))).map Two.cells)), kk + 4 + 2 * (x.e.run.reads.length : Int) + 2 * (x.e.run.puts.length : Int))) [0, 5] [] [0] [(0, i, 5)])] TTok hmo ?_
      repeat' (first | refine And.intro ?_ ?_ | exact tf | exact ft | refine tt ?_ | refine ff ?_ | exact ⟨trivial⟩ | exact sAll rfl | exact sF1 rfl | exact sBld (by repeat' (first | exact trivial | rfl | exact Nat.le_of_ble_eq_true rfl | refine And.intro ?_ ?_)) rfl | exact sBS (by repeat' (first | exact trivial | rfl | exact Nat.le_of_ble_eq_true rfl | refine And.intro ?_ ?_)) rfl rfl rfl rfl | exact sBSF (by repeat' (first | exact trivial | rfl | exact Nat.le_of_ble_eq_true rfl | refine And.intro ?_ ?_)) rfl rfl rfl rfl | exact sLe rfl | exact Chk.mk (by kernel_rfl) | exact ⟨Chk.mk (by kernel_rfl)⟩ | exact sLeEq rfl rfl | refine fun h => ?_)
      all_goals try (exact ⟨apart_one⟩)
      all_goals try (exact sIxN hlr rfl hn rfl)
      all_goals try (refine Side.mk ?_; simp only [Int.toNat_natCast, setGet hlr]; exact ⟨Nat.le_of_ble_eq_true rfl, rfl⟩; done)
      all_goals try (exact Side.mk q2)
      all_goals try (exact trivial)
      all_goals try (exact Side.mk (.ref _ _ _))
      all_goals try (exact Side.mk (.sc _))
      all_goals try (exact sUpN hB rfl (allF Vote.frz) hl2 rfl rfl (by repeat' (first | exact trivial | exact ⟨.sc _⟩ | exact ⟨.mk _ _ _ _ (List.Mem.head _)⟩ | exact ⟨.tr _ _ _ _ fun y h1 h2 => absurd (hB _ _ _ _ y h1 h2).2 (by decide)⟩ | refine And.intro ?_ ?_)))
      refine W.sub ⟨84, 1, [(0, .one (.ref 0 0 xs.length)), (1, oi (kk + 4 + 2 * (x.e.run.reads.length : Int) + 2 * (x.e.run.puts.length : Int))), (5, oi i)], [(0, .arr ((labR true B 0 ((mkUp mkVote ctVote xs k i).map Vote.cells)).set i [i6 (kk), bo (mkB (kk + 1)), i6 (kk + 2), i6 (kk + 3), .tr true (B i 4).B (B i 4).u ((mkTwos x.e.run.reads (kk + 4)).map Two.cells), .tr true (B i 5).B (B i 5).u ((mkTwos x.e.run.puts (kk + 4 + 2 * (x.e.run.reads.length : Int))).map Two.cells), i6 x.e.run.c, i6 x.e.run.d]))]⟩ [] ?_ ?_
      · repeat' (first | exact trivial | exact Side.mk rfl | exact Chk.mk (by kernel_rfl) | exact ⟨Chk.mk (by kernel_rfl)⟩ | exact sSetM hlr rfl rfl | exact sFlatN hfl rfl | exact ⟨by omega⟩ | refine And.intro ?_ ?_ | rfl)
      refine W.go [(800016, .row [])] TTok hmo ?_
      repeat' (first | refine And.intro ?_ ?_ | exact tf | exact ft | refine tt ?_ | refine ff ?_ | exact ⟨trivial⟩ | exact sAll rfl | exact sF1 rfl | exact sBld (by repeat' (first | exact trivial | rfl | exact Nat.le_of_ble_eq_true rfl | refine And.intro ?_ ?_)) rfl | exact sBS (by repeat' (first | exact trivial | rfl | exact Nat.le_of_ble_eq_true rfl | refine And.intro ?_ ?_)) rfl rfl rfl rfl | exact sBSF (by repeat' (first | exact trivial | rfl | exact Nat.le_of_ble_eq_true rfl | refine And.intro ?_ ?_)) rfl rfl rfl rfl | exact sLe rfl | exact Chk.mk (by kernel_rfl) | exact ⟨Chk.mk (by kernel_rfl)⟩ | exact sLeEq rfl rfl | refine fun h => ?_)
      all_goals try (exact sIxN hlr rfl hn rfl)
      all_goals try (exact sStN hlr (by simp) rfl rfl)
      all_goals try (exact fun hq => absurd hq (by decide))
      all_goals try (exact ⟨fun hq => absurd hq (by decide)⟩)
      refine W.sub ⟨84, 1, [(0, .one (.ref 0 0 xs.length)), (1, oi (kk + 5 + 2 * (x.e.run.reads.length : Int) + 2 * (x.e.run.puts.length : Int))), (5, oi i)], [(0, .arr ((labR true B 0 ((mkUp mkVote ctVote xs k i).map Vote.cells)).set i [i6 (kk), bo (mkB (kk + 1)), i6 (kk + 2), i6 (kk + 3), .tr true (B i 4).B (B i 4).u ((mkTwos x.e.run.reads (kk + 4)).map Two.cells), .tr true (B i 5).B (B i 5).u ((mkTwos x.e.run.puts (kk + 4 + 2 * (x.e.run.reads.length : Int))).map Two.cells), i6 (kk + 4 + 2 * (x.e.run.reads.length : Int) + 2 * (x.e.run.puts.length : Int)), i6 x.e.run.d]))]⟩ [] ?_ ?_
      · repeat' (first | exact trivial | exact Side.mk rfl | exact Chk.mk (by kernel_rfl) | exact ⟨Chk.mk (by kernel_rfl)⟩ | exact sSetN hlr (by simp) rfl | exact sFlatN hfl rfl | exact sWrap (by omega) (by omega) (by omega) | refine And.intro ?_ ?_ | rfl)
      refine W.go [] TTok hmo ?_
      repeat' (first | refine And.intro ?_ ?_ | exact tf | exact ft | refine tt ?_ | refine ff ?_ | exact ⟨trivial⟩ | exact sAll rfl | exact sF1 rfl | exact sBld (by repeat' (first | exact trivial | rfl | exact Nat.le_of_ble_eq_true rfl | refine And.intro ?_ ?_)) rfl | exact sBS (by repeat' (first | exact trivial | rfl | exact Nat.le_of_ble_eq_true rfl | refine And.intro ?_ ?_)) rfl rfl rfl rfl | exact sBSF (by repeat' (first | exact trivial | rfl | exact Nat.le_of_ble_eq_true rfl | refine And.intro ?_ ?_)) rfl rfl rfl rfl | exact sLe rfl | exact Chk.mk (by kernel_rfl) | exact ⟨Chk.mk (by kernel_rfl)⟩ | exact sLeEq rfl rfl | refine fun h => ?_)
      all_goals try (exact sIxN hlr rfl hn rfl)
      all_goals try (exact sStN hlr (by simp) rfl rfl)
      all_goals try (exact fun hq => absurd hq (by decide))
      all_goals try (exact ⟨fun hq => absurd hq (by decide)⟩)
      refine ⟨i + 1, [], by omega, by omega, ?_⟩
      repeat' (first | exact trivial | exact Side.mk rfl | exact Chk.mk (by kernel_rfl) | exact ⟨Chk.mk (by kernel_rfl)⟩ | exact sFlatL (allF Vote.frz) | exact ⟨(congrArg (fun q => labR true B 0 (q.map Vote.cells)) hup.symm).trans ((lab_map_set (x := mkVote x kk)).symm.trans (sSetN (r' := labRow true (B i) 0 (Vote.cells (mkVote x kk))) hlr (by simp) rfl).h)⟩ | exact sWrap (by omega) (by omega) (by omega) | exact ⟨by omega⟩ | exact ⟨by dsimp only; omega⟩ | exact sWrap (by omega) (by omega) (by omega) | refine And.intro ?_ ?_ | rfl)
    all_goals (have hle : xs.length ≤ i := by have := of_decide_eq_false h; omega)
    all_goals first | exact ⟨⟨trivial, trivial⟩⟩ | exact sKE hle | exact sUpE hle | exact ⟨likeR_map (mkL_len _ _).symm fun _ _ => by repeat' constructor⟩

end Mg
