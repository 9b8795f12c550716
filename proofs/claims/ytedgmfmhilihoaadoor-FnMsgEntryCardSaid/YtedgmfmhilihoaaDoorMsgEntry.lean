/- FnMsgEntry: for all arguments, the law returns true and leaves its arguments as they were; the library's three tables hold what the program's text lays (the card ties them to the text). -/
import Derived.Test.YtedgmfmhilihoaaDoorRows
import Derived.Test.YtedgmfmhilihoaaDoorCards
import Derived.Test.YtedgmfmhilihoaaDoorTie
import Derived.Test.YtedgmfmhilihoaaDoorP20
import Derived.WalkKit
import Derived.ProofKit
import Derived.LaidMore
import Derived.OpenShut
import Derived.ShutString
import Derived.ChangeOld
import Derived.Below
import Derived.SizedLaws
import Derived.Stop.Joined
import Derived.Stop.LaidErr
import Derived.SevenTiedAt
namespace Go.Proofs.YtedgmfmhilihoaaDoor.fnMsgEntry
open Go.ChangeShapes Go.WideShapes Go.ChangeAt Go.RowKit
open Go.ChangeMaps (open_string shut_string)
set_option linter.unusedVariables false
theorem own : ownKnob Tryd.prog.godebug = none := by kernel_rfl
theorem laidOut : laidOutB Tryd.prog = true := by kernel_rfl
theorem door_met (os : Os) (args : Array Value) : laidMetH Tryd.prog Rows.fnMsgEntryRow.laid ((World.doorLaid Tryd.prog 400 os).forCall (fun _ _ => 0) ⟨#[], args, []⟩).memory :=
  laidMetH_of_parts3 (fuel := 8) (laidMet_of_run' 8 (by kernel_rfl) (by kernel_rfl)) (by kernel_rfl) (by kernel_rfl)
theorem gt_of {W : World} (h : laidMetH Tryd.prog Rows.fnMsgEntryRow.laid W) : Mg.GT Tryd.prog W (fun _ => False) := by
  rw [MakeChecks.laidMetH_plain _ _ _ (by kernel_rfl)] at h
  have ht : Lib.TabIs Tryd.prog W Mg.tabN .u64 Lib.pow10Tab := Lib.tabIs_of_head (g := 0) (t := 156) (e := 143) (n := 20) (by kernel_rfl) (by kernel_rfl) Tryd.underlying156 Tryd.underlying143 (by kernel_rfl) (by kernel_rfl) (laidMet.tail (laidMet.tail h))
  refine ⟨fun _ => ht, fun g hg => ⟨?_, id⟩⟩
  exact World.block_lt_of_cell? W _ (ht.cell hg 0 (by decide))
set_option maxRecDepth 100000 in
theorem lifted (os : Os) (started : os.Started) (H : Type) (enc : TypeId × Value → H) :
    ReturnsInHanded {} Tryd.checked os 4 .any (fun w args => (Rows.fnMsgEntrySpec.pre enc Tryd.prog Tryd.f4 [] false w args ∧ laidMetH Tryd.prog Rows.fnMsgEntryRow.laid w) ∧ sizedMet enc Tryd.prog Tryd.f4 (OpenSpec.ofChange Rows.fnMsgEntrySpec) false w args)
      (Rows.fnMsgEntrySpec.post enc Tryd.prog Tryd.f4 false true false false) := by
  refine returnsInHanded_of_change_and (C := Tryd.checked) (X := fun w _ => laidMetH Tryd.prog Rows.fnMsgEntryRow.laid w) (fun _ _ _ hh h => h.of_heap hh) own started (by kernel_rfl) Tryd.func4
    (ChangeSpec.witness_shaped (enc := enc) (C := Tryd.checked) (os := os) (X := fun w _ => laidMetH Tryd.prog Rows.fnMsgEntryRow.laid w) false (World.doorLaid Tryd.prog 400 os) #[.slice none 0 0, .slice none 0 0] 8 rfl (World.shaped_of_RefB (by kernel_rfl) (by kernel_rfl)) (by kernel_rfl) (by kernel_rfl) (by kernel_rfl) (door_met os _)) ?_
  intro W base args ds gs before hval0 hW _ _ hL _
  have hval : ∀ (j : Nat) t v, Tryd.f4.params[j]? = some t → args[j]? = some v → Value.okWide Tryd.prog W .any base t v := hval0
  have hW' := hW
  obtain ⟨p, q, hA0, hV, rfl, hfz, hnd⟩ := hW
  have hA : DataW.TrodAll enc Tryd.prog W 0 (fun _ => true) true Tryd.f4.params.toList args.toList ds p := hA0
  rw [Tryd.params4] at hA hval
  obtain ⟨v0, vs0, d0, ds0, p0, q0, hargs, rfl, rfl, h0, r0⟩ := trodAll_cons hA
  obtain ⟨v1, vs1, d1, ds1, p1, q1, rfl, rfl, rfl, h1, r1⟩ := trodAll_cons r0
  obtain ⟨rfl, rfl, rfl⟩ := trodAll_nil r1
  obtain rfl : args = #[v0, v1] := by cases args; simp_all
  obtain ⟨rfl, rfl⟩ := trodVars_none hV
  have hu0 := Mg.TOk.und_slice Mg.TTok (t := 42) (i := ⟨1, 24, .slice 5, [.nil]⟩) (e := 5) rfl rfl
  obtain ⟨a0, l0, c0, rfl⟩ := okWide_slice hu0 (hval 0 42 v0 rfl rfl)
  obtain ⟨n0, k0, hf0, hR0⟩ := Mg.FV_one Mg.TTok Mg.TTlay (t := 42) (i := ⟨1, 24, .slice 5, [.nil]⟩) rfl rfl rfl h0
  obtain ⟨x0, rfl, hx0⟩ := Mg.fit_code hf0
  have lt0 : ∀ x ∈ p0, x.block < W.heap.size := by obtain ⟨m, hm⟩ := h0; exact DataW.trod_lt m _ _ _ hm
  have hu1 := Mg.TOk.und_slice Mg.TTok (t := 42) (i := ⟨1, 24, .slice 5, [.nil]⟩) (e := 5) rfl rfl
  obtain ⟨a1, l1, c1, rfl⟩ := okWide_slice hu1 (hval 1 42 v1 rfl rfl)
  obtain ⟨n1, k1, hf1, hR1⟩ := Mg.FV_one Mg.TTok Mg.TTlay (t := 42) (i := ⟨1, 24, .slice 5, [.nil]⟩) rfl rfl rfl h1
  obtain ⟨x1, rfl, hx1⟩ := Mg.fit_code hf1
  have lt1 : ∀ x ∈ p1, x.block < W.heap.size := by obtain ⟨m, hm⟩ := h1; exact DataW.trod_lt m _ _ _ hm
  have main := (Mg.c_FnMsgEntry x0 x1 hx0 hx1).row W (fun b => b < W.heap.size) #[.slice a0 l0 c0, .slice a1 l1 c1] rfl (fun j x hj => by
    match j, hj with
    | 0, hj => obtain rfl := Option.some.inj hj; exact ⟨_, rfl, hR0⟩
    | 1, hj => obtain rfl := Option.some.inj hj; exact ⟨_, rfl, hR1⟩) (fun b hb => hb) (gt_of hL)
  refine main.mono fun e W' ⟨he, bel⟩ => ?_
  subst he
  exact ⟨_, rfl, _, _, _, [], _, [], hW', trodAll_mk1 (shut_bool Tryd.underlying4 _), (trodAll_cons_mk (Below.trod laidOut (by kernel_rfl) (of_decide_eq_true (by kernel_rfl)) h0 bel lt0) (trodAll_cons_mk (Below.trod laidOut (by kernel_rfl) (of_decide_eq_true (by kernel_rfl)) h1 bel lt1) trodAll_mk0)), rfl, bel.frame _, fun h => by cases h⟩
theorem over : Rows.fnMsgEntryRow.holds Tryd.pinned (OpenSpec.ofChange Rows.fnMsgEntrySpec) :=
  OpenClaim.holds_of_wide 4 Tryd.f4 rfl rfl rfl rfl rfl rfl rfl ⟨rfl, rfl, rfl, rfl, rfl⟩ rfl rfl rfl rfl rfl (by kernel_rfl) Tryd.func4 (by kernel_rfl)
    (of_decide_eq_true (by kernel_rfl)) (by unfold Func.isWrapper; first | (rw [if_pos (by decide +kernel)]; kernel_rfl) | (rw [if_neg (by decide +kernel)]; exact ⟨rfl, rfl⟩))
    (fun os started H enc _ => lifted os started H enc)
theorem proved : Rows.FnMsgEntryCardSaid :=
  Claim7.holds_tied_plain_at .later [] [.data, .data, .data] true (true, "20c3b60bf1d2a6088757e06ec9a29380a38b2079ed67341e79618b408812a74b") false
    over (fun _ h => by cases h) (by kernel_rfl) (fun _ h => by cases h) fnMsgEntry_row_tie rfl ⟨rfl, rfl⟩ (by kernel_rfl) rfl
    (fun f fn hf hfn => by
      obtain rfl : f = 4 := Option.some.inj ((show Tryd.prog.funcNamed "loop.example/thingstead/laws.FnMsgEntry" = some 4 by kernel_rfl).symm.trans hf) |>.symm
      obtain rfl : fn = Tryd.f4 := (Option.some.inj (Tryd.func4.symm.trans hfn)).symm
      exact ⟨by kernel_rfl, fun j t ht => by
        rw [Tryd.params4] at ht
        have hm : t ∈ [42, 42] := by simpa using Array.mem_of_getElem? ht
        have hall : ([42, 42].all fun u => !Tryd.prog.wantsStandIn u) = true := by kernel_rfl
        exact (show Tryd.prog.wantsStandIn t = false by simpa using List.all_eq_true.1 hall t hm)⟩)
    (by kernel_rfl)
end Go.Proofs.YtedgmfmhilihoaaDoor.fnMsgEntry
namespace Go.Proofs.YtedgmfmhilihoaaDoor
/-- The card, under a short name, for the claim. -/
theorem fnMsgEntry_holds : Rows.FnMsgEntryCardSaid := fnMsgEntry.proved
end Go.Proofs.YtedgmfmhilihoaaDoor
