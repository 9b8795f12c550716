/- FnExactWorldLog: for all arguments, the law returns true and leaves its arguments as they were; no condition. -/
import Derived.Test.YtedgmfmhilihoaaRows
import Derived.Test.YtedgmfmhilihoaaP27
import Derived.WalkKit
import Derived.ProofKit
import Derived.OpenShut
import Derived.ShutString
import Derived.ChangeOld
import Derived.Below
import Derived.SizedLaws
namespace Go.Proofs.Ytedgmfmhilihoaa.fnExactWorldLog
open Go.ChangeShapes Go.WideShapes Go.ChangeAt Go.RowKit
open Go.ChangeMaps (open_string shut_string)
set_option linter.unusedVariables false
theorem own : ownKnob Try.prog.godebug = none := by kernel_rfl
theorem laidOut : laidOutB Try.prog = true := by kernel_rfl
set_option maxRecDepth 100000 in
theorem lifted (os : Os) (started : os.Started) (H : Type) (enc : TypeId × Value → H) :
    ReturnsInHanded {} Try.checked os 4 .any (Rows.fnExactWorldLogSpec.pre6 enc Try.prog Try.f4 Rows.fnExactWorldLogRow.domain false) (Rows.fnExactWorldLogSpec.post enc Try.prog Try.f4 false true false false) := by
  refine returnsInHanded_of_change_sized (C := Try.checked) own started (by kernel_rfl) Try.func4
    (ChangeSpec.witness6 (enc := enc) (C := Try.checked) false ⟨#[], #[.agg #[.slice none 0 0, .slice none 0 0, .slice none 0 0, .slice none 0 0]], []⟩ 8 (by kernel_rfl) (by kernel_rfl) (by kernel_rfl) (by kernel_rfl)) ?_
  intro W base args ds gs before hval0 hW hcnd hsz0 _
  have hval : ∀ (j : Nat) t v, Try.f4.params[j]? = some t → args[j]? = some v → Value.okWide Try.prog W .any base t v := hval0
  have hW' := hW
  obtain ⟨p, q, hA0, hV, rfl, hfz, hnd⟩ := hW
  have hA : DataW.TrodAll enc Try.prog W 0 (fun _ => true) true Try.f4.params.toList args.toList ds p := hA0
  rw [Try.params4] at hA hval
  obtain ⟨v0, vs0, d0, ds0, p0, q0, hargs, rfl, rfl, h0, r0⟩ := trodAll_cons hA
  obtain ⟨rfl, rfl, rfl⟩ := trodAll_nil r0
  obtain rfl : args = #[v0] := by cases args; simp_all
  obtain ⟨rfl, rfl⟩ := trodVars_none hV
  obtain ⟨fs0, hfs0, _⟩ := Mg.TOk.und_struct Mg.TTok (t := 37) (i := ⟨4, 96, .struct [(0, 32), (1, 33), (2, 34), (3, 35)], [.nil, .nil, .nil, .nil]⟩) rfl rfl
  obtain ⟨a0, rfl, _⟩ := okWide_struct hfs0 (hval 0 37 v0 rfl rfl)
  obtain ⟨n0, c0, hf0, hR0⟩ := Mg.FV_agg Mg.TTok Mg.TTlay (t := 37) rfl h0
  obtain ⟨x0, rfl, hx0⟩ := Mg.fit_world hf0
  have lt0 : ∀ x ∈ p0, x.block < W.heap.size := by obtain ⟨m, hm⟩ := h0; exact DataW.trod_lt m _ _ _ hm
  have main := (Mg.c_FnExactWorldLog x0 hx0).2 W (fun b => b < W.heap.size) #[.agg a0] rfl (fun j x hj => by
    match j, hj with
    | 0, hj => obtain rfl := Option.some.inj hj; exact ⟨_, rfl, hR0⟩) (fun b hb => hb) (Mg.GT.none (by kernel_rfl))
  refine main.mono fun e W' ⟨v, F, bs, he, bel, _, hov, _⟩ => ?_
  obtain rfl := Mg.OV_sc hov
  subst he
  exact ⟨_, rfl, _, _, _, [], _, [], hW', trodAll_mk1 (shut_bool Try.underlying4 _), (trodAll_cons_mk (Below.trod laidOut (by kernel_rfl) (of_decide_eq_true (by kernel_rfl)) h0 bel lt0) trodAll_mk0), rfl, bel.frame _, fun h => by cases h⟩
theorem over : Rows.fnExactWorldLogRow.holds Try.pinned (OpenSpec.ofChange Rows.fnExactWorldLogSpec) :=
  OpenClaim.holds_of_wide 4 Try.f4 rfl rfl rfl rfl rfl rfl rfl ⟨rfl, rfl, rfl, rfl, rfl⟩ rfl rfl rfl rfl rfl (by kernel_rfl) Try.func4 (by kernel_rfl)
    (of_decide_eq_true (by kernel_rfl)) (by unfold Func.isWrapper; first | (rw [if_pos (by decide +kernel)]; kernel_rfl) | (rw [if_neg (by decide +kernel)]; exact ⟨rfl, rfl⟩))
    (fun os started H enc _ => lifted os started H enc)
theorem proved : Rows.FnExactWorldLogSaid := over
end Go.Proofs.Ytedgmfmhilihoaa.fnExactWorldLog
namespace Go.Proofs.Ytedgmfmhilihoaa
/-- The row, under a short name, for the claim. -/
theorem fnExactWorldLog_holds : Rows.FnExactWorldLogSaid := fnExactWorldLog.proved
end Go.Proofs.Ytedgmfmhilihoaa
