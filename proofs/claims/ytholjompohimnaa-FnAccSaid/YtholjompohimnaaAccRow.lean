/- FnAcc: for all arguments, the law returns true and leaves its arguments as they were; no condition. -/
import Derived.Test.YtholjompohimnaaRows
import Derived.Test.YtholjompohimnaaP19
import Derived.Test.YtholjompohimnaaP18
import Derived.WalkKit
import Derived.ProofKit
import Derived.OpenShut
import Derived.ShutString
import Derived.ChangeOld
import Derived.Below
import Derived.SizedLaws
namespace Go.Proofs.Ytholjompohimnaa.fnAcc
open Go.ChangeShapes Go.WideShapes Go.ChangeAt Go.RowKit
open Go.ChangeMaps (open_string shut_string)
set_option linter.unusedVariables false
theorem own : ownKnob Try.prog.godebug = none := by kernel_rfl
theorem laidOut : laidOutB Try.prog = true := by kernel_rfl
set_option maxRecDepth 100000 in
theorem lifted (os : Os) (started : os.Started) (H : Type) (enc : TypeId × Value → H) :
    ReturnsInHanded {} Try.checked os 9 .any (Rows.fnAccSpec.pre6 enc Try.prog Try.f9 Rows.fnAccRow.domain false) (Rows.fnAccSpec.post enc Try.prog Try.f9 false true false false) := by
  refine returnsInHanded_of_change_sized (C := Try.checked) own started (by kernel_rfl) Try.func9
    (ChangeSpec.witness6 (enc := enc) (C := Try.checked) false ⟨#[], #[.slice none 0 0], []⟩ 8 (by kernel_rfl) (by kernel_rfl) (by kernel_rfl) (by kernel_rfl)) ?_
  intro W base args ds gs before hval0 hW hcnd hsz0 _
  have hval : ∀ (j : Nat) t v, Try.f9.params[j]? = some t → args[j]? = some v → Value.okWide Try.prog W .any base t v := hval0
  have hW' := hW
  obtain ⟨p, q, hA0, hV, rfl, hfz, hnd⟩ := hW
  have hA : DataW.TrodAll enc Try.prog W 0 (fun _ => true) true Try.f9.params.toList args.toList ds p := hA0
  rw [Try.params9] at hA hval
  obtain ⟨v0, vs0, d0, ds0, p0, q0, hargs, rfl, rfl, h0, r0⟩ := trodAll_cons hA
  obtain ⟨rfl, rfl, rfl⟩ := trodAll_nil r0
  obtain rfl : args = #[v0] := by cases args; simp_all
  obtain ⟨rfl, rfl⟩ := trodVars_none hV
  have hu := Mg.TOk.und_slice Mg.TTok (t := 33) (i := ⟨1, 24, .slice 5, [.nil]⟩) (e := 5) rfl rfl
  obtain ⟨a0, l0, c0, rfl⟩ := okWide_slice hu (hval 0 33 v0 rfl rfl)
  obtain ⟨n0, k0, hf0, hR0⟩ := Mg.FV_one Mg.TTok Mg.TTlay (t := 33) (i := ⟨1, 24, .slice 5, [.nil]⟩) rfl rfl rfl h0
  obtain ⟨x0, rfl, hx0⟩ := Mg.fit_code hf0
  have lt0 : ∀ x ∈ p0, x.block < W.heap.size := by obtain ⟨m, hm⟩ := h0; exact DataW.trod_lt m _ _ _ hm
  have main := (Mg.c_FnAcc x0 hx0).row W (fun b => b < W.heap.size) #[.slice a0 l0 c0] rfl (fun j x hj => by
    match j, hj with
    | 0, hj => obtain rfl := Option.some.inj hj; exact ⟨_, rfl, hR0⟩) (fun b hb => hb)
  refine main.mono fun e W' ⟨he, bel⟩ => ?_
  subst he
  exact ⟨_, rfl, _, _, _, [], _, [], hW', trodAll_mk1 (shut_bool Try.underlying4 _), (trodAll_cons_mk (Below.trod laidOut (by kernel_rfl) (of_decide_eq_true (by kernel_rfl)) h0 bel lt0) trodAll_mk0), rfl, bel.frame _, fun h => by cases h⟩
theorem over : Rows.fnAccRow.holds Try.pinned (OpenSpec.ofChange Rows.fnAccSpec) :=
  OpenClaim.holds_of_wide 9 Try.f9 rfl rfl rfl rfl rfl rfl rfl ⟨rfl, rfl, rfl, rfl, rfl⟩ rfl rfl rfl rfl rfl (by kernel_rfl) Try.func9 (by kernel_rfl)
    (of_decide_eq_true (by kernel_rfl)) (by unfold Func.isWrapper; first | (rw [if_pos (by decide +kernel)]; kernel_rfl) | (rw [if_neg (by decide +kernel)]; exact ⟨rfl, rfl⟩))
    (fun os started H enc _ => lifted os started H enc)
theorem proved : Rows.FnAccSaid := over
end Go.Proofs.Ytholjompohimnaa.fnAcc
namespace Go.Proofs.Ytholjompohimnaa
/-- The row, under a short name, for the claim. -/
theorem fnAcc_holds : Rows.FnAccSaid := fnAcc.proved
end Go.Proofs.Ytholjompohimnaa
