/- FnExactNodeState: for all arguments, the law returns true and leaves its arguments as they were; no condition. -/
import Derived.Test.YtedgmfmhilihoaaGreatRows
import Derived.Test.YtedgmfmhilihoaaGreatP30
import Derived.WalkKit
import Derived.ProofKit
import Derived.OpenShut
import Derived.ShutString
import Derived.ChangeOld
import Derived.Below
import Derived.SizedLaws
namespace Go.Proofs.YtedgmfmhilihoaaGreat.fnExactNodeState
open Go.ChangeShapes Go.WideShapes Go.ChangeAt Go.RowKit
open Go.ChangeMaps (open_string shut_string)
set_option linter.unusedVariables false
theorem own : ownKnob Tryz.prog.godebug = none := by kernel_rfl
theorem laidOut : laidOutB Tryz.prog = true := by kernel_rfl
set_option maxRecDepth 100000 in
theorem lifted (os : Os) (started : os.Started) (H : Type) (enc : TypeId × Value → H) :
    ReturnsInHanded {} Tryz.checked os 4 .any (Rows.fnExactNodeStateSpec.pre6 enc Tryz.prog Tryz.f4 Rows.fnExactNodeStateRow.domain false) (Rows.fnExactNodeStateSpec.post enc Tryz.prog Tryz.f4 false true false false) := by
  refine returnsInHanded_of_change_sized (C := Tryz.checked) own started (by kernel_rfl) Tryz.func4
    (ChangeSpec.witness6 (enc := enc) (C := Tryz.checked) false ⟨#[], #[.agg #[.int .i64 0, .int .i64 0, .slice none 0 0, .slice none 0 0, .int .i64 0, .int .i64 0, .int .i64 0, .slice none 0 0, .slice none 0 0, .bool false, .int .i64 0, .int .i64 0, .slice none 0 0, .slice none 0 0, .int .i64 0, .int .i64 0, .slice none 0 0, .bool false, .slice none 0 0, .bool false, .int .i64 0, .int .i64 0, .slice none 0 0, .slice none 0 0, .int .i64 0, .int .i64 0, .slice none 0 0]], []⟩ 8 (by kernel_rfl) (by kernel_rfl) (by kernel_rfl) (by kernel_rfl)) ?_
  intro W base args ds gs before hval0 hW hcnd hsz0 _
  have hval : ∀ (j : Nat) t v, Tryz.f4.params[j]? = some t → args[j]? = some v → Value.okWide Tryz.prog W .any base t v := hval0
  have hW' := hW
  obtain ⟨p, q, hA0, hV, rfl, hfz, hnd⟩ := hW
  have hA : DataW.TrodAll enc Tryz.prog W 0 (fun _ => true) true Tryz.f4.params.toList args.toList ds p := hA0
  rw [Tryz.params4] at hA hval
  obtain ⟨v0, vs0, d0, ds0, p0, q0, hargs, rfl, rfl, h0, r0⟩ := trodAll_cons hA
  obtain ⟨rfl, rfl, rfl⟩ := trodAll_nil r0
  obtain rfl : args = #[v0] := by cases args; simp_all
  obtain ⟨rfl, rfl⟩ := trodVars_none hV
  obtain ⟨fs0, hfs0, _⟩ := Mg.TOk.und_struct Mg.TTok (t := 37) (i := ⟨27, 392, .struct [(0, 3), (1, 24), (3, 25), (4, 3), (5, 3), (6, 3), (7, 26), (8, 22), (9, 34), (16, 26), (17, 4), (18, 35), (19, 34), (26, 25)], [.int .i64, .int .i64, .nil, .nil, .int .i64, .int .i64, .int .i64, .nil, .nil, .bool, .int .i64, .int .i64, .nil, .nil, .int .i64, .int .i64, .nil, .bool, .nil, .bool, .int .i64, .int .i64, .nil, .nil, .int .i64, .int .i64, .nil]⟩) rfl rfl
  obtain ⟨a0, rfl, _⟩ := okWide_struct hfs0 (hval 0 37 v0 rfl rfl)
  obtain ⟨n0, c0, hf0, hR0⟩ := Mg.FV_agg Mg.TTok Mg.TTlay (t := 37) rfl h0
  obtain ⟨x0, rfl, hx0⟩ := Mg.fit_node hf0
  have lt0 : ∀ x ∈ p0, x.block < W.heap.size := by obtain ⟨m, hm⟩ := h0; exact DataW.trod_lt m _ _ _ hm
  have main := (Mg.c_FnExactNodeState x0 hx0).2 W (fun b => b < W.heap.size) #[.agg a0] rfl (fun j x hj => by
    match j, hj with
    | 0, hj => obtain rfl := Option.some.inj hj; exact ⟨_, rfl, hR0⟩) (fun b hb => hb) (Mg.GT.none (by kernel_rfl))
  refine main.mono fun e W' ⟨v, F, bs, he, bel, _, hov, _⟩ => ?_
  obtain rfl := Mg.OV_sc hov
  subst he
  exact ⟨_, rfl, _, _, _, [], _, [], hW', trodAll_mk1 (shut_bool Tryz.underlying4 _), (trodAll_cons_mk (Below.trod laidOut (by kernel_rfl) (of_decide_eq_true (by kernel_rfl)) h0 bel lt0) trodAll_mk0), rfl, bel.frame _, fun h => by cases h⟩
theorem over : Rows.fnExactNodeStateRow.holds Tryz.pinned (OpenSpec.ofChange Rows.fnExactNodeStateSpec) :=
  OpenClaim.holds_of_wide 4 Tryz.f4 rfl rfl rfl rfl rfl rfl rfl ⟨rfl, rfl, rfl, rfl, rfl⟩ rfl rfl rfl rfl rfl (by kernel_rfl) Tryz.func4 (by kernel_rfl)
    (of_decide_eq_true (by kernel_rfl)) (by unfold Func.isWrapper; first | (rw [if_pos (by decide +kernel)]; kernel_rfl) | (rw [if_neg (by decide +kernel)]; exact ⟨rfl, rfl⟩))
    (fun os started H enc _ => lifted os started H enc)
theorem proved : Rows.FnExactNodeStateSaid := over
end Go.Proofs.YtedgmfmhilihoaaGreat.fnExactNodeState
namespace Go.Proofs.YtedgmfmhilihoaaGreat
/-- The row, under a short name, for the claim. -/
theorem fnExactNodeState_holds : Rows.FnExactNodeStateSaid := fnExactNodeState.proved
end Go.Proofs.YtedgmfmhilihoaaGreat
