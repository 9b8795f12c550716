/- FnExactAccBest: for all arguments, the law returns true and leaves its arguments as they were; no condition. -/
import Derived.Test.YtkbjinkjljoeeaaRows
import Derived.Test.YtkbjinkjljoeeaaP24
import Derived.WalkKit
import Derived.ProofKit
import Derived.OpenShut
import Derived.ShutString
import Derived.ChangeOld
import Derived.Below
import Derived.SizedLaws
namespace Go.Proofs.Ytkbjinkjljoeeaa.fnExactAccBest
open Go.ChangeShapes Go.WideShapes Go.ChangeAt Go.RowKit
open Go.ChangeMaps (open_string shut_string)
set_option linter.unusedVariables false
theorem own : ownKnob Try.prog.godebug = none := by kernel_rfl
theorem laidOut : laidOutB Try.prog = true := by kernel_rfl
set_option maxRecDepth 100000 in
theorem lifted (os : Os) (started : os.Started) (H : Type) (enc : TypeId × Value → H) :
    ReturnsInHanded {} Try.checked os 4 .any (Rows.fnExactAccBestSpec.pre6 enc Try.prog Try.f4 Rows.fnExactAccBestRow.domain false) (Rows.fnExactAccBestSpec.post enc Try.prog Try.f4 false true false false) := by
  refine returnsInHanded_of_change_sized (C := Try.checked) own started (by kernel_rfl) Try.func4
    (ChangeSpec.witness6 (enc := enc) (C := Try.checked) false ⟨#[], #[.slice none 0 0, .slice none 0 0], []⟩ 8 (by kernel_rfl) (by kernel_rfl) (by kernel_rfl) (by kernel_rfl)) ?_
  intro W base args ds gs before hval0 hW hcnd hsz0 _
  have hval : ∀ (j : Nat) t v, Try.f4.params[j]? = some t → args[j]? = some v → Value.okWide Try.prog W .any base t v := hval0
  have hW' := hW
  obtain ⟨p, q, hA0, hV, rfl, hfz, hnd⟩ := hW
  have hA : DataW.TrodAll enc Try.prog W 0 (fun _ => true) true Try.f4.params.toList args.toList ds p := hA0
  rw [Try.params4] at hA hval
  obtain ⟨v0, vs0, d0, ds0, p0, q0, hargs, rfl, rfl, h0, r0⟩ := trodAll_cons hA
  obtain ⟨v1, vs1, d1, ds1, p1, q1, rfl, rfl, rfl, h1, r1⟩ := trodAll_cons r0
  obtain ⟨rfl, rfl, rfl⟩ := trodAll_nil r1
  obtain rfl : args = #[v0, v1] := by cases args; simp_all
  obtain ⟨rfl, rfl⟩ := trodVars_none hV
  have hu0 := Mg.TOk.und_slice Mg.TTok (t := 42) (i := ⟨1, 24, .slice 100, [.nil]⟩) (e := 100) rfl rfl
  obtain ⟨a0, l0, c0, rfl⟩ := okWide_slice hu0 (hval 0 42 v0 rfl rfl)
  obtain ⟨n0, k0, hf0, hR0⟩ := Mg.FV_one Mg.TTok Mg.TTlay (t := 42) (i := ⟨1, 24, .slice 100, [.nil]⟩) rfl rfl rfl h0
  obtain ⟨x0, e0, hx0⟩ := Mg.fit_votes hf0
  obtain rfl := (List.cons.inj e0).1
  have lt0 : ∀ x ∈ p0, x.block < W.heap.size := by obtain ⟨m, hm⟩ := h0; exact DataW.trod_lt m _ _ _ hm
  have hu1 := Mg.TOk.und_slice Mg.TTok (t := 42) (i := ⟨1, 24, .slice 100, [.nil]⟩) (e := 100) rfl rfl
  obtain ⟨a1, l1, c1, rfl⟩ := okWide_slice hu1 (hval 1 42 v1 rfl rfl)
  obtain ⟨n1, k1, hf1, hR1⟩ := Mg.FV_one Mg.TTok Mg.TTlay (t := 42) (i := ⟨1, 24, .slice 100, [.nil]⟩) rfl rfl rfl h1
  obtain ⟨x1, e1, hx1⟩ := Mg.fit_votes hf1
  obtain rfl := (List.cons.inj e1).1
  have lt1 : ∀ x ∈ p1, x.block < W.heap.size := by obtain ⟨m, hm⟩ := h1; exact DataW.trod_lt m _ _ _ hm
  have main := (Mg.c_FnExactAccBest x0 x1 hx0 hx1).2 W (fun b => b < W.heap.size) #[.slice a0 l0 c0, .slice a1 l1 c1] rfl (fun j x hj => by
    match j, hj with
    | 0, hj => obtain rfl := Option.some.inj hj; exact ⟨_, rfl, hR0⟩
    | 1, hj => obtain rfl := Option.some.inj hj; exact ⟨_, rfl, hR1⟩) (fun b hb => hb) (Mg.GT.none (by kernel_rfl))
  refine main.mono fun e W' ⟨v, F, bs, he, bel, _, hov, _⟩ => ?_
  obtain rfl := Mg.OV_sc hov
  subst he
  exact ⟨_, rfl, _, _, _, [], _, [], hW', trodAll_mk1 (shut_bool Try.underlying4 _), (trodAll_cons_mk (Below.trod laidOut (by kernel_rfl) (of_decide_eq_true (by kernel_rfl)) h0 bel lt0) (trodAll_cons_mk (Below.trod laidOut (by kernel_rfl) (of_decide_eq_true (by kernel_rfl)) h1 bel lt1) trodAll_mk0)), rfl, bel.frame _, fun h => by cases h⟩
theorem over : Rows.fnExactAccBestRow.holds Try.pinned (OpenSpec.ofChange Rows.fnExactAccBestSpec) :=
  OpenClaim.holds_of_wide 4 Try.f4 rfl rfl rfl rfl rfl rfl rfl ⟨rfl, rfl, rfl, rfl, rfl⟩ rfl rfl rfl rfl rfl (by kernel_rfl) Try.func4 (by kernel_rfl)
    (of_decide_eq_true (by kernel_rfl)) (by unfold Func.isWrapper; first | (rw [if_pos (by decide +kernel)]; kernel_rfl) | (rw [if_neg (by decide +kernel)]; exact ⟨rfl, rfl⟩))
    (fun os started H enc _ => lifted os started H enc)
theorem proved : Rows.FnExactAccBestSaid := over
end Go.Proofs.Ytkbjinkjljoeeaa.fnExactAccBest
namespace Go.Proofs.Ytkbjinkjljoeeaa
/-- The row, under a short name, for the claim. -/
theorem fnExactAccBest_holds : Rows.FnExactAccBestSaid := fnExactAccBest.proved
end Go.Proofs.Ytkbjinkjljoeeaa
