/- FnExactAccVote: for all arguments, the law returns true and leaves its arguments as they were; no condition. -/
import Derived.Test.YtkbjinkjljoeeaaRows
import Derived.Test.YtkbjinkjljoeeaaP25
import Derived.WalkKit
import Derived.ProofKit
import Derived.OpenShut
import Derived.ShutString
import Derived.ChangeOld
import Derived.Below
import Derived.SizedLaws
namespace Go.Proofs.Ytkbjinkjljoeeaa.fnExactAccVote
open Go.ChangeShapes Go.WideShapes Go.ChangeAt Go.RowKit
open Go.ChangeMaps (open_string shut_string)
set_option linter.unusedVariables false
theorem own : ownKnob Try.prog.godebug = none := by kernel_rfl
theorem laidOut : laidOutB Try.prog = true := by kernel_rfl
set_option maxRecDepth 100000 in
theorem lifted (os : Os) (started : os.Started) (H : Type) (enc : TypeId × Value → H) :
    ReturnsInHanded {} Try.checked os 6 .any (Rows.fnExactAccVoteSpec.pre6 enc Try.prog Try.f6 Rows.fnExactAccVoteRow.domain false) (Rows.fnExactAccVoteSpec.post enc Try.prog Try.f6 false true false false) := by
  refine returnsInHanded_of_change_sized (C := Try.checked) own started (by kernel_rfl) Try.func6
    (ChangeSpec.witness6 (enc := enc) (C := Try.checked) false ⟨#[], #[.agg #[.int .i64 0, .slice none 0 0], .int .i64 0, .int .i64 0, .agg #[.bool false, .int .i64 0, .int .i64 0, .slice none 0 0, .slice none 0 0, .int .i64 0, .int .i64 0]], []⟩ 8 (by kernel_rfl) (by kernel_rfl) (by kernel_rfl) (by kernel_rfl)) ?_
  intro W base args ds gs before hval0 hW hcnd hsz0 _
  have hval : ∀ (j : Nat) t v, Try.f6.params[j]? = some t → args[j]? = some v → Value.okWide Try.prog W .any base t v := hval0
  have hW' := hW
  obtain ⟨p, q, hA0, hV, rfl, hfz, hnd⟩ := hW
  have hA : DataW.TrodAll enc Try.prog W 0 (fun _ => true) true Try.f6.params.toList args.toList ds p := hA0
  rw [Try.params6] at hA hval
  obtain ⟨v0, vs0, d0, ds0, p0, q0, hargs, rfl, rfl, h0, r0⟩ := trodAll_cons hA
  obtain ⟨v1, vs1, d1, ds1, p1, q1, rfl, rfl, rfl, h1, r1⟩ := trodAll_cons r0
  obtain ⟨v2, vs2, d2, ds2, p2, q2, rfl, rfl, rfl, h2, r2⟩ := trodAll_cons r1
  obtain ⟨v3, vs3, d3, ds3, p3, q3, rfl, rfl, rfl, h3, r3⟩ := trodAll_cons r2
  obtain ⟨rfl, rfl, rfl⟩ := trodAll_nil r3
  obtain rfl : args = #[v0, v1, v2, v3] := by cases args; simp_all
  obtain ⟨rfl, rfl⟩ := trodVars_none hV
  obtain ⟨fs0, hfs0, _⟩ := Mg.TOk.und_struct Mg.TTok (t := 50) (i := ⟨2, 32, .struct [(0, 3), (1, 42)], [.int .i64, .nil]⟩) rfl rfl
  obtain ⟨a0, rfl, _⟩ := okWide_struct hfs0 (hval 0 50 v0 rfl rfl)
  obtain ⟨n0, c0, hf0, hR0⟩ := Mg.FV_agg Mg.TTok Mg.TTlay (t := 50) rfl h0
  obtain ⟨x0, rfl, hx0⟩ := Mg.fit_acc hf0
  have lt0 : ∀ x ∈ p0, x.block < W.heap.size := by obtain ⟨m, hm⟩ := h0; exact DataW.trod_lt m _ _ _ hm
  obtain ⟨m1, rfl⟩ := okWide_int Try.underlying3 (hval 1 3 v1 rfl rfl)
  obtain ⟨n1, k1, hf1, hR1⟩ := Mg.FV_one Mg.TTok Mg.TTlay (t := 3) (i := ⟨1, 8, .int .i64, [.int .i64]⟩) rfl rfl rfl h1
  obtain ⟨x1, e1, _⟩ := Mg.fit_int hf1 (i := ⟨1, 8, .int .i64, [.int .i64]⟩) rfl rfl
  obtain rfl := (List.cons.inj e1).1
  have lt1 : ∀ x ∈ p1, x.block < W.heap.size := by obtain ⟨m, hm⟩ := h1; exact DataW.trod_lt m _ _ _ hm
  obtain ⟨m2, rfl⟩ := okWide_int Try.underlying3 (hval 2 3 v2 rfl rfl)
  obtain ⟨n2, k2, hf2, hR2⟩ := Mg.FV_one Mg.TTok Mg.TTlay (t := 3) (i := ⟨1, 8, .int .i64, [.int .i64]⟩) rfl rfl rfl h2
  obtain ⟨x2, e2, _⟩ := Mg.fit_int hf2 (i := ⟨1, 8, .int .i64, [.int .i64]⟩) rfl rfl
  obtain rfl := (List.cons.inj e2).1
  have lt2 : ∀ x ∈ p2, x.block < W.heap.size := by obtain ⟨m, hm⟩ := h2; exact DataW.trod_lt m _ _ _ hm
  obtain ⟨fs3, hfs3, _⟩ := Mg.TOk.und_struct Mg.TTok (t := 64) (i := ⟨7, 88, .struct [(0, 4), (1, 58), (3, 62)], [.bool, .int .i64, .int .i64, .nil, .nil, .int .i64, .int .i64]⟩) rfl rfl
  obtain ⟨a3, rfl, _⟩ := okWide_struct hfs3 (hval 3 64 v3 rfl rfl)
  obtain ⟨n3, c3, hf3, hR3⟩ := Mg.FV_agg Mg.TTok Mg.TTlay (t := 64) rfl h3
  obtain ⟨x3, rfl, hx3⟩ := Mg.fit_entry hf3
  have lt3 : ∀ x ∈ p3, x.block < W.heap.size := by obtain ⟨m, hm⟩ := h3; exact DataW.trod_lt m _ _ _ hm
  have main := (Mg.c_FnExactAccVote x0 hx0 x1 x2 x3 hx3).2 W (fun b => b < W.heap.size) #[.agg a0, .int .i64 m1, .int .i64 m2, .agg a3] rfl (fun j x hj => by
    match j, hj with
    | 0, hj => obtain rfl := Option.some.inj hj; exact ⟨_, rfl, hR0⟩
    | 1, hj => obtain rfl := Option.some.inj hj; exact ⟨_, rfl, hR1⟩
    | 2, hj => obtain rfl := Option.some.inj hj; exact ⟨_, rfl, hR2⟩
    | 3, hj => obtain rfl := Option.some.inj hj; exact ⟨_, rfl, hR3⟩) (fun b hb => hb) (Mg.GT.none (by kernel_rfl))
  refine main.mono fun e W' ⟨v, F, bs, he, bel, _, hov, _⟩ => ?_
  obtain rfl := Mg.OV_sc hov
  subst he
  exact ⟨_, rfl, _, _, _, [], _, [], hW', trodAll_mk1 (shut_bool Try.underlying4 _), (trodAll_cons_mk (Below.trod laidOut (by kernel_rfl) (of_decide_eq_true (by kernel_rfl)) h0 bel lt0) (trodAll_cons_mk (Below.trod laidOut (by kernel_rfl) (of_decide_eq_true (by kernel_rfl)) h1 bel lt1) (trodAll_cons_mk (Below.trod laidOut (by kernel_rfl) (of_decide_eq_true (by kernel_rfl)) h2 bel lt2) (trodAll_cons_mk (Below.trod laidOut (by kernel_rfl) (of_decide_eq_true (by kernel_rfl)) h3 bel lt3) trodAll_mk0)))), rfl, bel.frame _, fun h => by cases h⟩
theorem over : Rows.fnExactAccVoteRow.holds Try.pinned (OpenSpec.ofChange Rows.fnExactAccVoteSpec) :=
  OpenClaim.holds_of_wide 6 Try.f6 rfl rfl rfl rfl rfl rfl rfl ⟨rfl, rfl, rfl, rfl, rfl⟩ rfl rfl rfl rfl rfl (by kernel_rfl) Try.func6 (by kernel_rfl)
    (of_decide_eq_true (by kernel_rfl)) (by unfold Func.isWrapper; first | (rw [if_pos (by decide +kernel)]; kernel_rfl) | (rw [if_neg (by decide +kernel)]; exact ⟨rfl, rfl⟩))
    (fun os started H enc _ => lifted os started H enc)
theorem proved : Rows.FnExactAccVoteSaid := over
end Go.Proofs.Ytkbjinkjljoeeaa.fnExactAccVote
namespace Go.Proofs.Ytkbjinkjljoeeaa
/-- The row, under a short name, for the claim. -/
theorem fnExactAccVote_holds : Rows.FnExactAccVoteSaid := fnExactAccVote.proved
end Go.Proofs.Ytkbjinkjljoeeaa
