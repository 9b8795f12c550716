/- Parts of the abstract state logic and of the walks, one behind the other: R1N, R1O, R1P, R1Q. No condition. -/
import Derived.Test.YtedgmfmhilihoaaGreatP15
/- Ranges. No condition. -/
namespace Mg
open Go Go.RowKit
set_option maxRecDepth 100000
set_option linter.unusedVariables false
set_option linter.unusedSimpArgs false
attribute [local irreducible] W Pure

def inr (n lo hi : Int) : Bool := decide (lo ≤ n) && decide (n ≤ hi)
theorem c_impl_in (n lo hi : Int) : Pure PP false 96 [oi n, oi lo, oi hi] (ob (inr n lo hi)) := by
  refine Pure.vc [] TTok hmo Go.Proofs.Tryz.func96 (by kernel_rfl) rfl (by kernel_rfl) ?_
  repeat' (first | refine And.intro ?_ ?_ | exact tf | exact ft | refine tt ?_ | refine ff ?_ | exact ⟨trivial⟩ | exact sAll rfl | exact sF1 rfl | exact sBld (by repeat' (first | exact trivial | rfl | exact Nat.le_of_ble_eq_true rfl | refine And.intro ?_ ?_)) rfl | exact sBS (by repeat' (first | exact trivial | rfl | exact Nat.le_of_ble_eq_true rfl | refine And.intro ?_ ?_)) rfl rfl rfl rfl | exact sBSF (by repeat' (first | exact trivial | rfl | exact Nat.le_of_ble_eq_true rfl | refine And.intro ?_ ?_)) rfl rfl rfl rfl | exact sLe rfl | exact Chk.mk (by kernel_rfl) | exact ⟨Chk.mk (by kernel_rfl)⟩ | exact sLeEq rfl rfl | refine fun h => ?_)
  all_goals (refine ⟨?_⟩; simp_all [inr])
  all_goals omega
theorem c_l6Bal (n : Int) : Pure PP false 120 [oi n] (ob (inr n 1 3000)) := by
  refine Pure.vc [] TTok hmo Go.Proofs.Tryz.func120 (by kernel_rfl) rfl (by kernel_rfl) ?_
  repeat' (first | refine And.intro ?_ ?_ | exact tf | exact ft | refine tt ?_ | refine ff ?_ | exact ⟨trivial⟩ | exact sAll rfl | exact sF1 rfl | exact sBld (by repeat' (first | exact trivial | rfl | exact Nat.le_of_ble_eq_true rfl | refine And.intro ?_ ?_)) rfl | exact sBS (by repeat' (first | exact trivial | rfl | exact Nat.le_of_ble_eq_true rfl | refine And.intro ?_ ?_)) rfl rfl rfl rfl | exact sBSF (by repeat' (first | exact trivial | rfl | exact Nat.le_of_ble_eq_true rfl | refine And.intro ?_ ?_)) rfl rfl rfl rfl | exact sLe rfl | exact Chk.mk (by kernel_rfl) | exact ⟨Chk.mk (by kernel_rfl)⟩ | exact sLeEq rfl rfl | refine fun h => ?_)
  all_goals (refine ⟨?_⟩; simp_all [inr])
  all_goals omega
theorem c_l1Num (n : Int) : Pure PP false 160 [oi n] (ob (inr n (-1000000) 1000000)) := by
  refine Pure.vc [] TTok hmo Go.Proofs.Tryz.func160 (by kernel_rfl) rfl (by kernel_rfl) ?_
  repeat' (first | refine And.intro ?_ ?_ | exact tf | exact ft | refine tt ?_ | refine ff ?_ | exact ⟨trivial⟩ | exact sAll rfl | exact sF1 rfl | exact sBld (by repeat' (first | exact trivial | rfl | exact Nat.le_of_ble_eq_true rfl | refine And.intro ?_ ?_)) rfl | exact sBS (by repeat' (first | exact trivial | rfl | exact Nat.le_of_ble_eq_true rfl | refine And.intro ?_ ?_)) rfl rfl rfl rfl | exact sBSF (by repeat' (first | exact trivial | rfl | exact Nat.le_of_ble_eq_true rfl | refine And.intro ?_ ?_)) rfl rfl rfl rfl | exact sLe rfl | exact Chk.mk (by kernel_rfl) | exact ⟨Chk.mk (by kernel_rfl)⟩ | exact sLeEq rfl rfl | refine fun h => ?_)
  all_goals (refine ⟨?_⟩; simp_all [inr])
  all_goals omega
theorem c_l2Box (n : Int) : Pure PP false 161 [oi n] (ob (inr n 0 3)) := by
  refine Pure.vc [] TTok hmo Go.Proofs.Tryz.func161 (by kernel_rfl) rfl (by kernel_rfl) ?_
  repeat' (first | refine And.intro ?_ ?_ | exact tf | exact ft | refine tt ?_ | refine ff ?_ | exact ⟨trivial⟩ | exact sAll rfl | exact sF1 rfl | exact sBld (by repeat' (first | exact trivial | rfl | exact Nat.le_of_ble_eq_true rfl | refine And.intro ?_ ?_)) rfl | exact sBS (by repeat' (first | exact trivial | rfl | exact Nat.le_of_ble_eq_true rfl | refine And.intro ?_ ?_)) rfl rfl rfl rfl | exact sBSF (by repeat' (first | exact trivial | rfl | exact Nat.le_of_ble_eq_true rfl | refine And.intro ?_ ?_)) rfl rfl rfl rfl | exact sLe rfl | exact Chk.mk (by kernel_rfl) | exact ⟨Chk.mk (by kernel_rfl)⟩ | exact sLeEq rfl rfl | refine fun h => ?_)
  all_goals (refine ⟨?_⟩; simp_all [inr])
  all_goals omega
def reqOk (q : Two) : Bool := inr q.a 0 2 && inr q.b 1 1000
theorem c_reqOk (q : Two) : Pure PP false 139 [.agg q.cells] (ob (reqOk q)) := by
  refine Pure.vc [(5, .res (ob (inr q.a 0 2))), (9, .res (ob (inr q.b 1 1000)))] TTok hmo Go.Proofs.Tryz.func139 (by kernel_rfl) rfl (by kernel_rfl) ?_
  repeat' (first | refine And.intro ?_ ?_ | exact tf | exact ft | refine tt ?_ | refine ff ?_ | exact ⟨trivial⟩ | exact sAll rfl | exact sF1 rfl | exact sBld (by repeat' (first | exact trivial | rfl | exact Nat.le_of_ble_eq_true rfl | refine And.intro ?_ ?_)) rfl | exact sBS (by repeat' (first | exact trivial | rfl | exact Nat.le_of_ble_eq_true rfl | refine And.intro ?_ ?_)) rfl rfl rfl rfl | exact sBSF (by repeat' (first | exact trivial | rfl | exact Nat.le_of_ble_eq_true rfl | refine And.intro ?_ ?_)) rfl rfl rfl rfl | exact sLe rfl | exact Chk.mk (by kernel_rfl) | exact ⟨Chk.mk (by kernel_rfl)⟩ | exact sLeEq rfl rfl | exact sAnd (by repeat' constructor) (c_impl_in _ _ _) | refine fun h => ?_)
  all_goals (refine ⟨?_⟩; simp_all [reqOk])
theorem c_l5Req (q : Two) : Pure PP false 133 [.agg q.cells] (ob (reqOk q)) := by
  refine Pure.vc [] TTok hmo Go.Proofs.Tryz.func133 (by kernel_rfl) rfl (by kernel_rfl) ?_
  repeat' (first | refine And.intro ?_ ?_ | exact tf | exact ft | refine tt ?_ | refine ff ?_ | exact ⟨trivial⟩ | exact sAll rfl | exact sF1 rfl | exact sBld (by repeat' (first | exact trivial | rfl | exact Nat.le_of_ble_eq_true rfl | refine And.intro ?_ ?_)) rfl | exact sBS (by repeat' (first | exact trivial | rfl | exact Nat.le_of_ble_eq_true rfl | refine And.intro ?_ ?_)) rfl rfl rfl rfl | exact sBSF (by repeat' (first | exact trivial | rfl | exact Nat.le_of_ble_eq_true rfl | refine And.intro ?_ ?_)) rfl rfl rfl rfl | exact sLe rfl | exact Chk.mk (by kernel_rfl) | exact ⟨Chk.mk (by kernel_rfl)⟩ | exact sLeEq rfl rfl | refine fun h => ?_)
  all_goals (refine ⟨?_⟩; simp_all [reqOk, inr])
  all_goals omega

def saw (xs : List Two) (b : Int) : Bool := xs.any fun x => x.a == b
theorem saw_step {xs : List Two} {b : Int} {i : Nat} (h : i < xs.length) : saw (xs.take (i + 1)) b = (saw (xs.take i) b || (xs.getD i default).a == b) := by
  unfold saw
  rw [getD_get h, List.take_succ_eq_append_getElem h, List.any_append]
  simp only [List.any_cons, List.any_nil, Bool.or_false]
theorem saw_mem {xs : List Two} {b : Int} {i : Nat} (h : i < xs.length) (he : (xs.getD i default).a = b) : saw xs b = true := by
  simp only [saw, List.any_eq_true, beq_iff_eq]
  exact ⟨_, getD_mem h, he⟩
theorem c_l3Saw (xs : List Two) (b : Int) (hx : xs.length ≤ maxLen) : Pure PP false 162 [.one (.fz (xs.map Two.cells)), oi b] (ob (saw xs b)) := by
  have hx' : xs.length ≤ 9223372036854775807 := hx
  refine Pure.vc [] TTok hmo Go.Proofs.Tryz.func162 (by kernel_rfl) rfl (by kernel_rfl) ?_
  repeat' (first | refine And.intro ?_ ?_ | exact tf | exact ft | refine tt ?_ | refine ff ?_ | exact ⟨trivial⟩ | exact sAll rfl | exact sF1 rfl | exact sBld (by repeat' (first | exact trivial | rfl | exact Nat.le_of_ble_eq_true rfl | refine And.intro ?_ ?_)) rfl | exact sBS (by repeat' (first | exact trivial | rfl | exact Nat.le_of_ble_eq_true rfl | refine And.intro ?_ ?_)) rfl rfl rfl rfl | exact sBSF (by repeat' (first | exact trivial | rfl | exact Nat.le_of_ble_eq_true rfl | refine And.intro ?_ ?_)) rfl rfl rfl rfl | exact sLe rfl | exact Chk.mk (by kernel_rfl) | exact ⟨Chk.mk (by kernel_rfl)⟩ | exact sLeEq rfl rfl | refine fun h => ?_)
  refine W.loopC (D := Nat) (fun i => [(14, .row (xs.getD i default).cells)]) TTok hmo
    (fun i => ⟨19, 0, [(0, .one (.ag (xs.map Two.cells))), (1, oi b), (4, ob false), (5, oi i)], []⟩) (fun i => xs.length - i) (fun i => i ≤ xs.length ∧ saw (xs.take i) b = false) 0 [] ⟨by omega, by simp [saw]⟩ ?_ ?_
  · repeat' (first | exact trivial | exact Side.mk rfl | exact Chk.mk (by kernel_rfl) | exact ⟨Chk.mk (by kernel_rfl)⟩ | refine And.intro ?_ ?_ | rfl)
  · intro i ⟨hi, hp⟩
    repeat' (first | refine And.intro ?_ ?_ | exact tf | exact ft | refine tt ?_ | refine ff ?_ | exact ⟨trivial⟩ | exact sAll rfl | exact sF1 rfl | exact sBld (by repeat' (first | exact trivial | rfl | exact Nat.le_of_ble_eq_true rfl | refine And.intro ?_ ?_)) rfl | exact sBS (by repeat' (first | exact trivial | rfl | exact Nat.le_of_ble_eq_true rfl | refine And.intro ?_ ?_)) rfl rfl rfl rfl | exact sBSF (by repeat' (first | exact trivial | rfl | exact Nat.le_of_ble_eq_true rfl | refine And.intro ?_ ?_)) rfl rfl rfl rfl | exact sLe rfl | exact Chk.mk (by kernel_rfl) | exact ⟨Chk.mk (by kernel_rfl)⟩ | exact sLeEq rfl rfl | refine fun h => ?_)
    all_goals simp only [decide_eq_true_eq, decide_eq_false_iff_not, List.length_map, beq_iff_eq, beq_eq_false_iff_ne, ne_eq] at *
    · exact sRow (by omega) (row_at xs _ (by omega)) rfl
    · refine ⟨?_⟩
      have := saw_mem (b := b) (by omega) h
      simp [this]
    · refine ⟨i + 1, [], by omega, ⟨by omega, ?_⟩, ?_⟩
      · rw [saw_step (by omega), hp]; simpa using h
      · repeat' (first | exact trivial | exact Side.mk rfl | exact Chk.mk (by kernel_rfl) | exact ⟨Chk.mk (by kernel_rfl)⟩ | exact ⟨wrap_succ (n := xs.length) (by omega) (by omega)⟩ | refine And.intro ?_ ?_ | rfl)
    · rw [List.take_of_length_le (by omega)] at hp
      refine ⟨?_⟩
      simp [hp]

def atI (xs : List Two) (b : Int) : Int := match xs with
  | [] => -1
  | x :: xs => if x.a = b then 0 else if atI xs b < 0 then -1 else atI xs b + 1
theorem atI_get {b : Int} : ∀ {xs : List Two} {i : Nat}, i < xs.length → saw (xs.take i) b = false → (xs.getD i default).a = b → atI xs b = i
  | [], i, h, _, _ => by simp at h
  | x :: xs, 0, h, _, he => by
    have : x.a = b := he
    simp [atI, this]
  | x :: xs, i + 1, h, hp, he => by
    have h1 : ¬ x.a = b ∧ saw (xs.take i) b = false := by
      simp only [saw, List.take_succ_cons, List.any_cons, Bool.or_eq_false_iff, beq_eq_false_iff_ne, ne_eq] at hp
      exact hp
    have := atI_get (xs := xs) (i := i) (by simpa using h) h1.2 he
    simp only [atI, if_neg h1.1, this]
    rw [if_neg (by omega)]; omega
theorem atI_none {b : Int} : ∀ {xs : List Two}, saw xs b = false → atI xs b = -1
  | [], _ => rfl
  | x :: xs, hp => by
    simp only [saw, List.any_cons, Bool.or_eq_false_iff, beq_eq_false_iff_ne, ne_eq] at hp
    simp only [atI, if_neg hp.1, atI_none (xs := xs) hp.2]
    rfl
theorem atI_neg {b : Int} {xs : List Two} : decide (0 ≤ atI xs b) = saw xs b := by
  induction xs with
  | nil => rfl
  | cons x xs ih =>
    simp only [atI, saw, List.any_cons]
    by_cases h : x.a = b
    · simp [h]
    · simp only [if_neg h]
      have h' : (x.a == b) = false := by simpa using h
      rw [h', Bool.false_or, ← saw, ← ih]
      by_cases g : atI xs b < 0
      · simp [g]
      · rw [if_neg g]; simp; omega
theorem c_l3At (xs : List Two) (b : Int) (hx : xs.length ≤ maxLen) : Pure PP false 163 [.one (.fz (xs.map Two.cells)), oi b] (oi (atI xs b)) := by
  have hx' : xs.length ≤ 9223372036854775807 := hx
  refine Pure.vc [] TTok hmo Go.Proofs.Tryz.func163 (by kernel_rfl) rfl (by kernel_rfl) ?_
  repeat' (first | refine And.intro ?_ ?_ | exact tf | exact ft | refine tt ?_ | refine ff ?_ | exact ⟨trivial⟩ | exact sAll rfl | exact sF1 rfl | exact sBld (by repeat' (first | exact trivial | rfl | exact Nat.le_of_ble_eq_true rfl | refine And.intro ?_ ?_)) rfl | exact sBS (by repeat' (first | exact trivial | rfl | exact Nat.le_of_ble_eq_true rfl | refine And.intro ?_ ?_)) rfl rfl rfl rfl | exact sBSF (by repeat' (first | exact trivial | rfl | exact Nat.le_of_ble_eq_true rfl | refine And.intro ?_ ?_)) rfl rfl rfl rfl | exact sLe rfl | exact Chk.mk (by kernel_rfl) | exact ⟨Chk.mk (by kernel_rfl)⟩ | exact sLeEq rfl rfl | refine fun h => ?_)
  refine W.loopC (D := Nat) (fun i => [(14, .row (xs.getD i default).cells)]) TTok hmo
    (fun i => ⟨20, 0, [(0, .one (.ag (xs.map Two.cells))), (1, oi b), (4, oi 0), (5, oi i)], []⟩) (fun i => xs.length - i) (fun i => i ≤ xs.length ∧ saw (xs.take i) b = false) 0 [] ⟨by omega, by simp [saw]⟩ ?_ ?_
  · repeat' (first | exact trivial | exact Side.mk rfl | exact Chk.mk (by kernel_rfl) | exact ⟨Chk.mk (by kernel_rfl)⟩ | refine And.intro ?_ ?_ | rfl)
  · intro i ⟨hi, hp⟩
    repeat' (first | refine And.intro ?_ ?_ | exact tf | exact ft | refine tt ?_ | refine ff ?_ | exact ⟨trivial⟩ | exact sAll rfl | exact sF1 rfl | exact sBld (by repeat' (first | exact trivial | rfl | exact Nat.le_of_ble_eq_true rfl | refine And.intro ?_ ?_)) rfl | exact sBS (by repeat' (first | exact trivial | rfl | exact Nat.le_of_ble_eq_true rfl | refine And.intro ?_ ?_)) rfl rfl rfl rfl | exact sBSF (by repeat' (first | exact trivial | rfl | exact Nat.le_of_ble_eq_true rfl | refine And.intro ?_ ?_)) rfl rfl rfl rfl | exact sLe rfl | exact Chk.mk (by kernel_rfl) | exact ⟨Chk.mk (by kernel_rfl)⟩ | exact sLeEq rfl rfl | refine fun h => ?_)
    all_goals simp only [decide_eq_true_eq, decide_eq_false_iff_not, List.length_map, beq_iff_eq, beq_eq_false_iff_ne, ne_eq] at *
    · exact sRow (by omega) (row_at xs _ (by omega)) rfl
    · refine ⟨?_⟩
      have := atI_get (b := b) (by omega) hp h
      simp [this]
    · refine ⟨i + 1, [], by omega, ⟨by omega, ?_⟩, ?_⟩
      · rw [saw_step (by omega), hp]; simpa using h
      · repeat' (first | exact trivial | exact Side.mk rfl | exact Chk.mk (by kernel_rfl) | exact ⟨Chk.mk (by kernel_rfl)⟩ | exact ⟨wrap_succ (n := xs.length) (by omega) (by omega)⟩ | refine And.intro ?_ ?_ | rfl)
    · rw [List.take_of_length_le (by omega)] at hp
      refine ⟨?_⟩
      simp [atI_none hp]
end Mg

/- Runs that are right. No condition. -/
namespace Mg
open Go Go.RowKit
set_option maxRecDepth 100000
set_option linter.unusedVariables false
set_option linter.unusedSimpArgs false
attribute [local irreducible] W Pure

def elemOk (lo : Int) (xs : List Two) (i : Nat) : Bool := inr (xs.getD i default).a 0 3 && inr (xs.getD i default).b lo 1000000 && !saw (xs.take i) (xs.getD i default).a
def listOk (lo : Int) (xs : List Two) : Bool := (List.range xs.length).all (elemOk lo xs)
def headOk (r : Run) : Bool := inr r.d 0 3 && inr r.c (-1000000) 1000000 && !(r.d != 0 && (r.c != 0 || decide (0 < r.puts.length))) && !(r.d == 3 && decide (0 < r.reads.length))
def execOk (r : Run) : Bool := headOk r && listOk 0 r.reads && listOk (-1000000) r.puts
theorem listOk_bad {lo : Int} {xs : List Two} {i : Nat} (h : i < xs.length) (he : elemOk lo xs i = false) : listOk lo xs = false := by
  unfold listOk
  rw [List.all_eq_false]
  exact ⟨i, List.mem_range.2 h, by rw [he]; simp⟩
theorem listOk_all {lo : Int} {xs : List Two} {i : Nat} (h : xs.length ≤ i) (he : ∀ j, j < i → j < xs.length → elemOk lo xs j = true) : listOk lo xs = true := by
  unfold listOk
  rw [List.all_eq_true]
  exact fun j hj => he j (by have := List.mem_range.1 hj; omega) (List.mem_range.1 hj)
theorem c_l3Saw' {rows : List (List MC)} {xs : List Two} {b : Int} (e : rows = xs.map Two.cells) (hx : xs.length ≤ maxLen) : Pure PP false 162 [.one (.fz rows), oi b] (ob (saw xs b)) := e ▸ c_l3Saw xs b hx
theorem c_l3At' {rows : List (List MC)} {xs : List Two} {b : Int} (e : rows = xs.map Two.cells) (hx : xs.length ≤ maxLen) : Pure PP false 163 [.one (.fz rows), oi b] (oi (atI xs b)) := e ▸ c_l3At xs b hx
end Mg

/- Runs that are right: spec's walk. No condition. -/
namespace Mg
open Go Go.RowKit
set_option maxRecDepth 100000
set_option linter.unusedVariables false
set_option linter.unusedSimpArgs false
attribute [local irreducible] W Pure
theorem atI_saw {xs : List Two} {b : Int} : atI xs b ≥ 0 ↔ saw xs b = true := by
  rw [← atI_neg, decide_eq_true_eq]
theorem atI_nsaw {xs : List Two} {b : Int} : ¬ atI xs b ≥ 0 ↔ saw xs b = false := by
  rw [← atI_neg, decide_eq_false_iff_not]
set_option maxHeartbeats 2000000 in
theorem c_spec_ExecOk (x : Run) (hx : x.ok lim) : Pure PP false 134 [.agg x.cells] (ob (execOk x)) := by
  obtain ⟨rs, ps, c, d⟩ := x
  have hxr : rs.length ≤ 1048576 := hx.1
  have hxp : ps.length ≤ 1048576 := hx.2
  by_cases hh : headOk ⟨rs, ps, c, d⟩ = true
  · refine Pure.vc [(16, .res (ob (inr c (-1000000) 1000000)))] TTok hmo Go.Proofs.Tryz.func134 (by kernel_rfl) rfl (by kernel_rfl) ?_
    repeat' (first | refine And.intro ?_ ?_ | exact tf | exact ft | refine tt ?_ | refine ff ?_ | exact ⟨trivial⟩ | exact sAll rfl | exact sF1 rfl | exact sBld (by repeat' (first | exact trivial | rfl | exact Nat.le_of_ble_eq_true rfl | refine And.intro ?_ ?_)) rfl | exact sBS (by repeat' (first | exact trivial | rfl | exact Nat.le_of_ble_eq_true rfl | refine And.intro ?_ ?_)) rfl rfl rfl rfl | exact sBSF (by repeat' (first | exact trivial | rfl | exact Nat.le_of_ble_eq_true rfl | refine And.intro ?_ ?_)) rfl rfl rfl rfl | exact sLe rfl | exact Chk.mk (by kernel_rfl) | exact ⟨Chk.mk (by kernel_rfl)⟩ | exact sLeEq rfl rfl | exact sAnd (by repeat' constructor) (c_l1Num _) | refine fun h => ?_)
    all_goals try (exfalso; simp_all [headOk, inr]; done)
    all_goals try (exfalso; simp_all [headOk, inr]; omega)
    all_goals repeat (first | clear h | (rename_i hz; clear hz))
    all_goals (
     refine W.loopC (D := Nat) (fun i => [(56, .row (rs.getD i default).cells), (59, .res (ob (inr (rs.getD i default).a 0 3))), (65, .row (rs.getD i default).cells), (74, .row (rs.getD i default).cells), (87, .row (rs.getD i default).cells), (90, .res (ob (saw (rs.take i) (rs.getD i default).a)))]) TTok hmo
      (fun i => ⟨131, 1, [(1, .one (.ptr 0 0 0)), (2, ob false), (3, oi i)], [(0, .box [.ag (rs.map Two.cells), .ag (ps.map Two.cells), i6 c, i6 d])]⟩) (fun i => rs.length - i) (fun i => i ≤ rs.length ∧ ∀ j, j < i → elemOk 0 rs j = true) 0 [] ⟨by omega, fun j hj => by omega⟩ ?_ ?body)
    case body =>
      intro i ⟨hi, hp⟩
      repeat' (first | refine And.intro ?_ ?_ | exact tf | exact ft | refine tt ?_ | refine ff ?_ | exact ⟨trivial⟩ | exact sAll rfl | exact sF1 rfl | exact sBld (by repeat' (first | exact trivial | rfl | exact Nat.le_of_ble_eq_true rfl | refine And.intro ?_ ?_)) rfl | exact sBS (by repeat' (first | exact trivial | rfl | exact Nat.le_of_ble_eq_true rfl | refine And.intro ?_ ?_)) rfl rfl rfl rfl | exact sBSF (by repeat' (first | exact trivial | rfl | exact Nat.le_of_ble_eq_true rfl | refine And.intro ?_ ?_)) rfl rfl rfl rfl | exact sLe rfl | exact Chk.mk (by kernel_rfl) | exact ⟨Chk.mk (by kernel_rfl)⟩ | exact sLeEq rfl rfl | exact sAnd (by repeat' constructor) (c_l2Box _) | refine fun h => ?_)
      all_goals try (exact sRow (by simp_all) (row_at rs _ (by simp_all)) rfl)
      all_goals simp only [decide_eq_true_eq, decide_eq_false_iff_not, List.length_map, Bool.not_false, Bool.not_true, Bool.not_eq_true', Bool.not_eq_false'] at *
      · refine ⟨⟨by omega, by omega, by omega⟩, fun r hr => ?_⟩
        obtain ⟨y, _, rfl⟩ := List.mem_map.1 hr; rfl
      · exact sAnd (by repeat' constructor) (c_l3Saw' (by simp [List.map_take]) (by unfold maxLen; simp; omega))
      · refine ⟨?_⟩
        have := listOk_bad (lo := 0) (xs := rs) (i := i) (by omega) (by simp_all [elemOk])
        simp [execOk, this]
      · refine ⟨i + 1, [], by omega, ⟨by omega, fun j hj => ?_⟩, ?_⟩
        · by_cases e : j = i
          · subst e
            simp_all [elemOk, inr]
            try omega
          · exact hp j (by omega)
        · repeat' (first | exact trivial | exact Side.mk rfl | exact Chk.mk (by kernel_rfl) | exact ⟨Chk.mk (by kernel_rfl)⟩ | exact ⟨wrap_succ (n := rs.length) (by omega) (by omega)⟩ | refine And.intro ?_ ?_ | rfl)
      · refine ⟨?_⟩
        have := listOk_bad (lo := 0) (xs := rs) (i := i) (by omega) (by simp_all [elemOk, inr]; try omega)
        simp [execOk, this]
      · refine ⟨?_⟩
        have := listOk_bad (lo := 0) (xs := rs) (i := i) (by omega) (by simp_all [elemOk, inr]; try omega)
        simp [execOk, this]
      · refine ⟨?_⟩
        have := listOk_bad (lo := 0) (xs := rs) (i := i) (by omega) (by simp_all [elemOk])
        simp [execOk, this]
      · have hr : listOk 0 rs = true := listOk_all (i := i) (by omega) (fun j hj _ => hp j hj)
        clear hp
        refine W.loopC (D := Nat) (fun i => [(102, .row (ps.getD i default).cells), (105, .res (ob (inr (ps.getD i default).a 0 3))), (111, .row (ps.getD i default).cells), (114, .res (ob (inr (ps.getD i default).b (-1000000) 1000000))), (125, .row (ps.getD i default).cells), (128, .res (oi (atI (ps.take i) (ps.getD i default).a)))]) TTok hmo
          (fun i => ⟨131, 1, [(1, .one (.ptr 0 0 0)), (2, ob false), (4, oi i)], [(0, .box [.ag (rs.map Two.cells), .ag (ps.map Two.cells), i6 c, i6 d])]⟩) (fun i => ps.length - i) (fun i => i ≤ ps.length ∧ ∀ j, j < i → elemOk (-1000000) ps j = true) 0 [] ⟨by omega, fun j hj => by omega⟩ ?_ ?_
        · show subC _ _ _ _
          repeat' (first | exact trivial | exact Side.mk rfl | exact Chk.mk (by kernel_rfl) | exact ⟨Chk.mk (by kernel_rfl)⟩ | refine And.intro ?_ ?_ | rfl)
        intro i ⟨hi, hp⟩
        repeat' (first | refine And.intro ?_ ?_ | exact tf | exact ft | refine tt ?_ | refine ff ?_ | exact ⟨trivial⟩ | exact sAll rfl | exact sF1 rfl | exact sBld (by repeat' (first | exact trivial | rfl | exact Nat.le_of_ble_eq_true rfl | refine And.intro ?_ ?_)) rfl | exact sBS (by repeat' (first | exact trivial | rfl | exact Nat.le_of_ble_eq_true rfl | refine And.intro ?_ ?_)) rfl rfl rfl rfl | exact sBSF (by repeat' (first | exact trivial | rfl | exact Nat.le_of_ble_eq_true rfl | refine And.intro ?_ ?_)) rfl rfl rfl rfl | exact sLe rfl | exact Chk.mk (by kernel_rfl) | exact ⟨Chk.mk (by kernel_rfl)⟩ | exact sLeEq rfl rfl | exact sAnd (by repeat' constructor) (c_l2Box _) | exact sAnd (by repeat' constructor) (c_l1Num _) | refine fun h => ?_)
        all_goals try (exact sRow (by simp_all) (row_at ps _ (by simp_all)) rfl)
        all_goals simp only [decide_eq_true_eq, decide_eq_false_iff_not, List.length_map, Bool.not_false, Bool.not_true, Bool.not_eq_true', Bool.not_eq_false'] at *
        · refine ⟨⟨by omega, by omega, by omega⟩, fun r hr => ?_⟩
          obtain ⟨y, _, rfl⟩ := List.mem_map.1 hr; rfl
        · exact sAnd (by repeat' constructor) (c_l3At' (by simp [List.map_take]) (by unfold maxLen; simp; omega))
        · refine ⟨?_⟩
          have hs := atI_saw.1 h
          have := listOk_bad (lo := -1000000) (xs := ps) (i := i) (by omega) (by simp_all [elemOk])
          simp [execOk, this]
        · have hs := atI_nsaw.1 h
          refine ⟨i + 1, [], by omega, ⟨by omega, fun j hj => ?_⟩, ?_⟩
          · by_cases e : j = i
            · subst e
              simp_all [elemOk, inr]
              try omega
            · exact hp j (by omega)
          · repeat' (first | exact trivial | exact Side.mk rfl | exact Chk.mk (by kernel_rfl) | exact ⟨Chk.mk (by kernel_rfl)⟩ | exact ⟨wrap_succ (n := ps.length) (by omega) (by omega)⟩ | refine And.intro ?_ ?_ | rfl)
        · refine ⟨?_⟩
          have := listOk_bad (lo := -1000000) (xs := ps) (i := i) (by omega) (by simp_all [elemOk])
          simp [execOk, this]
        · refine ⟨?_⟩
          have := listOk_bad (lo := -1000000) (xs := ps) (i := i) (by omega) (by simp_all [elemOk])
          simp [execOk, this]
        · have hq : listOk (-1000000) ps = true := listOk_all (i := i) (by omega) (fun j hj _ => hp j hj)
          refine ⟨?_⟩
          simp [execOk, hh, hr, hq]
    all_goals (show subC _ _ _ _; repeat' (first | exact trivial | exact Side.mk rfl | exact Chk.mk (by kernel_rfl) | exact ⟨Chk.mk (by kernel_rfl)⟩ | refine And.intro ?_ ?_ | rfl))
  · refine Pure.vc [(16, .res (ob (inr c (-1000000) 1000000)))] TTok hmo Go.Proofs.Tryz.func134 (by kernel_rfl) rfl (by kernel_rfl) ?_
    repeat' (first | refine And.intro ?_ ?_ | exact tf | exact ft | refine tt ?_ | refine ff ?_ | exact ⟨trivial⟩ | exact sAll rfl | exact sF1 rfl | exact sBld (by repeat' (first | exact trivial | rfl | exact Nat.le_of_ble_eq_true rfl | refine And.intro ?_ ?_)) rfl | exact sBS (by repeat' (first | exact trivial | rfl | exact Nat.le_of_ble_eq_true rfl | refine And.intro ?_ ?_)) rfl rfl rfl rfl | exact sBSF (by repeat' (first | exact trivial | rfl | exact Nat.le_of_ble_eq_true rfl | refine And.intro ?_ ?_)) rfl rfl rfl rfl | exact sLe rfl | exact Chk.mk (by kernel_rfl) | exact ⟨Chk.mk (by kernel_rfl)⟩ | exact sLeEq rfl rfl | exact sAnd (by repeat' constructor) (c_l1Num _) | refine fun h => ?_)
    all_goals try (exfalso; apply hh; simp_all [headOk, inr]; done)
    all_goals (refine Side.mk ?_; simp_all [execOk])
end Mg

/- Runs that are right: impl's walk. No condition. -/
namespace Mg
open Go Go.RowKit
set_option maxRecDepth 100000
set_option linter.unusedVariables false
set_option linter.unusedSimpArgs false
attribute [local irreducible] W Pure
theorem inr_cases {a : Int} : a = 0 ∨ a = 1 ∨ a = 2 ∨ a = 3 ∨ inr a 0 3 = false := by
  by_cases h : inr a 0 3 = true
  · simp only [inr, Bool.and_eq_true, decide_eq_true_eq] at h; omega
  · simp only [Bool.not_eq_true] at h; simp [h]
theorem saw_other {xs : List Two} {i : Nat} {a b k : Int} (hi : i < xs.length) (hx : xs.getD i default = ⟨a, b⟩) (h : a ≠ k) : saw (xs.take (i + 1)) k = saw (xs.take i) k := by
  rw [saw_step hi, hx]; simp [h]
theorem saw_this {xs : List Two} {i : Nat} {a b : Int} (hi : i < xs.length) (hx : xs.getD i default = ⟨a, b⟩) : saw (xs.take (i + 1)) a = true := by
  rw [saw_step hi, hx]; simp
theorem row_is {xs : List Two} {i : Nat} {x : Two} (h : i < xs.length) (hx : xs.getD i default = x) : (xs.map Two.cells)[((i : Int)).toNat]? = some x.cells := by
  rw [← hx]; exact row_at xs _ h
theorem elemOk_is {lo : Int} {xs : List Two} {i : Nat} {a b : Int} (hx : xs.getD i default = ⟨a, b⟩) : elemOk lo xs i = (inr a 0 3 && inr b lo 1000000 && !saw (xs.take i) a) := by
  unfold elemOk; rw [hx]
set_option maxHeartbeats 4000000 in
theorem c_impl_ExecOk (x : Run) (hx : x.ok lim) : Pure PP false 140 [.agg x.cells] (ob (execOk x)) := by
  obtain ⟨rs, ps, c, d⟩ := x
  have hxr : rs.length ≤ 1048576 := hx.1
  have hxp : ps.length ≤ 1048576 := hx.2
  by_cases hh : headOk ⟨rs, ps, c, d⟩ = true
  · refine Pure.vc [(11, .res (ob (inr d 0 3))), (16, .res (ob (inr c (-1000000) 1000000)))] TTok hmo Go.Proofs.Tryz.func140 (by kernel_rfl) rfl (by kernel_rfl) ?_
    repeat' (first | refine And.intro ?_ ?_ | exact tf | exact ft | refine tt ?_ | refine ff ?_ | exact ⟨trivial⟩ | exact sAll rfl | exact sF1 rfl | exact sBld (by repeat' (first | exact trivial | rfl | exact Nat.le_of_ble_eq_true rfl | refine And.intro ?_ ?_)) rfl | exact sBS (by repeat' (first | exact trivial | rfl | exact Nat.le_of_ble_eq_true rfl | refine And.intro ?_ ?_)) rfl rfl rfl rfl | exact sBSF (by repeat' (first | exact trivial | rfl | exact Nat.le_of_ble_eq_true rfl | refine And.intro ?_ ?_)) rfl rfl rfl rfl | exact sLe rfl | exact Chk.mk (by kernel_rfl) | exact ⟨Chk.mk (by kernel_rfl)⟩ | exact sLeEq rfl rfl | exact sAnd (by repeat' constructor) (c_impl_in _ _ _) | refine fun h => ?_)
    all_goals try (exfalso; simp_all [headOk, inr]; done)
    all_goals try (exfalso; simp_all [headOk, inr]; omega)
    all_goals repeat (first | clear h | (rename_i hz; clear hz))
    all_goals (
     refine W.loopC (D := Nat) (fun i => [(51, .row (rs.getD i default).cells), (55, .res (ob (inr (rs.getD i default).a 0 3))), (66, .res (ob (inr (rs.getD i default).b (0) 1000000)))]) TTok hmo
      (fun i => ⟨100, 3, [(1, .one (.ptr 0 0 0)), (2, ob false), (3, .one (.ptr 1 0 0)), (4, .one (.ptr 2 0 0)), (47, .one (.ag (rs.map Two.cells))), (48, oi rs.length), (49, oi i)], [(0, .box [.ag (rs.map Two.cells), .ag (ps.map Two.cells), i6 c, i6 d]), (1, .box [bo (saw (rs.take i) 0), bo (saw (rs.take i) 1), bo (saw (rs.take i) 2), bo (saw (rs.take i) 3)]), (2, .box [bo false, bo false, bo false, bo false])]⟩) (fun i => rs.length - i) (fun i => i ≤ rs.length ∧ ∀ j, j < i → elemOk (0) rs j = true) 0 [] ⟨by omega, fun j hj => by omega⟩ ?_ ?body)
    case body =>
      intro i ⟨hi, hp⟩
      obtain ⟨a, b, hx⟩ : ∃ a b, rs.getD i default = ⟨a, b⟩ := ⟨_, _, rfl⟩
      by_cases hlt : i < rs.length
      · rw [hx]
        rcases inr_cases (a := a) with rfl | rfl | rfl | rfl | ha
        · repeat' (first | refine And.intro ?_ ?_ | exact tf | exact ft | refine tt ?_ | refine ff ?_ | exact ⟨trivial⟩ | exact sAll rfl | exact sF1 rfl | exact sBld (by repeat' (first | exact trivial | rfl | exact Nat.le_of_ble_eq_true rfl | refine And.intro ?_ ?_)) rfl | exact sBS (by repeat' (first | exact trivial | rfl | exact Nat.le_of_ble_eq_true rfl | refine And.intro ?_ ?_)) rfl rfl rfl rfl | exact sBSF (by repeat' (first | exact trivial | rfl | exact Nat.le_of_ble_eq_true rfl | refine And.intro ?_ ?_)) rfl rfl rfl rfl | exact sLe rfl | exact Chk.mk (by kernel_rfl) | exact ⟨Chk.mk (by kernel_rfl)⟩ | exact sLeEq rfl rfl | exact sAnd (by repeat' constructor) (c_impl_in _ _ _) | refine fun h => ?_)
          all_goals try (exfalso; simp_all; done)
          all_goals simp only [decide_eq_true_eq, decide_eq_false_iff_not, List.length_map, Bool.not_false, Bool.not_true, Bool.not_eq_true', Bool.not_eq_false'] at *
          · exact sRow (by omega) (row_is (by omega) hx) rfl
          · exact ⟨by decide⟩
          · refine ⟨?_⟩
            have := listOk_bad (lo := 0) (xs := rs) (i := i) (by omega) (by rw [elemOk_is hx]; simp_all)
            simp [execOk, this]
          · exact ⟨by decide⟩
          · refine ⟨i + 1, [], by omega, ⟨by omega, fun j hj => ?_⟩, ?_⟩
            · by_cases e : j = i
              · subst e; rw [elemOk_is hx]; simp_all [inr]
              · exact hp j (by omega)
            · repeat' (first | exact trivial | exact Side.mk rfl | exact Chk.mk (by kernel_rfl) | exact ⟨Chk.mk (by kernel_rfl)⟩ | exact ⟨wrap_succ (n := rs.length) (by omega) (by omega)⟩ | refine And.intro ?_ ?_ | rfl)
              · exact ⟨by rw [saw_this hlt hx]⟩
              · exact ⟨by rw [saw_other hlt hx (by decide)]⟩
              · exact ⟨by rw [saw_other hlt hx (by decide)]⟩
              · exact ⟨by rw [saw_other hlt hx (by decide)]⟩
          · refine ⟨?_⟩
            have := listOk_bad (lo := 0) (xs := rs) (i := i) (by omega) (by rw [elemOk_is hx]; simp_all)
            simp [execOk, this]
        · repeat' (first | refine And.intro ?_ ?_ | exact tf | exact ft | refine tt ?_ | refine ff ?_ | exact ⟨trivial⟩ | exact sAll rfl | exact sF1 rfl | exact sBld (by repeat' (first | exact trivial | rfl | exact Nat.le_of_ble_eq_true rfl | refine And.intro ?_ ?_)) rfl | exact sBS (by repeat' (first | exact trivial | rfl | exact Nat.le_of_ble_eq_true rfl | refine And.intro ?_ ?_)) rfl rfl rfl rfl | exact sBSF (by repeat' (first | exact trivial | rfl | exact Nat.le_of_ble_eq_true rfl | refine And.intro ?_ ?_)) rfl rfl rfl rfl | exact sLe rfl | exact Chk.mk (by kernel_rfl) | exact ⟨Chk.mk (by kernel_rfl)⟩ | exact sLeEq rfl rfl | exact sAnd (by repeat' constructor) (c_impl_in _ _ _) | refine fun h => ?_)
          all_goals try (exfalso; simp_all; done)
          all_goals simp only [decide_eq_true_eq, decide_eq_false_iff_not, List.length_map, Bool.not_false, Bool.not_true, Bool.not_eq_true', Bool.not_eq_false'] at *
          · exact sRow (by omega) (row_is (by omega) hx) rfl
          · exact ⟨by decide⟩
          · refine ⟨?_⟩
            have := listOk_bad (lo := 0) (xs := rs) (i := i) (by omega) (by rw [elemOk_is hx]; simp_all)
            simp [execOk, this]
          · exact ⟨by decide⟩
          · refine ⟨i + 1, [], by omega, ⟨by omega, fun j hj => ?_⟩, ?_⟩
            · by_cases e : j = i
              · subst e; rw [elemOk_is hx]; simp_all [inr]
              · exact hp j (by omega)
            · repeat' (first | exact trivial | exact Side.mk rfl | exact Chk.mk (by kernel_rfl) | exact ⟨Chk.mk (by kernel_rfl)⟩ | exact ⟨wrap_succ (n := rs.length) (by omega) (by omega)⟩ | refine And.intro ?_ ?_ | rfl)
              · exact ⟨by rw [saw_other hlt hx (by decide)]⟩
              · exact ⟨by rw [saw_this hlt hx]⟩
              · exact ⟨by rw [saw_other hlt hx (by decide)]⟩
              · exact ⟨by rw [saw_other hlt hx (by decide)]⟩
          · refine ⟨?_⟩
            have := listOk_bad (lo := 0) (xs := rs) (i := i) (by omega) (by rw [elemOk_is hx]; simp_all)
            simp [execOk, this]
        · repeat' (first | refine And.intro ?_ ?_ | exact tf | exact ft | refine tt ?_ | refine ff ?_ | exact ⟨trivial⟩ | exact sAll rfl | exact sF1 rfl | exact sBld (by repeat' (first | exact trivial | rfl | exact Nat.le_of_ble_eq_true rfl | refine And.intro ?_ ?_)) rfl | exact sBS (by repeat' (first | exact trivial | rfl | exact Nat.le_of_ble_eq_true rfl | refine And.intro ?_ ?_)) rfl rfl rfl rfl | exact sBSF (by repeat' (first | exact trivial | rfl | exact Nat.le_of_ble_eq_true rfl | refine And.intro ?_ ?_)) rfl rfl rfl rfl | exact sLe rfl | exact Chk.mk (by kernel_rfl) | exact ⟨Chk.mk (by kernel_rfl)⟩ | exact sLeEq rfl rfl | exact sAnd (by repeat' constructor) (c_impl_in _ _ _) | refine fun h => ?_)
          all_goals try (exfalso; simp_all; done)
          all_goals simp only [decide_eq_true_eq, decide_eq_false_iff_not, List.length_map, Bool.not_false, Bool.not_true, Bool.not_eq_true', Bool.not_eq_false'] at *
          · exact sRow (by omega) (row_is (by omega) hx) rfl
          · exact ⟨by decide⟩
          · refine ⟨?_⟩
            have := listOk_bad (lo := 0) (xs := rs) (i := i) (by omega) (by rw [elemOk_is hx]; simp_all)
            simp [execOk, this]
          · exact ⟨by decide⟩
          · refine ⟨i + 1, [], by omega, ⟨by omega, fun j hj => ?_⟩, ?_⟩
            · by_cases e : j = i
              · subst e; rw [elemOk_is hx]; simp_all [inr]
              · exact hp j (by omega)
            · repeat' (first | exact trivial | exact Side.mk rfl | exact Chk.mk (by kernel_rfl) | exact ⟨Chk.mk (by kernel_rfl)⟩ | exact ⟨wrap_succ (n := rs.length) (by omega) (by omega)⟩ | refine And.intro ?_ ?_ | rfl)
              · exact ⟨by rw [saw_other hlt hx (by decide)]⟩
              · exact ⟨by rw [saw_other hlt hx (by decide)]⟩
              · exact ⟨by rw [saw_this hlt hx]⟩
              · exact ⟨by rw [saw_other hlt hx (by decide)]⟩
          · refine ⟨?_⟩
            have := listOk_bad (lo := 0) (xs := rs) (i := i) (by omega) (by rw [elemOk_is hx]; simp_all)
            simp [execOk, this]
        · repeat' (first | refine And.intro ?_ ?_ | exact tf | exact ft | refine tt ?_ | refine ff ?_ | exact ⟨trivial⟩ | exact sAll rfl | exact sF1 rfl | exact sBld (by repeat' (first | exact trivial | rfl | exact Nat.le_of_ble_eq_true rfl | refine And.intro ?_ ?_)) rfl | exact sBS (by repeat' (first | exact trivial | rfl | exact Nat.le_of_ble_eq_true rfl | refine And.intro ?_ ?_)) rfl rfl rfl rfl | exact sBSF (by repeat' (first | exact trivial | rfl | exact Nat.le_of_ble_eq_true rfl | refine And.intro ?_ ?_)) rfl rfl rfl rfl | exact sLe rfl | exact Chk.mk (by kernel_rfl) | exact ⟨Chk.mk (by kernel_rfl)⟩ | exact sLeEq rfl rfl | exact sAnd (by repeat' constructor) (c_impl_in _ _ _) | refine fun h => ?_)
          all_goals try (exfalso; simp_all; done)
          all_goals simp only [decide_eq_true_eq, decide_eq_false_iff_not, List.length_map, Bool.not_false, Bool.not_true, Bool.not_eq_true', Bool.not_eq_false'] at *
          · exact sRow (by omega) (row_is (by omega) hx) rfl
          · exact ⟨by decide⟩
          · refine ⟨?_⟩
            have := listOk_bad (lo := 0) (xs := rs) (i := i) (by omega) (by rw [elemOk_is hx]; simp_all)
            simp [execOk, this]
          · exact ⟨by decide⟩
          · refine ⟨i + 1, [], by omega, ⟨by omega, fun j hj => ?_⟩, ?_⟩
            · by_cases e : j = i
              · subst e; rw [elemOk_is hx]; simp_all [inr]
              · exact hp j (by omega)
            · repeat' (first | exact trivial | exact Side.mk rfl | exact Chk.mk (by kernel_rfl) | exact ⟨Chk.mk (by kernel_rfl)⟩ | exact ⟨wrap_succ (n := rs.length) (by omega) (by omega)⟩ | refine And.intro ?_ ?_ | rfl)
              · exact ⟨by rw [saw_other hlt hx (by decide)]⟩
              · exact ⟨by rw [saw_other hlt hx (by decide)]⟩
              · exact ⟨by rw [saw_other hlt hx (by decide)]⟩
              · exact ⟨by rw [saw_this hlt hx]⟩
          · refine ⟨?_⟩
            have := listOk_bad (lo := 0) (xs := rs) (i := i) (by omega) (by rw [elemOk_is hx]; simp_all)
            simp [execOk, this]
        · repeat' (first | refine And.intro ?_ ?_ | exact tf | exact ft | refine tt ?_ | refine ff ?_ | exact ⟨trivial⟩ | exact sAll rfl | exact sF1 rfl | exact sBld (by repeat' (first | exact trivial | rfl | exact Nat.le_of_ble_eq_true rfl | refine And.intro ?_ ?_)) rfl | exact sBS (by repeat' (first | exact trivial | rfl | exact Nat.le_of_ble_eq_true rfl | refine And.intro ?_ ?_)) rfl rfl rfl rfl | exact sBSF (by repeat' (first | exact trivial | rfl | exact Nat.le_of_ble_eq_true rfl | refine And.intro ?_ ?_)) rfl rfl rfl rfl | exact sLe rfl | exact Chk.mk (by kernel_rfl) | exact ⟨Chk.mk (by kernel_rfl)⟩ | exact sLeEq rfl rfl | exact sAnd (by repeat' constructor) (c_impl_in _ _ _) | refine fun h => ?_)
          all_goals try (exfalso; simp_all; done)
          all_goals simp only [decide_eq_true_eq, decide_eq_false_iff_not, List.length_map, Bool.not_false, Bool.not_true, Bool.not_eq_true', Bool.not_eq_false'] at *
          · exact sRow (by omega) (row_is (by omega) hx) rfl
          · refine ⟨?_⟩
            have := listOk_bad (lo := 0) (xs := rs) (i := i) (by omega) (by rw [elemOk_is hx]; simp_all)
            simp [execOk, this]
      · have hqrs : listOk (0) rs = true := listOk_all (i := i) (by omega) (fun j hj _ => hp j hj)
        clear hp hx
        repeat' (first | refine And.intro ?_ ?_ | exact tf | exact ft | refine tt ?_ | refine ff ?_ | exact ⟨trivial⟩ | exact sAll rfl | exact sF1 rfl | exact sBld (by repeat' (first | exact trivial | rfl | exact Nat.le_of_ble_eq_true rfl | refine And.intro ?_ ?_)) rfl | exact sBS (by repeat' (first | exact trivial | rfl | exact Nat.le_of_ble_eq_true rfl | refine And.intro ?_ ?_)) rfl rfl rfl rfl | exact sBSF (by repeat' (first | exact trivial | rfl | exact Nat.le_of_ble_eq_true rfl | refine And.intro ?_ ?_)) rfl rfl rfl rfl | exact sLe rfl | exact Chk.mk (by kernel_rfl) | exact ⟨Chk.mk (by kernel_rfl)⟩ | exact sLeEq rfl rfl | refine fun h => ?_)
        all_goals try (exfalso; simp_all; done)
        all_goals try (exfalso; simp at *; omega)
        refine W.loopC (D := Nat) (fun i => [(78, .row (ps.getD i default).cells), (82, .res (ob (inr (ps.getD i default).a 0 3))), (93, .res (ob (inr (ps.getD i default).b (-1000000) 1000000)))]) TTok hmo
              (fun i => ⟨100, 3, [(1, .one (.ptr 0 0 0)), (2, ob false), (3, .one (.ptr 1 0 0)), (4, .one (.ptr 2 0 0)), (74, .one (.ag (ps.map Two.cells))), (75, oi ps.length), (76, oi i)], [(0, .box [.ag (rs.map Two.cells), .ag (ps.map Two.cells), i6 c, i6 d]), (2, .box [bo (saw (ps.take i) 0), bo (saw (ps.take i) 1), bo (saw (ps.take i) 2), bo (saw (ps.take i) 3)])]⟩) (fun i => ps.length - i) (fun i => i ≤ ps.length ∧ ∀ j, j < i → elemOk (-1000000) ps j = true) 0 [] ⟨by omega, fun j hj => by omega⟩ ?_ ?_
        · show subC _ _ _ _
          repeat' (first | exact trivial | exact Side.mk rfl | exact Chk.mk (by kernel_rfl) | exact ⟨Chk.mk (by kernel_rfl)⟩ | refine And.intro ?_ ?_ | rfl)
          all_goals exact ⟨by simp⟩
        · intro i ⟨hi, hp⟩
          obtain ⟨a, b, hx⟩ : ∃ a b, ps.getD i default = ⟨a, b⟩ := ⟨_, _, rfl⟩
          by_cases hlt : i < ps.length
          · rw [hx]
            rcases inr_cases (a := a) with rfl | rfl | rfl | rfl | ha
            · repeat' (first | refine And.intro ?_ ?_ | exact tf | exact ft | refine tt ?_ | refine ff ?_ | exact ⟨trivial⟩ | exact sAll rfl | exact sF1 rfl | exact sBld (by repeat' (first | exact trivial | rfl | exact Nat.le_of_ble_eq_true rfl | refine And.intro ?_ ?_)) rfl | exact sBS (by repeat' (first | exact trivial | rfl | exact Nat.le_of_ble_eq_true rfl | refine And.intro ?_ ?_)) rfl rfl rfl rfl | exact sBSF (by repeat' (first | exact trivial | rfl | exact Nat.le_of_ble_eq_true rfl | refine And.intro ?_ ?_)) rfl rfl rfl rfl | exact sLe rfl | exact Chk.mk (by kernel_rfl) | exact ⟨Chk.mk (by kernel_rfl)⟩ | exact sLeEq rfl rfl | exact sAnd (by repeat' constructor) (c_impl_in _ _ _) | refine fun h => ?_)
              all_goals try (exfalso; simp_all; done)
              all_goals simp only [decide_eq_true_eq, decide_eq_false_iff_not, List.length_map, Bool.not_false, Bool.not_true, Bool.not_eq_true', Bool.not_eq_false'] at *
              · exact sRow (by omega) (row_is (by omega) hx) rfl
              · exact ⟨by decide⟩
              · refine ⟨?_⟩
                have := listOk_bad (lo := -1000000) (xs := ps) (i := i) (by omega) (by rw [elemOk_is hx]; simp_all)
                simp [execOk, this]
              · exact ⟨by decide⟩
              · refine ⟨i + 1, [], by omega, ⟨by omega, fun j hj => ?_⟩, ?_⟩
                · by_cases e : j = i
                  · subst e; rw [elemOk_is hx]; simp_all [inr]
                  · exact hp j (by omega)
                · repeat' (first | exact trivial | exact Side.mk rfl | exact Chk.mk (by kernel_rfl) | exact ⟨Chk.mk (by kernel_rfl)⟩ | exact ⟨wrap_succ (n := ps.length) (by omega) (by omega)⟩ | refine And.intro ?_ ?_ | rfl)
                  · exact ⟨by rw [saw_this hlt hx]⟩
                  · exact ⟨by rw [saw_other hlt hx (by decide)]⟩
                  · exact ⟨by rw [saw_other hlt hx (by decide)]⟩
                  · exact ⟨by rw [saw_other hlt hx (by decide)]⟩
              · refine ⟨?_⟩
                have := listOk_bad (lo := -1000000) (xs := ps) (i := i) (by omega) (by rw [elemOk_is hx]; simp_all)
                simp [execOk, this]
            · repeat' (first | refine And.intro ?_ ?_ | exact tf | exact ft | refine tt ?_ | refine ff ?_ | exact ⟨trivial⟩ | exact sAll rfl | exact sF1 rfl | exact sBld (by repeat' (first | exact trivial | rfl | exact Nat.le_of_ble_eq_true rfl | refine And.intro ?_ ?_)) rfl | exact sBS (by repeat' (first | exact trivial | rfl | exact Nat.le_of_ble_eq_true rfl | refine And.intro ?_ ?_)) rfl rfl rfl rfl | exact sBSF (by repeat' (first | exact trivial | rfl | exact Nat.le_of_ble_eq_true rfl | refine And.intro ?_ ?_)) rfl rfl rfl rfl | exact sLe rfl | exact Chk.mk (by kernel_rfl) | exact ⟨Chk.mk (by kernel_rfl)⟩ | exact sLeEq rfl rfl | exact sAnd (by repeat' constructor) (c_impl_in _ _ _) | refine fun h => ?_)
              all_goals try (exfalso; simp_all; done)
              all_goals simp only [decide_eq_true_eq, decide_eq_false_iff_not, List.length_map, Bool.not_false, Bool.not_true, Bool.not_eq_true', Bool.not_eq_false'] at *
              · exact sRow (by omega) (row_is (by omega) hx) rfl
              · exact ⟨by decide⟩
              · refine ⟨?_⟩
                have := listOk_bad (lo := -1000000) (xs := ps) (i := i) (by omega) (by rw [elemOk_is hx]; simp_all)
                simp [execOk, this]
              · exact ⟨by decide⟩
              · refine ⟨i + 1, [], by omega, ⟨by omega, fun j hj => ?_⟩, ?_⟩
                · by_cases e : j = i
                  · subst e; rw [elemOk_is hx]; simp_all [inr]
                  · exact hp j (by omega)
                · repeat' (first | exact trivial | exact Side.mk rfl | exact Chk.mk (by kernel_rfl) | exact ⟨Chk.mk (by kernel_rfl)⟩ | exact ⟨wrap_succ (n := ps.length) (by omega) (by omega)⟩ | refine And.intro ?_ ?_ | rfl)
                  · exact ⟨by rw [saw_other hlt hx (by decide)]⟩
                  · exact ⟨by rw [saw_this hlt hx]⟩
                  · exact ⟨by rw [saw_other hlt hx (by decide)]⟩
                  · exact ⟨by rw [saw_other hlt hx (by decide)]⟩
              · refine ⟨?_⟩
                have := listOk_bad (lo := -1000000) (xs := ps) (i := i) (by omega) (by rw [elemOk_is hx]; simp_all)
                simp [execOk, this]
            · repeat' (first | refine And.intro ?_ ?_ | exact tf | exact ft | refine tt ?_ | refine ff ?_ | exact ⟨trivial⟩ | exact sAll rfl | exact sF1 rfl | exact sBld (by repeat' (first | exact trivial | rfl | exact Nat.le_of_ble_eq_true rfl | refine And.intro ?_ ?_)) rfl | exact sBS (by repeat' (first | exact trivial | rfl | exact Nat.le_of_ble_eq_true rfl | refine And.intro ?_ ?_)) rfl rfl rfl rfl | exact sBSF (by repeat' (first | exact trivial | rfl | exact Nat.le_of_ble_eq_true rfl | refine And.intro ?_ ?_)) rfl rfl rfl rfl | exact sLe rfl | exact Chk.mk (by kernel_rfl) | exact ⟨Chk.mk (by kernel_rfl)⟩ | exact sLeEq rfl rfl | exact sAnd (by repeat' constructor) (c_impl_in _ _ _) | refine fun h => ?_)
              all_goals try (exfalso; simp_all; done)
              all_goals simp only [decide_eq_true_eq, decide_eq_false_iff_not, List.length_map, Bool.not_false, Bool.not_true, Bool.not_eq_true', Bool.not_eq_false'] at *
              · exact sRow (by omega) (row_is (by omega) hx) rfl
              · exact ⟨by decide⟩
              · refine ⟨?_⟩
                have := listOk_bad (lo := -1000000) (xs := ps) (i := i) (by omega) (by rw [elemOk_is hx]; simp_all)
                simp [execOk, this]
              · exact ⟨by decide⟩
              · refine ⟨i + 1, [], by omega, ⟨by omega, fun j hj => ?_⟩, ?_⟩
                · by_cases e : j = i
                  · subst e; rw [elemOk_is hx]; simp_all [inr]
                  · exact hp j (by omega)
                · repeat' (first | exact trivial | exact Side.mk rfl | exact Chk.mk (by kernel_rfl) | exact ⟨Chk.mk (by kernel_rfl)⟩ | exact ⟨wrap_succ (n := ps.length) (by omega) (by omega)⟩ | refine And.intro ?_ ?_ | rfl)
                  · exact ⟨by rw [saw_other hlt hx (by decide)]⟩
                  · exact ⟨by rw [saw_other hlt hx (by decide)]⟩
                  · exact ⟨by rw [saw_this hlt hx]⟩
                  · exact ⟨by rw [saw_other hlt hx (by decide)]⟩
              · refine ⟨?_⟩
                have := listOk_bad (lo := -1000000) (xs := ps) (i := i) (by omega) (by rw [elemOk_is hx]; simp_all)
                simp [execOk, this]
            · repeat' (first | refine And.intro ?_ ?_ | exact tf | exact ft | refine tt ?_ | refine ff ?_ | exact ⟨trivial⟩ | exact sAll rfl | exact sF1 rfl | exact sBld (by repeat' (first | exact trivial | rfl | exact Nat.le_of_ble_eq_true rfl | refine And.intro ?_ ?_)) rfl | exact sBS (by repeat' (first | exact trivial | rfl | exact Nat.le_of_ble_eq_true rfl | refine And.intro ?_ ?_)) rfl rfl rfl rfl | exact sBSF (by repeat' (first | exact trivial | rfl | exact Nat.le_of_ble_eq_true rfl | refine And.intro ?_ ?_)) rfl rfl rfl rfl | exact sLe rfl | exact Chk.mk (by kernel_rfl) | exact ⟨Chk.mk (by kernel_rfl)⟩ | exact sLeEq rfl rfl | exact sAnd (by repeat' constructor) (c_impl_in _ _ _) | refine fun h => ?_)
              all_goals try (exfalso; simp_all; done)
              all_goals simp only [decide_eq_true_eq, decide_eq_false_iff_not, List.length_map, Bool.not_false, Bool.not_true, Bool.not_eq_true', Bool.not_eq_false'] at *
              · exact sRow (by omega) (row_is (by omega) hx) rfl
              · exact ⟨by decide⟩
              · refine ⟨?_⟩
                have := listOk_bad (lo := -1000000) (xs := ps) (i := i) (by omega) (by rw [elemOk_is hx]; simp_all)
                simp [execOk, this]
              · exact ⟨by decide⟩
              · refine ⟨i + 1, [], by omega, ⟨by omega, fun j hj => ?_⟩, ?_⟩
                · by_cases e : j = i
                  · subst e; rw [elemOk_is hx]; simp_all [inr]
                  · exact hp j (by omega)
                · repeat' (first | exact trivial | exact Side.mk rfl | exact Chk.mk (by kernel_rfl) | exact ⟨Chk.mk (by kernel_rfl)⟩ | exact ⟨wrap_succ (n := ps.length) (by omega) (by omega)⟩ | refine And.intro ?_ ?_ | rfl)
                  · exact ⟨by rw [saw_other hlt hx (by decide)]⟩
                  · exact ⟨by rw [saw_other hlt hx (by decide)]⟩
                  · exact ⟨by rw [saw_other hlt hx (by decide)]⟩
                  · exact ⟨by rw [saw_this hlt hx]⟩
              · refine ⟨?_⟩
                have := listOk_bad (lo := -1000000) (xs := ps) (i := i) (by omega) (by rw [elemOk_is hx]; simp_all)
                simp [execOk, this]
            · repeat' (first | refine And.intro ?_ ?_ | exact tf | exact ft | refine tt ?_ | refine ff ?_ | exact ⟨trivial⟩ | exact sAll rfl | exact sF1 rfl | exact sBld (by repeat' (first | exact trivial | rfl | exact Nat.le_of_ble_eq_true rfl | refine And.intro ?_ ?_)) rfl | exact sBS (by repeat' (first | exact trivial | rfl | exact Nat.le_of_ble_eq_true rfl | refine And.intro ?_ ?_)) rfl rfl rfl rfl | exact sBSF (by repeat' (first | exact trivial | rfl | exact Nat.le_of_ble_eq_true rfl | refine And.intro ?_ ?_)) rfl rfl rfl rfl | exact sLe rfl | exact Chk.mk (by kernel_rfl) | exact ⟨Chk.mk (by kernel_rfl)⟩ | exact sLeEq rfl rfl | exact sAnd (by repeat' constructor) (c_impl_in _ _ _) | refine fun h => ?_)
              all_goals try (exfalso; simp_all; done)
              all_goals simp only [decide_eq_true_eq, decide_eq_false_iff_not, List.length_map, Bool.not_false, Bool.not_true, Bool.not_eq_true', Bool.not_eq_false'] at *
              · exact sRow (by omega) (row_is (by omega) hx) rfl
              · refine ⟨?_⟩
                have := listOk_bad (lo := -1000000) (xs := ps) (i := i) (by omega) (by rw [elemOk_is hx]; simp_all)
                simp [execOk, this]
          · have hqps : listOk (-1000000) ps = true := listOk_all (i := i) (by omega) (fun j hj _ => hp j hj)
            clear hp hx
            repeat' (first | refine And.intro ?_ ?_ | exact tf | exact ft | refine tt ?_ | refine ff ?_ | exact ⟨trivial⟩ | exact sAll rfl | exact sF1 rfl | exact sBld (by repeat' (first | exact trivial | rfl | exact Nat.le_of_ble_eq_true rfl | refine And.intro ?_ ?_)) rfl | exact sBS (by repeat' (first | exact trivial | rfl | exact Nat.le_of_ble_eq_true rfl | refine And.intro ?_ ?_)) rfl rfl rfl rfl | exact sBSF (by repeat' (first | exact trivial | rfl | exact Nat.le_of_ble_eq_true rfl | refine And.intro ?_ ?_)) rfl rfl rfl rfl | exact sLe rfl | exact Chk.mk (by kernel_rfl) | exact ⟨Chk.mk (by kernel_rfl)⟩ | exact sLeEq rfl rfl | refine fun h => ?_)
            all_goals try (exfalso; simp_all; done)
            all_goals try (exfalso; simp at *; omega)
            refine ⟨?_⟩
            simp [execOk, hh, hqrs, hqps]
    all_goals (show subC _ _ _ _; repeat' (first | exact trivial | exact Side.mk rfl | exact Chk.mk (by kernel_rfl) | exact ⟨Chk.mk (by kernel_rfl)⟩ | refine And.intro ?_ ?_ | rfl))
    all_goals exact ⟨by simp⟩
  · refine Pure.vc [(11, .res (ob (inr d 0 3))), (16, .res (ob (inr c (-1000000) 1000000)))] TTok hmo Go.Proofs.Tryz.func140 (by kernel_rfl) rfl (by kernel_rfl) ?_
    repeat' (first | refine And.intro ?_ ?_ | exact tf | exact ft | refine tt ?_ | refine ff ?_ | exact ⟨trivial⟩ | exact sAll rfl | exact sF1 rfl | exact sBld (by repeat' (first | exact trivial | rfl | exact Nat.le_of_ble_eq_true rfl | refine And.intro ?_ ?_)) rfl | exact sBS (by repeat' (first | exact trivial | rfl | exact Nat.le_of_ble_eq_true rfl | refine And.intro ?_ ?_)) rfl rfl rfl rfl | exact sBSF (by repeat' (first | exact trivial | rfl | exact Nat.le_of_ble_eq_true rfl | refine And.intro ?_ ?_)) rfl rfl rfl rfl | exact sLe rfl | exact Chk.mk (by kernel_rfl) | exact ⟨Chk.mk (by kernel_rfl)⟩ | exact sLeEq rfl rfl | exact sAnd (by repeat' constructor) (c_impl_in _ _ _) | refine fun h => ?_)
    all_goals try (exfalso; apply hh; simp_all [headOk, inr]; done)
    all_goals (refine Side.mk ?_; simp_all [execOk])
end Mg
