/- Ranges. No condition. -/
import Derived.Test.YthflichlfpmenaaGreatR1F
namespace Mg
open Go Go.RowKit
set_option maxRecDepth 100000
set_option linter.unusedVariables false
set_option linter.unusedSimpArgs false
attribute [local irreducible] W Pure

def inr (n lo hi : Int) : Bool := decide (lo ≤ n) && decide (n ≤ hi)
theorem c_impl_in (n lo hi : Int) : Pure PP false 26 [oi n, oi lo, oi hi] (ob (inr n lo hi)) := by
  refine Pure.vc [] TTok hmo Go.Proofs.Tryz.func26 (by kernel_rfl) rfl (by kernel_rfl) ?_
  repeat' (first | refine And.intro ?_ ?_ | exact tf | exact ft | refine tt ?_ | refine ff ?_ | exact ⟨trivial⟩ | exact sAll rfl | exact sF1 rfl | exact sBld (by repeat' (first | exact trivial | rfl | exact Nat.le_of_ble_eq_true rfl | refine And.intro ?_ ?_)) rfl | exact sBS (by repeat' (first | exact trivial | rfl | exact Nat.le_of_ble_eq_true rfl | refine And.intro ?_ ?_)) rfl rfl rfl rfl | exact sLe rfl | exact Chk.mk (by kernel_rfl) | exact ⟨Chk.mk (by kernel_rfl)⟩ | exact sLeEq rfl rfl | refine fun h => ?_)
  all_goals (refine ⟨?_⟩; simp_all [inr])
  all_goals omega
theorem c_l6Bal (n : Int) : Pure PP false 40 [oi n] (ob (inr n 1 3000)) := by
  refine Pure.vc [] TTok hmo Go.Proofs.Tryz.func40 (by kernel_rfl) rfl (by kernel_rfl) ?_
  repeat' (first | refine And.intro ?_ ?_ | exact tf | exact ft | refine tt ?_ | refine ff ?_ | exact ⟨trivial⟩ | exact sAll rfl | exact sF1 rfl | exact sBld (by repeat' (first | exact trivial | rfl | exact Nat.le_of_ble_eq_true rfl | refine And.intro ?_ ?_)) rfl | exact sBS (by repeat' (first | exact trivial | rfl | exact Nat.le_of_ble_eq_true rfl | refine And.intro ?_ ?_)) rfl rfl rfl rfl | exact sLe rfl | exact Chk.mk (by kernel_rfl) | exact ⟨Chk.mk (by kernel_rfl)⟩ | exact sLeEq rfl rfl | refine fun h => ?_)
  all_goals (refine ⟨?_⟩; simp_all [inr])
  all_goals omega
theorem c_l1Num (n : Int) : Pure PP false 43 [oi n] (ob (inr n (-1000000) 1000000)) := by
  refine Pure.vc [] TTok hmo Go.Proofs.Tryz.func43 (by kernel_rfl) rfl (by kernel_rfl) ?_
  repeat' (first | refine And.intro ?_ ?_ | exact tf | exact ft | refine tt ?_ | refine ff ?_ | exact ⟨trivial⟩ | exact sAll rfl | exact sF1 rfl | exact sBld (by repeat' (first | exact trivial | rfl | exact Nat.le_of_ble_eq_true rfl | refine And.intro ?_ ?_)) rfl | exact sBS (by repeat' (first | exact trivial | rfl | exact Nat.le_of_ble_eq_true rfl | refine And.intro ?_ ?_)) rfl rfl rfl rfl | exact sLe rfl | exact Chk.mk (by kernel_rfl) | exact ⟨Chk.mk (by kernel_rfl)⟩ | exact sLeEq rfl rfl | refine fun h => ?_)
  all_goals (refine ⟨?_⟩; simp_all [inr])
  all_goals omega
theorem c_l2Box (n : Int) : Pure PP false 70 [oi n] (ob (inr n 0 3)) := by
  refine Pure.vc [] TTok hmo Go.Proofs.Tryz.func70 (by kernel_rfl) rfl (by kernel_rfl) ?_
  repeat' (first | refine And.intro ?_ ?_ | exact tf | exact ft | refine tt ?_ | refine ff ?_ | exact ⟨trivial⟩ | exact sAll rfl | exact sF1 rfl | exact sBld (by repeat' (first | exact trivial | rfl | exact Nat.le_of_ble_eq_true rfl | refine And.intro ?_ ?_)) rfl | exact sBS (by repeat' (first | exact trivial | rfl | exact Nat.le_of_ble_eq_true rfl | refine And.intro ?_ ?_)) rfl rfl rfl rfl | exact sLe rfl | exact Chk.mk (by kernel_rfl) | exact ⟨Chk.mk (by kernel_rfl)⟩ | exact sLeEq rfl rfl | refine fun h => ?_)
  all_goals (refine ⟨?_⟩; simp_all [inr])
  all_goals omega
def reqOk (q : Two) : Bool := inr q.a 0 2 && inr q.b 1 1000
theorem c_reqOk (q : Two) : Pure PP false 24 [.agg q.cells] (ob (reqOk q)) := by
  refine Pure.vc [(5, .res (ob (inr q.a 0 2))), (9, .res (ob (inr q.b 1 1000)))] TTok hmo Go.Proofs.Tryz.func24 (by kernel_rfl) rfl (by kernel_rfl) ?_
  repeat' (first | refine And.intro ?_ ?_ | exact tf | exact ft | refine tt ?_ | refine ff ?_ | exact ⟨trivial⟩ | exact sAll rfl | exact sF1 rfl | exact sBld (by repeat' (first | exact trivial | rfl | exact Nat.le_of_ble_eq_true rfl | refine And.intro ?_ ?_)) rfl | exact sBS (by repeat' (first | exact trivial | rfl | exact Nat.le_of_ble_eq_true rfl | refine And.intro ?_ ?_)) rfl rfl rfl rfl | exact sLe rfl | exact Chk.mk (by kernel_rfl) | exact ⟨Chk.mk (by kernel_rfl)⟩ | exact sLeEq rfl rfl | exact sAnd (by repeat' constructor) (c_impl_in _ _ _) | refine fun h => ?_)
  all_goals (refine ⟨?_⟩; simp_all [reqOk])
theorem c_l5Req (q : Two) : Pure PP false 15 [.agg q.cells] (ob (reqOk q)) := by
  refine Pure.vc [] TTok hmo Go.Proofs.Tryz.func15 (by kernel_rfl) rfl (by kernel_rfl) ?_
  repeat' (first | refine And.intro ?_ ?_ | exact tf | exact ft | refine tt ?_ | refine ff ?_ | exact ⟨trivial⟩ | exact sAll rfl | exact sF1 rfl | exact sBld (by repeat' (first | exact trivial | rfl | exact Nat.le_of_ble_eq_true rfl | refine And.intro ?_ ?_)) rfl | exact sBS (by repeat' (first | exact trivial | rfl | exact Nat.le_of_ble_eq_true rfl | refine And.intro ?_ ?_)) rfl rfl rfl rfl | exact sLe rfl | exact Chk.mk (by kernel_rfl) | exact ⟨Chk.mk (by kernel_rfl)⟩ | exact sLeEq rfl rfl | refine fun h => ?_)
  all_goals (refine ⟨?_⟩; simp_all [reqOk, inr])
  all_goals omega

def saw (xs : List Two) (b : Int) : Bool := xs.any fun x => x.a == b
theorem saw_step {xs : List Two} {b : Int} {i : Nat} (h : i < xs.length) : saw (xs.take (i + 1)) b = (saw (xs.take i) b || (xs.getD i default).a == b) := by
  unfold saw
  rw [getD_get h, List.take_succ_eq_append_getElem h, List.any_append]
  simp only [List.any_cons, List.any_nil, Bool.or_false]
theorem saw_mem {xs : List Two} {b : Int} {i : Nat} (h : i < xs.length) (he : (xs.getD i default).a = b) : saw xs b = true := by
  simp only [saw, List.any_eq_true, beq_iff_eq]
  exact ⟨_, getD_mem h, he⟩
theorem c_l3Saw (xs : List Two) (b : Int) (hx : xs.length ≤ maxLen) : Pure PP false 94 [.one (.fz (xs.map Two.cells)), oi b] (ob (saw xs b)) := by
  have hx' : xs.length ≤ 9223372036854775807 := hx
  refine Pure.vc [] TTok hmo Go.Proofs.Tryz.func94 (by kernel_rfl) rfl (by kernel_rfl) ?_
  repeat' (first | refine And.intro ?_ ?_ | exact tf | exact ft | refine tt ?_ | refine ff ?_ | exact ⟨trivial⟩ | exact sAll rfl | exact sF1 rfl | exact sBld (by repeat' (first | exact trivial | rfl | exact Nat.le_of_ble_eq_true rfl | refine And.intro ?_ ?_)) rfl | exact sBS (by repeat' (first | exact trivial | rfl | exact Nat.le_of_ble_eq_true rfl | refine And.intro ?_ ?_)) rfl rfl rfl rfl | exact sLe rfl | exact Chk.mk (by kernel_rfl) | exact ⟨Chk.mk (by kernel_rfl)⟩ | exact sLeEq rfl rfl | refine fun h => ?_)
  refine W.loopC (D := Nat) (fun i => [(14, .row (xs.getD i default).cells)]) TTok hmo
    (fun i => ⟨19, 0, [(0, .one (.ag (xs.map Two.cells))), (1, oi b), (4, ob false), (5, oi i)], []⟩) (fun i => xs.length - i) (fun i => i ≤ xs.length ∧ saw (xs.take i) b = false) 0 [] ⟨by omega, by simp [saw]⟩ ?_ ?_
  · repeat' (first | exact trivial | exact Side.mk rfl | exact Chk.mk (by kernel_rfl) | exact ⟨Chk.mk (by kernel_rfl)⟩ | refine And.intro ?_ ?_ | rfl)
  · intro i ⟨hi, hp⟩
    repeat' (first | refine And.intro ?_ ?_ | exact tf | exact ft | refine tt ?_ | refine ff ?_ | exact ⟨trivial⟩ | exact sAll rfl | exact sF1 rfl | exact sBld (by repeat' (first | exact trivial | rfl | exact Nat.le_of_ble_eq_true rfl | refine And.intro ?_ ?_)) rfl | exact sBS (by repeat' (first | exact trivial | rfl | exact Nat.le_of_ble_eq_true rfl | refine And.intro ?_ ?_)) rfl rfl rfl rfl | exact sLe rfl | exact Chk.mk (by kernel_rfl) | exact ⟨Chk.mk (by kernel_rfl)⟩ | exact sLeEq rfl rfl | refine fun h => ?_)
    all_goals simp only [decide_eq_true_eq, decide_eq_false_iff_not, List.length_map, beq_iff_eq, beq_eq_false_iff_ne, ne_eq] at *
    · exact sRow (by omega) (row_at xs _ (by omega)) rfl
    · refine ⟨?_⟩
      have := saw_mem (b := b) (by omega) h
      simp [this]
    · refine ⟨i + 1, [], by omega, ⟨by omega, ?_⟩, ?_⟩
      · rw [saw_step (by omega), hp]; simpa using h
      · repeat' (first | exact trivial | exact Side.mk rfl | exact Chk.mk (by kernel_rfl) | exact ⟨Chk.mk (by kernel_rfl)⟩ | exact ⟨wrap_succ (n := xs.length) (by omega) (by omega)⟩ | refine And.intro ?_ ?_ | rfl)
    · rw [List.take_of_length_le (by omega)] at hp
      refine ⟨?_⟩
      simp [hp]

def atI (xs : List Two) (b : Int) : Int := match xs with
  | [] => -1
  | x :: xs => if x.a = b then 0 else if atI xs b < 0 then -1 else atI xs b + 1
theorem atI_get {b : Int} : ∀ {xs : List Two} {i : Nat}, i < xs.length → saw (xs.take i) b = false → (xs.getD i default).a = b → atI xs b = i
  | [], i, h, _, _ => by simp at h
  | x :: xs, 0, h, _, he => by
    have : x.a = b := he
    simp [atI, this]
  | x :: xs, i + 1, h, hp, he => by
    have h1 : ¬ x.a = b ∧ saw (xs.take i) b = false := by
      simp only [saw, List.take_succ_cons, List.any_cons, Bool.or_eq_false_iff, beq_eq_false_iff_ne, ne_eq] at hp
      exact hp
    have := atI_get (xs := xs) (i := i) (by simpa using h) h1.2 he
    simp only [atI, if_neg h1.1, this]
    rw [if_neg (by omega)]; omega
theorem atI_none {b : Int} : ∀ {xs : List Two}, saw xs b = false → atI xs b = -1
  | [], _ => rfl
  | x :: xs, hp => by
    simp only [saw, List.any_cons, Bool.or_eq_false_iff, beq_eq_false_iff_ne, ne_eq] at hp
    simp only [atI, if_neg hp.1, atI_none (xs := xs) hp.2]
    rfl
theorem atI_neg {b : Int} {xs : List Two} : decide (0 ≤ atI xs b) = saw xs b := by
  induction xs with
  | nil => rfl
  | cons x xs ih =>
    simp only [atI, saw, List.any_cons]
    by_cases h : x.a = b
    · simp [h]
    · simp only [if_neg h]
      have h' : (x.a == b) = false := by simpa using h
      rw [h', Bool.false_or, ← saw, ← ih]
      by_cases g : atI xs b < 0
      · simp [g]
      · rw [if_neg g]; simp; omega
theorem c_l3At (xs : List Two) (b : Int) (hx : xs.length ≤ maxLen) : Pure PP false 95 [.one (.fz (xs.map Two.cells)), oi b] (oi (atI xs b)) := by
  have hx' : xs.length ≤ 9223372036854775807 := hx
  refine Pure.vc [] TTok hmo Go.Proofs.Tryz.func95 (by kernel_rfl) rfl (by kernel_rfl) ?_
  repeat' (first | refine And.intro ?_ ?_ | exact tf | exact ft | refine tt ?_ | refine ff ?_ | exact ⟨trivial⟩ | exact sAll rfl | exact sF1 rfl | exact sBld (by repeat' (first | exact trivial | rfl | exact Nat.le_of_ble_eq_true rfl | refine And.intro ?_ ?_)) rfl | exact sBS (by repeat' (first | exact trivial | rfl | exact Nat.le_of_ble_eq_true rfl | refine And.intro ?_ ?_)) rfl rfl rfl rfl | exact sLe rfl | exact Chk.mk (by kernel_rfl) | exact ⟨Chk.mk (by kernel_rfl)⟩ | exact sLeEq rfl rfl | refine fun h => ?_)
  refine W.loopC (D := Nat) (fun i => [(14, .row (xs.getD i default).cells)]) TTok hmo
    (fun i => ⟨20, 0, [(0, .one (.ag (xs.map Two.cells))), (1, oi b), (4, oi 0), (5, oi i)], []⟩) (fun i => xs.length - i) (fun i => i ≤ xs.length ∧ saw (xs.take i) b = false) 0 [] ⟨by omega, by simp [saw]⟩ ?_ ?_
  · repeat' (first | exact trivial | exact Side.mk rfl | exact Chk.mk (by kernel_rfl) | exact ⟨Chk.mk (by kernel_rfl)⟩ | refine And.intro ?_ ?_ | rfl)
  · intro i ⟨hi, hp⟩
    repeat' (first | refine And.intro ?_ ?_ | exact tf | exact ft | refine tt ?_ | refine ff ?_ | exact ⟨trivial⟩ | exact sAll rfl | exact sF1 rfl | exact sBld (by repeat' (first | exact trivial | rfl | exact Nat.le_of_ble_eq_true rfl | refine And.intro ?_ ?_)) rfl | exact sBS (by repeat' (first | exact trivial | rfl | exact Nat.le_of_ble_eq_true rfl | refine And.intro ?_ ?_)) rfl rfl rfl rfl | exact sLe rfl | exact Chk.mk (by kernel_rfl) | exact ⟨Chk.mk (by kernel_rfl)⟩ | exact sLeEq rfl rfl | refine fun h => ?_)
    all_goals simp only [decide_eq_true_eq, decide_eq_false_iff_not, List.length_map, beq_iff_eq, beq_eq_false_iff_ne, ne_eq] at *
    · exact sRow (by omega) (row_at xs _ (by omega)) rfl
    · refine ⟨?_⟩
      have := atI_get (b := b) (by omega) hp h
      simp [this]
    · refine ⟨i + 1, [], by omega, ⟨by omega, ?_⟩, ?_⟩
      · rw [saw_step (by omega), hp]; simpa using h
      · repeat' (first | exact trivial | exact Side.mk rfl | exact Chk.mk (by kernel_rfl) | exact ⟨Chk.mk (by kernel_rfl)⟩ | exact ⟨wrap_succ (n := xs.length) (by omega) (by omega)⟩ | refine And.intro ?_ ?_ | rfl)
    · rw [List.take_of_length_le (by omega)] at hp
      refine ⟨?_⟩
      simp [atI_none hp]
end Mg
