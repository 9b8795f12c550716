/- Parts of the abstract state logic and of the walks, one behind the other: R1U, H1, D1, R1H, R1M, R2D, D2, D3, N0. No condition. -/
import Derived.Test.YtedgmfmhilihoaaDoorP14
import Derived.Test.YtedgmfmhilihoaaDoorP11
import Derived.Test.YtedgmfmhilihoaaDoorP13
/- Entries, votes and acceptors that are right. No condition. -/
namespace Mg
open Go Go.RowKit
set_option maxRecDepth 100000
set_option linter.unusedVariables false
set_option linter.unusedSimpArgs false
attribute [local irreducible] W Pure
theorem all_step {α : Type} [Inhabited α] {f : α → Bool} {xs : List α} {i : Nat} (h : i < xs.length) (hp : (xs.take i).all f = true) (he : f (xs.getD i default) = true) : (xs.take (i + 1)).all f = true := by
  rw [getD_get h] at he
  rw [List.take_succ_eq_append_getElem h, List.all_append]
  simp [hp, he]
theorem all_bad {α : Type} [Inhabited α] {f : α → Bool} {xs : List α} {i : Nat} (h : i < xs.length) (he : f (xs.getD i default) = false) : xs.all f = false := by
  rw [List.all_eq_false]
  exact ⟨_, getD_mem h, by rw [he]; simp⟩
theorem all_end {α : Type} [Inhabited α] {f : α → Bool} {xs : List α} {i : Nat} (h : xs.length ≤ i) (hp : (xs.take i).all f = true) : xs.all f = true := by
  rwa [List.take_of_length_le h] at hp

def zeroRun : Run := ⟨[], [], 0, 0⟩
def zeroE (n : Bool) : Entry := ⟨n, ⟨0, 0⟩, zeroRun⟩
theorem zeroRun_ok {n : Nat} : zeroRun.ok n := ⟨Nat.zero_le _, Nat.zero_le _⟩
def entryOk (e : Entry) : Bool := if e.none then decide (e = zeroE true) else reqOk e.q && execOk e.run && e.run.d != 3
def voteOk (v : Vote) : Bool := if v.bal = 0 then decide (v.e = zeroE false) else inr v.bal 1 3000 && entryOk v.e
def votesOk (xs : List Vote) : Bool := decide (xs.length ≤ 40) && xs.all voteOk
def accOk (a : Acc) : Bool := inr a.p 0 3000 && votesOk a.votes && a.votes.all fun v => decide (v.bal ≤ a.p)

theorem c_impl_CertEntry (e : Entry) (he : e.ok lim) : Pure PP false 49 [.agg e.cells] (ob (entryOk e)) := by
  obtain ⟨n, q, r⟩ := e
  refine Pure.vc [(7, .res (ob (decide (Entry.mk n q r = zeroE true)))), (10, .res (ob (reqOk q))), (14, .res (ob (execOk r)))] TTok hmo Go.Proofs.Tryd.func49 (by kernel_rfl) rfl (by kernel_rfl) ?_
  repeat' (first | refine And.intro ?_ ?_ | exact tf | exact ft | refine tt ?_ | refine ff ?_ | exact ⟨trivial⟩ | exact sAll rfl | exact sF1 rfl | exact sBld (by repeat' (first | exact trivial | rfl | exact Nat.le_of_ble_eq_true rfl | refine And.intro ?_ ?_)) rfl | exact sBS (by repeat' (first | exact trivial | rfl | exact Nat.le_of_ble_eq_true rfl | refine And.intro ?_ ?_)) rfl rfl rfl rfl | exact sBSF (by repeat' (first | exact trivial | rfl | exact Nat.le_of_ble_eq_true rfl | refine And.intro ?_ ?_)) rfl rfl rfl rfl | exact sLe rfl | exact Chk.mk (by kernel_rfl) | exact ⟨Chk.mk (by kernel_rfl)⟩ | exact sLeEq rfl rfl | exact sAnd (by repeat' constructor) (c_impl_CertLike _ (zeroE true) he zeroRun_ok) | exact sAnd (by repeat' constructor) (c_reqOk _) | exact sAnd (by repeat' constructor) (c_impl_ExecOk _ he) | refine fun h => ?_)
  all_goals (refine Side.mk ?_; simp_all [entryOk])
  all_goals repeat' (first | rfl | refine And.intro ?_ ?_)
theorem c_spec_CertEntry (e : Entry) (he : e.ok lim) : Pure PP false 18 [.agg e.cells] (ob (entryOk e)) := by
  obtain ⟨n, ⟨q1, q2⟩, r⟩ := e
  refine Pure.vc [(13, .res (ob (decide (r = zeroRun)))), (17, .res (ob (reqOk ⟨q1, q2⟩))), (21, .res (ob (execOk r)))] TTok hmo Go.Proofs.Tryd.func18 (by kernel_rfl) rfl (by kernel_rfl) ?_
  repeat' (first | refine And.intro ?_ ?_ | exact tf | exact ft | refine tt ?_ | refine ff ?_ | exact ⟨trivial⟩ | exact sAll rfl | exact sF1 rfl | exact sBld (by repeat' (first | exact trivial | rfl | exact Nat.le_of_ble_eq_true rfl | refine And.intro ?_ ?_)) rfl | exact sBS (by repeat' (first | exact trivial | rfl | exact Nat.le_of_ble_eq_true rfl | refine And.intro ?_ ?_)) rfl rfl rfl rfl | exact sBSF (by repeat' (first | exact trivial | rfl | exact Nat.le_of_ble_eq_true rfl | refine And.intro ?_ ?_)) rfl rfl rfl rfl | exact sLe rfl | exact Chk.mk (by kernel_rfl) | exact ⟨Chk.mk (by kernel_rfl)⟩ | exact sLeEq rfl rfl | exact sAnd (by repeat' constructor) (c_spec_ExecSame _ zeroRun he zeroRun_ok) | exact sAnd (by repeat' constructor) (c_l5Req ⟨q1, q2⟩) | exact sAnd (by repeat' constructor) (c_spec_ExecOk _ he) | refine fun h => ?_)
  all_goals (refine Side.mk ?_; simp_all [entryOk, zeroE])
  all_goals repeat' (first | rfl | refine And.intro ?_ ?_)
theorem c_impl_voteOk (v : Vote) (hv : v.ok lim) : Pure PP false 79 [.agg v.cells] (ob (voteOk v)) := by
  obtain ⟨b, e⟩ := v
  refine Pure.vc [(9, .res (ob (decide (e = zeroE false)))), (12, .res (ob (inr b 1 3000))), (16, .res (ob (entryOk e)))] TTok hmo Go.Proofs.Tryd.func79 (by kernel_rfl) rfl (by kernel_rfl) ?_
  repeat' (first | refine And.intro ?_ ?_ | exact tf | exact ft | refine tt ?_ | refine ff ?_ | exact ⟨trivial⟩ | exact sAll rfl | exact sF1 rfl | exact sBld (by repeat' (first | exact trivial | rfl | exact Nat.le_of_ble_eq_true rfl | refine And.intro ?_ ?_)) rfl | exact sBS (by repeat' (first | exact trivial | rfl | exact Nat.le_of_ble_eq_true rfl | refine And.intro ?_ ?_)) rfl rfl rfl rfl | exact sBSF (by repeat' (first | exact trivial | rfl | exact Nat.le_of_ble_eq_true rfl | refine And.intro ?_ ?_)) rfl rfl rfl rfl | exact sLe rfl | exact Chk.mk (by kernel_rfl) | exact ⟨Chk.mk (by kernel_rfl)⟩ | exact sLeEq rfl rfl | exact sAnd (by repeat' constructor) (c_impl_CertLike _ (zeroE false) hv zeroRun_ok) | exact sAnd (by repeat' constructor) (c_impl_in _ _ _) | exact sAnd (by repeat' constructor) (c_impl_CertEntry _ hv) | refine fun h => ?_)
  all_goals (refine Side.mk ?_; simp_all [voteOk])
  all_goals repeat' (first | rfl | refine And.intro ?_ ?_)
theorem c_l6Vote (v : Vote) (hv : v.ok lim) : Pure PP false 82 [.agg v.cells] (ob (voteOk v)) := by
  obtain ⟨b, n, ⟨q1, q2⟩, r⟩ := v
  refine Pure.vc [(22, .res (ob (decide (r = zeroRun)))), (26, .res (ob (inr b 1 3000))), (30, .res (ob (entryOk ⟨n, ⟨q1, q2⟩, r⟩)))] TTok hmo Go.Proofs.Tryd.func82 (by kernel_rfl) rfl (by kernel_rfl) ?_
  repeat' (first | refine And.intro ?_ ?_ | exact tf | exact ft | refine tt ?_ | refine ff ?_ | exact ⟨trivial⟩ | exact sAll rfl | exact sF1 rfl | exact sBld (by repeat' (first | exact trivial | rfl | exact Nat.le_of_ble_eq_true rfl | refine And.intro ?_ ?_)) rfl | exact sBS (by repeat' (first | exact trivial | rfl | exact Nat.le_of_ble_eq_true rfl | refine And.intro ?_ ?_)) rfl rfl rfl rfl | exact sBSF (by repeat' (first | exact trivial | rfl | exact Nat.le_of_ble_eq_true rfl | refine And.intro ?_ ?_)) rfl rfl rfl rfl | exact sLe rfl | exact Chk.mk (by kernel_rfl) | exact ⟨Chk.mk (by kernel_rfl)⟩ | exact sLeEq rfl rfl | exact sAnd (by repeat' constructor) (c_spec_ExecSame _ zeroRun hv zeroRun_ok) | exact sAnd (by repeat' constructor) (c_l6Bal _) | exact sAnd (by repeat' constructor) (c_spec_CertEntry ⟨n, ⟨q1, q2⟩, r⟩ hv) | refine fun h => ?_)
  all_goals (refine Side.mk ?_; simp_all [voteOk, zeroE])
  all_goals repeat' (first | rfl | refine And.intro ?_ ?_)
theorem c_l6Votes (xs : List Vote) (hx : xs.length ≤ maxLen) (hv : ∀ v ∈ xs, v.ok lim) : Pure PP false 52 [.one (.fz (xs.map Vote.cells))] (ob (votesOk xs)) := by
  have hx' : xs.length ≤ 9223372036854775807 := hx
  refine Pure.vc [] TTok hmo Go.Proofs.Tryd.func52 (by kernel_rfl) rfl (by kernel_rfl) ?_
  repeat' (first | refine And.intro ?_ ?_ | exact tf | exact ft | refine tt ?_ | refine ff ?_ | exact ⟨trivial⟩ | exact sAll rfl | exact sF1 rfl | exact sBld (by repeat' (first | exact trivial | rfl | exact Nat.le_of_ble_eq_true rfl | refine And.intro ?_ ?_)) rfl | exact sBS (by repeat' (first | exact trivial | rfl | exact Nat.le_of_ble_eq_true rfl | refine And.intro ?_ ?_)) rfl rfl rfl rfl | exact sBSF (by repeat' (first | exact trivial | rfl | exact Nat.le_of_ble_eq_true rfl | refine And.intro ?_ ?_)) rfl rfl rfl rfl | exact sLe rfl | exact Chk.mk (by kernel_rfl) | exact ⟨Chk.mk (by kernel_rfl)⟩ | exact sLeEq rfl rfl | refine fun h => ?_)
  · refine ⟨?_⟩; simp_all [votesOk]; omega
  refine W.loopC (D := Nat) (fun i => [(15, .row (xs.getD i default).cells), (17, .res (ob (voteOk (xs.getD i default))))]) TTok hmo
    (fun i => ⟨19, 0, [(0, .one (.ag (xs.map Vote.cells))), (2, ob false), (3, oi i)], []⟩) (fun i => xs.length - i) (fun i => i ≤ xs.length ∧ (xs.take i).all voteOk = true) 0 [] ⟨by omega, by simp⟩ ?_ ?_
  · show subC _ _ _ _
    repeat' (first | exact trivial | exact Side.mk rfl | exact Chk.mk (by kernel_rfl) | exact ⟨Chk.mk (by kernel_rfl)⟩ | refine And.intro ?_ ?_ | rfl)
  · intro i ⟨hi, hp⟩
    repeat' (first | refine And.intro ?_ ?_ | exact tf | exact ft | refine tt ?_ | refine ff ?_ | exact ⟨trivial⟩ | exact sAll rfl | exact sF1 rfl | exact sBld (by repeat' (first | exact trivial | rfl | exact Nat.le_of_ble_eq_true rfl | refine And.intro ?_ ?_)) rfl | exact sBS (by repeat' (first | exact trivial | rfl | exact Nat.le_of_ble_eq_true rfl | refine And.intro ?_ ?_)) rfl rfl rfl rfl | exact sBSF (by repeat' (first | exact trivial | rfl | exact Nat.le_of_ble_eq_true rfl | refine And.intro ?_ ?_)) rfl rfl rfl rfl | exact sLe rfl | exact Chk.mk (by kernel_rfl) | exact ⟨Chk.mk (by kernel_rfl)⟩ | exact sLeEq rfl rfl | refine fun h => ?_)
    all_goals simp only [decide_eq_true_eq, decide_eq_false_iff_not, List.length_map, Bool.not_eq_true', Bool.not_eq_false', Bool.not_eq_eq_eq_not, Bool.not_true, Bool.not_false, bne_iff_ne, ne_eq, bne_eq_false_iff_eq, beq_iff_eq, beq_eq_false_iff_ne] at *
    · exact sRow (by omega) (row_at xs _ (by omega)) rfl
    · exact sAnd (by repeat' constructor) (c_l6Vote _ (hv _ (getD_mem (by omega))))
    · refine ⟨?_⟩; have := all_bad (f := voteOk) (xs := xs) (i := i) (by omega) (by simp_all); simp [votesOk, this]
    · refine ⟨i + 1, [], by omega, ⟨by omega, all_step (by omega) hp (by simp_all)⟩, ?_⟩
      repeat' (first | exact trivial | exact Side.mk rfl | exact Chk.mk (by kernel_rfl) | exact ⟨Chk.mk (by kernel_rfl)⟩ | exact ⟨wrap_succ (n := xs.length) (by omega) (by omega)⟩ | refine And.intro ?_ ?_ | rfl)
    · refine ⟨?_⟩; have := all_end (by omega) hp; simp [votesOk, this]; omega
theorem c_impl_votesOk (xs : List Vote) (hx : xs.length ≤ maxLen) (hv : ∀ v ∈ xs, v.ok lim) : Pure PP false 48 [.one (.fz (xs.map Vote.cells))] (ob (votesOk xs)) := by
  have hx' : xs.length ≤ 9223372036854775807 := hx
  refine Pure.vc [] TTok hmo Go.Proofs.Tryd.func48 (by kernel_rfl) rfl (by kernel_rfl) ?_
  repeat' (first | refine And.intro ?_ ?_ | exact tf | exact ft | refine tt ?_ | refine ff ?_ | exact ⟨trivial⟩ | exact sAll rfl | exact sF1 rfl | exact sBld (by repeat' (first | exact trivial | rfl | exact Nat.le_of_ble_eq_true rfl | refine And.intro ?_ ?_)) rfl | exact sBS (by repeat' (first | exact trivial | rfl | exact Nat.le_of_ble_eq_true rfl | refine And.intro ?_ ?_)) rfl rfl rfl rfl | exact sBSF (by repeat' (first | exact trivial | rfl | exact Nat.le_of_ble_eq_true rfl | refine And.intro ?_ ?_)) rfl rfl rfl rfl | exact sLe rfl | exact Chk.mk (by kernel_rfl) | exact ⟨Chk.mk (by kernel_rfl)⟩ | exact sLeEq rfl rfl | refine fun h => ?_)
  refine W.loopC (D := Nat) (fun i => [(9, .row (xs.getD i default).cells), (12, .res (ob (voteOk (xs.getD i default))))]) TTok hmo
    (fun i => ⟨18, 0, [(0, .one (.ag (xs.map Vote.cells))), (2, ob false), (5, .one (.ag (xs.map Vote.cells))), (6, oi xs.length), (7, oi i)], []⟩) (fun i => xs.length - i) (fun i => i ≤ xs.length ∧ (xs.take i).all voteOk = true) 0 [] ⟨by omega, by simp⟩ ?_ ?_
  · show subC _ _ _ _
    repeat' (first | exact trivial | exact Side.mk rfl | exact Chk.mk (by kernel_rfl) | exact ⟨Chk.mk (by kernel_rfl)⟩ | refine And.intro ?_ ?_ | rfl)
    all_goals exact ⟨by simp⟩
  · intro i ⟨hi, hp⟩
    repeat' (first | refine And.intro ?_ ?_ | exact tf | exact ft | refine tt ?_ | refine ff ?_ | exact ⟨trivial⟩ | exact sAll rfl | exact sF1 rfl | exact sBld (by repeat' (first | exact trivial | rfl | exact Nat.le_of_ble_eq_true rfl | refine And.intro ?_ ?_)) rfl | exact sBS (by repeat' (first | exact trivial | rfl | exact Nat.le_of_ble_eq_true rfl | refine And.intro ?_ ?_)) rfl rfl rfl rfl | exact sBSF (by repeat' (first | exact trivial | rfl | exact Nat.le_of_ble_eq_true rfl | refine And.intro ?_ ?_)) rfl rfl rfl rfl | exact sLe rfl | exact Chk.mk (by kernel_rfl) | exact ⟨Chk.mk (by kernel_rfl)⟩ | exact sLeEq rfl rfl | refine fun h => ?_)
    all_goals simp only [decide_eq_true_eq, decide_eq_false_iff_not, List.length_map, Bool.not_eq_true', Bool.not_eq_false', Bool.not_eq_eq_eq_not, Bool.not_true, Bool.not_false, bne_iff_ne, ne_eq, bne_eq_false_iff_eq, beq_iff_eq, beq_eq_false_iff_ne] at *
    · exact sRow (by omega) (row_at xs _ (by omega)) rfl
    · exact sAnd (by repeat' constructor) (c_impl_voteOk _ (hv _ (getD_mem (by omega))))
    · refine ⟨?_⟩; have := all_bad (f := voteOk) (xs := xs) (i := i) (by omega) (by simp_all); simp [votesOk, this]
    · refine ⟨i + 1, [], by omega, ⟨by omega, all_step (by omega) hp (by simp_all)⟩, ?_⟩
      repeat' (first | exact trivial | exact Side.mk rfl | exact Chk.mk (by kernel_rfl) | exact ⟨Chk.mk (by kernel_rfl)⟩ | exact ⟨wrap_succ (n := xs.length) (by omega) (by omega)⟩ | refine And.intro ?_ ?_ | rfl)
    · refine ⟨?_⟩; have := all_end (by omega) hp; simp [votesOk, this]; omega
end Mg

/- What is shared by the walks: copies of the other side, lists of votes. No condition. -/
namespace Mg
open Go Go.RowKit
set_option maxRecDepth 100000
set_option linter.unusedVariables false
set_option linter.unusedSimpArgs false
attribute [local irreducible] W Pure Con
def noT : ConT := ⟨Unit, fun _ => True, fun _ => .un, fun _ => []⟩
theorem c_l3Copy (x : Run) (hx : x.ok lim) : Pure PP false 113 [.agg x.cells] (.agg x.cells) := by
  have hx0 : x.reads.length ≤ 1048576 := hx.1
  have hx1 : x.puts.length ≤ 1048576 := hx.2
  refine Pure.vc [(6, .res (.one (.fz (x.reads.map Two.cells)))), (10, .res (.one (.fz (x.puts.map Two.cells))))] TTok hmo Go.Proofs.Tryd.func113 (by kernel_rfl) rfl (by kernel_rfl) ?_
  repeat' (first | refine And.intro ?_ ?_ | exact tf | exact ft | refine tt ?_ | refine ff ?_ | exact ⟨trivial⟩ | exact sAll rfl | exact sF1 rfl | exact sBld (by repeat' (first | exact trivial | rfl | exact Nat.le_of_ble_eq_true rfl | refine And.intro ?_ ?_)) rfl | exact sBS (by repeat' (first | exact trivial | rfl | exact Nat.le_of_ble_eq_true rfl | refine And.intro ?_ ?_)) rfl rfl rfl rfl | exact sBSF (by repeat' (first | exact trivial | rfl | exact Nat.le_of_ble_eq_true rfl | refine And.intro ?_ ?_)) rfl rfl rfl rfl | exact sLe rfl | exact Chk.mk (by kernel_rfl) | exact ⟨Chk.mk (by kernel_rfl)⟩ | exact sLeEq rfl rfl | refine fun h => ?_)
  all_goals try (exact sAppF (c := Two.cells) (xs := x.reads) (toA_map fun _ => rfl) (fun _ => rfl) Two.frz (by omega) rfl)
  all_goals try (exact sAppF (c := Two.cells) (xs := x.puts) (toA_map fun _ => rfl) (fun _ => rfl) Two.frz (by omega) rfl)
  all_goals exact ⟨⟨Nat.le_of_ble_eq_true rfl, trivial⟩, rfl, rfl, rfl, rfl, trivial⟩
theorem c_l5Entry (e : Entry) (he : e.ok lim) : Pure PP false 104 [.agg e.cells] (.agg e.cells) := by
  refine Pure.vc [(9, .res (.agg e.run.cells))] TTok hmo Go.Proofs.Tryd.func104 (by kernel_rfl) rfl (by kernel_rfl) ?_
  repeat' (first | refine And.intro ?_ ?_ | exact tf | exact ft | refine tt ?_ | refine ff ?_ | exact ⟨trivial⟩ | exact sAll rfl | exact sF1 rfl | exact sBld (by repeat' (first | exact trivial | rfl | exact Nat.le_of_ble_eq_true rfl | refine And.intro ?_ ?_)) rfl | exact sBS (by repeat' (first | exact trivial | rfl | exact Nat.le_of_ble_eq_true rfl | refine And.intro ?_ ?_)) rfl rfl rfl rfl | exact sBSF (by repeat' (first | exact trivial | rfl | exact Nat.le_of_ble_eq_true rfl | refine And.intro ?_ ?_)) rfl rfl rfl rfl | exact sLe rfl | exact Chk.mk (by kernel_rfl) | exact ⟨Chk.mk (by kernel_rfl)⟩ | exact sLeEq rfl rfl | exact sAnd (by repeat' constructor) (c_l3Copy _ he) | refine fun h => ?_)
  all_goals exact ⟨⟨Nat.le_of_ble_eq_true rfl, trivial⟩, rfl, rfl, rfl, rfl, rfl, rfl, rfl, trivial⟩
theorem sAppL2 {α : Type} {xs : List α} {x : α} {m n : Nat} (hm : m = xs.length) (hn : n = 1) : Side (m + n = (xs ++ [x]).length) := ⟨by simp [hm, hn]⟩
theorem Vote.ok_default : (default : Vote).ok 30 := ⟨Nat.zero_le _, Nat.zero_le _⟩
def VsOk (n : Nat) (vs : List Vote) : Prop := ∀ v ∈ vs, v.ok n
theorem VsOk.app {n : Nat} {vs : List Vote} {v : Vote} (h : VsOk n vs) (hv : v.ok n) : VsOk n (vs ++ [v]) := fun x hx => by
  rcases List.mem_append.1 hx with hx | hx
  · exact h x hx
  · simp at hx; rw [hx]; exact hv
theorem VsOk.set {n k : Nat} {vs : List Vote} {v : Vote} (h : VsOk n vs) (hv : v.ok n) : VsOk n (vs.set k v) := fun x hx => by
  rcases List.mem_or_eq_of_mem_set hx with hx | hx
  · exact h x hx
  · rw [hx]; exact hv
theorem VsOk.get {n : Nat} {vs : List Vote} (h : VsOk n vs) (i : Nat) : (vs.getD i default).ok n := by
  by_cases hi : i < vs.length
  · exact h _ (getD_mem hi)
  · have : vs.getD i default = default := by simp [List.getD_eq_getElem?_getD, List.getElem?_eq_none (Nat.le_of_not_lt hi)]
    rw [this]; exact ⟨Nat.zero_le _, Nat.zero_le _⟩
theorem VsOk.lim {vs : List Vote} (h : VsOk 30 vs) : VsOk lim vs := fun v hv => ⟨Nat.le_trans (h v hv).1 (by decide), Nat.le_trans (h v hv).2 (by decide)⟩
theorem inr_iff {n lo hi : Int} : inr n lo hi = true ↔ lo ≤ n ∧ n ≤ hi := by simp [inr]
theorem inr_no {n lo hi : Int} (h : inr n lo hi = false) : ¬ (lo ≤ n ∧ n ≤ hi) := fun g => by rw [inr_iff.2 g] at h; cases h
theorem getD_none {a : List Vote} {i : Nat} (h : ¬ i < a.length) : a.getD i default = default := by simp [List.getD_eq_getElem?_getD, List.getElem?_eq_none (Nat.le_of_not_lt h)]
end Mg

/- The reader of draws. No condition. -/
namespace Mg
open Go Go.RowKit
set_option maxRecDepth 100000
set_option linter.unusedVariables false
set_option linter.unusedSimpArgs false
attribute [local irreducible] W Pure Con
@[reducible] def u8 (b : Int) : List MC := [.sc (.int .u8 b)]
@[reducible] def rdO (bs : List Int) (p : Int) : Ob := .box [.fz (bs.map u8), i6 p]
structure BsOk (bs : List Int) : Prop where
  len : bs.length ≤ 2000
  rng : ∀ b ∈ bs, 0 ≤ b ∧ b ≤ 255
theorem BsOk.at_ {bs : List Int} (h : BsOk bs) (i : Nat) : 0 ≤ bs.getD i 0 ∧ bs.getD i 0 ≤ 255 := by
  by_cases hi : i < bs.length
  · have : bs.getD i 0 = bs[i] := by simp [hi]
    rw [this]; exact h.rng _ (List.getElem_mem hi)
  · have : bs.getD i 0 = 0 := by simp [Nat.le_of_not_lt hi]
    rw [this]; decide
theorem u8_at {bs : List Int} {k : Int} (h0 : 0 ≤ k) (h : k < bs.length) : (bs.map u8)[k.toNat]? = some (u8 (bs.getD k.toNat 0)) := by
  have hi : k.toNat < bs.length := by omega
  rw [List.getElem?_map, List.getElem?_eq_getElem hi]
  simp [hi]
theorem xor_nonneg {a b : Int} (ha : 0 ≤ a) (ha' : a < 4611686018427387904) (hb : 0 ≤ b) (hb' : b < 4611686018427387904) : 0 ≤ IntKind.i64.wrap ((BitVec.ofInt 64 a ^^^ BitVec.ofInt 64 b).toNat) := by
  obtain ⟨m, rfl⟩ := Int.eq_ofNat_of_zero_le ha
  obtain ⟨n, rfl⟩ := Int.eq_ofNat_of_zero_le hb
  have hm : m < 2 ^ 62 := by omega
  have hn : n < 2 ^ 62 := by omega
  have e : (BitVec.ofInt 64 (m : Int) ^^^ BitVec.ofInt 64 (n : Int)).toNat = m ^^^ n := by
    have h1 : m % 2 ^ 64 = m := Nat.mod_eq_of_lt (by omega)
    have h2 : n % 2 ^ 64 = n := Nat.mod_eq_of_lt (by omega)
    simp only [BitVec.toNat_xor, BitVec.ofInt_natCast, BitVec.toNat_ofNat, h1, h2]
  have hx : m ^^^ n < 2 ^ 62 := Nat.xor_lt_two_pow hm hn
  rw [e, wrapi] <;> omega
theorem mix {x y q p : Int} (hx : 0 ≤ x ∧ x ≤ 255) (hy : 0 ≤ y ∧ y ≤ 255) (hq : 0 ≤ q ∧ q ≤ p) (hp : p ≤ 1000000000000) :
    IntKind.i64.wrap (IntKind.i64.wrap (IntKind.i64.wrap (IntKind.i64.wrap (IntKind.i64.wrap x * 131) + IntKind.i64.wrap (IntKind.i64.wrap y * 1117)) + IntKind.i64.wrap (p * 29)) + IntKind.i64.wrap (IntKind.i64.wrap q * 53)) = x * 131 + y * 1117 + p * 29 + q * 53 := by
  rw [wrapi (n := x), wrapi (n := x * 131), wrapi (n := y), wrapi (n := y * 1117), wrapi (n := x * 131 + y * 1117), wrapi (n := p * 29), wrapi (n := x * 131 + y * 1117 + p * 29), wrapi (n := q), wrapi (n := q * 53), wrapi] <;> omega
theorem c_pick (bs : List Int) (hb : BsOk bs) (p n : Int) (h0 : 0 ≤ p) (h1 : p ≤ 1000000000000) : Con PP 75 [.one (.ptr 0 0 0), oi n] [rdO bs p] 1 (fun x : Int => 0 ≤ x ∧ (x < n ∨ x = 0)) (fun x => oi x) (fun _ => [rdO bs (p + 1)]) := by
  refine Con.vc [(42, .row (u8 (bs.getD p.toNat 0))), (58, .row (u8 (bs.getD (p.tmod bs.length).toNat 0))), (75, .row (u8 (bs.getD ((p * 7 + 3).tmod bs.length).toNat 0)))] TTok hmo Go.Proofs.Tryd.func75 rfl (by kernel_rfl) rfl (by kernel_rfl) ?_
  repeat' (first | refine And.intro ?_ ?_ | exact tf | exact ft | refine tt ?_ | refine ff ?_ | exact ⟨trivial⟩ | exact sAll rfl | exact sF1 rfl | exact sBld (by repeat' (first | exact trivial | rfl | exact Nat.le_of_ble_eq_true rfl | refine And.intro ?_ ?_)) rfl | exact sBS (by repeat' (first | exact trivial | rfl | exact Nat.le_of_ble_eq_true rfl | refine And.intro ?_ ?_)) rfl rfl rfl rfl | exact sBSF (by repeat' (first | exact trivial | rfl | exact Nat.le_of_ble_eq_true rfl | refine And.intro ?_ ?_)) rfl rfl rfl rfl | exact sLe rfl | exact Chk.mk (by kernel_rfl) | exact ⟨Chk.mk (by kernel_rfl)⟩ | exact sLeEq rfl rfl | refine fun h => ?_)
  all_goals try (exact ⟨trivial, trivial⟩)
  all_goals simp only [decide_eq_true_eq, decide_eq_false_iff_not, List.length_map, Bool.not_eq_true', Bool.not_eq_false', Bool.not_eq_eq_eq_not, Bool.not_true, Bool.not_false, bne_iff_ne, ne_eq, bne_eq_false_iff_eq, beq_iff_eq, beq_eq_false_iff_ne] at *
  all_goals have e1 : IntKind.i64.wrap (p + 1) = p + 1 := by rw [wrapi] <;> omega
  all_goals have e2 : IntKind.i64.wrap (p + 1 - 1) = p := by rw [wrapi] <;> omega
  all_goals have e3 : IntKind.i64.wrap (p * 7) = p * 7 := by rw [wrapi] <;> omega
  all_goals have e4 : IntKind.i64.wrap (p * 7 + 3) = p * 7 + 3 := by rw [wrapi] <;> omega
  all_goals simp only [e1, e2, e3, e4] at *
  all_goals have hl := hb.len
  all_goals have hl0 : (0 : Int) ≤ bs.length := by omega
  all_goals try (exact ⟨by assumption⟩)
  all_goals try (exact ⟨by omega⟩)
  all_goals try (exact sRow h0 (u8_at h0 (by assumption)) rfl)
  all_goals try (exact sRow (Int.tmod_nonneg _ h0) (u8_at (Int.tmod_nonneg _ h0) (Int.tmod_lt_of_pos _ (by omega))) rfl)
  all_goals try (exact sRow (Int.tmod_nonneg _ (by omega)) (u8_at (Int.tmod_nonneg _ (by omega)) (Int.tmod_lt_of_pos _ (by omega))) rfl)
  all_goals have e5 : p + 1 = IntKind.i64.wrap (p + 1) := by rw [wrapi] <;> omega
  all_goals have e6 : IntKind.i64.wrap (p + 1) = p + 1 := e5.symm
  · refine ⟨0, [], [], ⟨by decide, .inr rfl⟩, ?_⟩
    repeat' (first | exact trivial | exact ⟨trivial⟩ | exact Side.mk rfl | exact sF1 rfl | exact Chk.mk (by kernel_rfl) | exact ⟨Chk.mk (by kernel_rfl)⟩ | exact ⟨e5⟩ | exact ⟨e6⟩ | refine And.intro ?_ ?_ | rfl)
  · have hc := hb.at_ p.toNat
    have hw : IntKind.i64.wrap (bs.getD p.toNat 0) = bs.getD p.toNat 0 := by rw [wrapi] <;> omega
    apply Exists.intro; refine ⟨[], [], ⟨?ge, .inl ?lt⟩, ?rest⟩
    case rest => repeat' (first | exact trivial | exact ⟨trivial⟩ | exact Side.mk rfl | exact sF1 rfl | exact Chk.mk (by kernel_rfl) | exact ⟨Chk.mk (by kernel_rfl)⟩ | exact ⟨e5⟩ | exact ⟨e6⟩ | refine And.intro ?_ ?_ | rfl)
    case ge => rw [hw]; exact Int.tmod_nonneg _ hc.1
    case lt => exact Int.tmod_lt_of_pos _ (by omega)
  · apply Exists.intro; refine ⟨[], [], ⟨?ge, .inl ?lt⟩, ?rest⟩
    case rest => repeat' (first | exact trivial | exact ⟨trivial⟩ | exact Side.mk rfl | exact sF1 rfl | exact Chk.mk (by kernel_rfl) | exact ⟨Chk.mk (by kernel_rfl)⟩ | exact ⟨e5⟩ | exact ⟨e6⟩ | refine And.intro ?_ ?_ | rfl)
    case ge =>
      refine Int.tmod_nonneg _ ?_
      have hd : 0 ≤ p.tdiv bs.length ∧ p.tdiv bs.length ≤ p := by
        rw [Int.tdiv_eq_ediv_of_nonneg h0]
        exact ⟨Int.ediv_nonneg h0 hl0, Int.ediv_le_self _ h0⟩
      rw [mix (hb.at_ _) (hb.at_ _) hd h1]
      have hA := hb.at_ (p.tmod bs.length).toNat
      have hB := hb.at_ ((p * 7 + 3).tmod bs.length).toNat
      generalize bs.getD (p.tmod bs.length).toNat 0 = x at hA
      generalize bs.getD ((p * 7 + 3).tmod bs.length).toNat 0 = y at hB
      generalize p.tdiv bs.length = q at hd
      have hs : (x * 131 + y * 1117 + p * 29 + q * 53).tdiv 64 = (x * 131 + y * 1117 + p * 29 + q * 53) / 64 := Int.tdiv_eq_ediv_of_nonneg (by omega)
      rw [hs, wrapi (n := (x * 131 + y * 1117 + p * 29 + q * 53) / 64) (by omega) (by omega)]
      exact xor_nonneg (by omega) (by omega) (by omega) (by omega)
    case lt => exact Int.tmod_lt_of_pos _ (by omega)
  · refine ⟨0, [], [], ⟨by decide, .inr rfl⟩, ?_⟩
    repeat' (first | exact trivial | exact ⟨trivial⟩ | exact Side.mk rfl | exact sF1 rfl | exact Chk.mk (by kernel_rfl) | exact ⟨Chk.mk (by kernel_rfl)⟩ | exact ⟨e5⟩ | exact ⟨e6⟩ | refine And.intro ?_ ?_ | rfl)
/-- What pick and num do, as a caller sees it. -/
def sPick (ds : List MV) (os : List Ob) : ConT := match ds, os with
  | [_, .one (.sc (.int _ n))], [.box [b, .sc (.int _ p)]] => ⟨Int, fun x => 0 ≤ x ∧ (x < n ∨ x = 0), fun x => oi x, fun _ => [.box [b, i6 (p + 1)]]⟩
  | _, _ => noT
@[reducible] def i1 (n : Int) : List MC := [i6 n]
def sNum (ds : List MV) (os : List Ob) : ConT := match ds, os with
  | [_, .one (.fz rows)], [.box [b, .sc (.int _ p)]] => ⟨Int, fun x => i1 x ∈ rows, fun x => oi x, fun _ => [.box [b, i6 (p + 1)]]⟩
  | _, _ => noT
theorem c_num (bs : List Int) (hb : BsOk bs) (p : Int) (h0 : 0 ≤ p) (h1 : p ≤ 1000000000000) (xs : List Int) (hx : 0 < xs.length) (hxl : xs.length ≤ 1000) : Con PP 78 [.one (.ptr 0 0 0), .one (.fz (xs.map i1))] [rdO bs p] 1 (fun x : Int => i1 x ∈ xs.map i1) (fun x => oi x) (fun _ => [rdO bs (p + 1)]) := by
  refine Con.vc [(9, .con false [0] [] [] sPick), (10, .rowf fun n => i1 (xs.getD n.toNat 0))] TTok hmo Go.Proofs.Tryd.func78 rfl (by kernel_rfl) rfl (by kernel_rfl) ?_
  repeat' (first | refine And.intro ?_ ?_ | exact tf | exact ft | refine tt ?_ | refine ff ?_ | exact ⟨trivial⟩ | exact sAll rfl | exact sF1 rfl | exact sBld (by repeat' (first | exact trivial | rfl | exact Nat.le_of_ble_eq_true rfl | refine And.intro ?_ ?_)) rfl | exact sBS (by repeat' (first | exact trivial | rfl | exact Nat.le_of_ble_eq_true rfl | refine And.intro ?_ ?_)) rfl rfl rfl rfl | exact sBSF (by repeat' (first | exact trivial | rfl | exact Nat.le_of_ble_eq_true rfl | refine And.intro ?_ ?_)) rfl rfl rfl rfl | exact sLe rfl | exact Chk.mk (by kernel_rfl) | exact ⟨Chk.mk (by kernel_rfl)⟩ | exact sLeEq rfl rfl | exact Side.mk (c_pick bs hb p _ h0 h1) | exact Side.mk (fun _ _ => trivial) | refine fun h => ?_)
  all_goals try (exact ⟨trivial, trivial⟩)
  · rename_i x
    dsimp only [sPick] at x h
    simp only [List.length_map] at h
    have hxr : 0 ≤ x ∧ x < xs.length := by omega
    refine sRow hxr.1 ?_ rfl
    rw [List.getElem?_map, List.getElem?_eq_getElem (by omega)]
    have : x.toNat < xs.length := by omega
    simp [this]
  · rename_i x
    dsimp only [sPick] at x h
    simp only [List.length_map] at h
    have hxr : 0 ≤ x ∧ x < xs.length := by omega
    refine ⟨_, [], [], List.mem_map.2 ⟨xs.getD x.toNat 0, ?_, rfl⟩, ?_⟩
    · have : x.toNat < xs.length := by omega
      simp [this]
    · repeat' (first | exact trivial | exact ⟨trivial⟩ | exact Side.mk rfl | exact sF1 rfl | exact Chk.mk (by kernel_rfl) | exact ⟨Chk.mk (by kernel_rfl)⟩ | refine And.intro ?_ ?_ | rfl)
end Mg

/- What is left bounds what is there. No condition. -/
namespace Mg
open Go Go.RowKit
set_option maxRecDepth 100000
set_option linter.unusedVariables false
set_option linter.unusedSimpArgs false
attribute [local irreducible] W Pure

theorem sg_pos {a : Int} (h : 0 ≤ sg a) : 0 ≤ a := by unfold sg at h; split at h <;> omega
theorem sg_eq {a : Int} (h : 0 ≤ a) : sg a = a := by unfold sg; rw [if_neg (by omega)]
theorem thenI_pos {a : Int} {f : Int → Int} (h : 0 ≤ thenI a f) : 0 ≤ a ∧ 0 ≤ f a := by
  unfold thenI at h; split at h
  · omega
  · exact ⟨by omega, h⟩
theorem szT_ok {n : Nat} {l : Int} (h : 0 ≤ szT n l) : (n : Int) ≤ l ∧ szT n l ≤ l := by
  have := sg_pos h
  unfold szT
  rw [sg_eq this]; omega
theorem szRun_ok {x : Run} {l : Int} (h1 : l ≤ lim) (h : 0 ≤ szRun x l) : x.ok lim := by
  obtain ⟨ha, hb⟩ := thenI_pos h
  have h2 := szT_ok ha
  have h3 := szT_ok (sg_pos hb)
  exact ⟨by omega, by omega⟩
theorem szVote_ok {x : Vote} {l : Int} (h1 : l ≤ lim) (h : 0 ≤ szVote x l) : x.ok lim := szRun_ok h1 (sg_pos (sg_pos h))
theorem szL_ok {xs : List Vote} : ∀ {l : Int}, 0 ≤ l → l ≤ lim → 0 ≤ szL szVote xs l → ∀ v ∈ xs, v.ok lim := by
  induction xs with
  | nil => intro l _ _ _ v hv; cases hv
  | cons x xs ih =>
    intro l h0 h1 h v hv
    obtain ⟨ha, hb⟩ := thenI_pos h
    rcases List.mem_cons.1 hv with rfl | hv
    · exact szVote_ok h1 ha
    · have := szVote_le x h0
      exact ih ha (by omega) hb v hv
theorem szAcc_ok {x : Acc} {l : Int} (h1 : l ≤ lim) (h : 0 ≤ szAcc x l) : x.ok lim := by
  obtain ⟨ha, hb⟩ := thenI_pos (sg_pos h)
  exact ⟨by omega, szL_ok ha (by omega) hb⟩
theorem szL_le {xs : List Vote} : ∀ {l : Int}, 0 ≤ l → szL szVote xs l ≤ l := by
  induction xs with
  | nil => intro l h; exact Int.le_refl _
  | cons x xs ih =>
    intro l h
    have := szVote_le x h
    simp only [szL, thenI]
    split
    · omega
    · have := ih (l := szVote x l) (by omega); omega
theorem szAcc_le {x : Acc} {l : Int} (h : 0 ≤ l) : szAcc x l ≤ l := by
  refine sg_le ?_ h
  unfold szVoteS thenI
  split
  · omega
  · have := szL_le (xs := x.votes) (l := l - x.votes.length) (by omega); omega

end Mg

/- Messages. No condition. -/
namespace Mg
open Go Go.RowKit
set_option maxRecDepth 100000
set_option linter.unusedVariables false
set_option linter.unusedSimpArgs false
attribute [local irreducible] W Pure
structure Msg where
  kind : Int
  src : Int
  dst : Int
  bal : Int
  slot : Int
  e : Entry
  votes : List Vote
  deriving DecidableEq, Inhabited
def Msg.cells (x : Msg) : List MC := [i6 x.kind, i6 x.src, i6 x.dst, i6 x.bal, i6 x.slot] ++ x.e.cells ++ [.fz (x.votes.map Vote.cells)]
def Msg.ok (n : Nat) (x : Msg) : Prop := x.e.ok n ∧ VotesOk n x.votes
theorem c_eqMsg (x y : Msg) (hx : x.ok lim) (hy : y.ok lim) :
    Pure PP false 27 [.agg x.cells, .agg y.cells] (ob (decide (x = y))) := by
  obtain ⟨k, f, t, b, s, e, vs⟩ := x
  obtain ⟨k', f', t', b', s', e', vs'⟩ := y
  refine Pure.vc [(34, .res (ob (decide (e = e')))), (40, .res (ob (decide (vs = vs'))))] TTok hmo Go.Proofs.Tryd.func27 (by kernel_rfl) rfl (by kernel_rfl) ?_
  repeat' (first | refine And.intro ?_ ?_ | exact tf | exact ft | refine tt ?_ | refine ff ?_ | exact ⟨trivial⟩ | exact sLe rfl | exact Chk.mk (by kernel_rfl) | exact ⟨Chk.mk (by kernel_rfl)⟩ | exact sLeEq rfl rfl | exact sAnd (by repeat' constructor) (c_eqEntry _ _ hx.1 hy.1) | exact sAnd (by repeat' constructor) (c_eqVoteS _ _ (Nat.le_trans hx.2.1 (by decide)) (Nat.le_trans hy.2.1 (by decide)) hx.2.2 hy.2.2) | refine fun h => ?_)
  all_goals (refine ⟨?_⟩; simp_all)
  all_goals rfl

theorem c_toMsg (x : Msg) (hx : x.ok lim) :
    Pure PP false 26 [.agg x.cells] (.agg x.cells) := by
  refine Pure.vc [(21, .res (.agg x.e.cells)), (25, .res (.one (.fz (x.votes.map Vote.cells))))] TTok hmo Go.Proofs.Tryd.func26 (by kernel_rfl) rfl (by kernel_rfl) ?_
  repeat' (first | refine And.intro ?_ ?_ | exact tf | exact ft | refine tt ?_ | refine ff ?_ | exact ⟨trivial⟩ | exact sLe rfl | exact Chk.mk (by kernel_rfl) | exact ⟨Chk.mk (by kernel_rfl)⟩ | exact sLeEq rfl rfl | exact sAnd (by repeat' constructor) (c_toEntry _ hx.1) | exact sAnd (by repeat' constructor) (c_toVoteS _ hx.2.1 hx.2.2) | refine fun h => ?_)
  all_goals (refine ⟨?_⟩; repeat' (first | exact trivial | exact Nat.le_of_ble_eq_true rfl | rfl | refine And.intro ?_ ?_))

theorem c_impl_MsgSame (x y : Msg) (hx : x.ok lim) (hy : y.ok lim) :
    Pure PP false 29 [.agg x.cells, .agg y.cells] (ob (decide (x = y))) := by
  obtain ⟨k, f, t, b, s, e, vs⟩ := x
  obtain ⟨k', f', t', b', s', e', vs'⟩ := y
  refine Pure.vc [(43, .res (ob (decide (e = e')))), (50, .res (ob (decide (vs = vs'))))] TTok hmo Go.Proofs.Tryd.func29 (by kernel_rfl) rfl (by kernel_rfl) ?_
  repeat' (first | refine And.intro ?_ ?_ | exact tf | exact ft | refine tt ?_ | refine ff ?_ | exact ⟨trivial⟩ | exact sLe rfl | exact Chk.mk (by kernel_rfl) | exact ⟨Chk.mk (by kernel_rfl)⟩ | exact sLeEq rfl rfl | exact sAnd (by repeat' constructor) (c_impl_CertLike _ _ hx.1 hy.1) | exact sAnd (by repeat' constructor) (c_votesSame _ _ (Nat.le_trans hx.2.1 (by decide)) (Nat.le_trans hy.2.1 (by decide)) hx.2.2 hy.2.2) | refine fun h => ?_)
  all_goals (refine ⟨?_⟩; simp_all)
  all_goals rfl

theorem c_spec_MsgSame (x y : Msg) (hx : x.ok lim) (hy : y.ok lim) :
    Pure PP false 30 [.agg x.cells, .agg y.cells] (ob (decide (x = y))) := by
  obtain ⟨k, f, t, b, s, e, vs⟩ := x
  obtain ⟨k', f', t', b', s', e', vs'⟩ := y
  refine Pure.vc [(43, .res (ob (decide (e = e')))), (50, .res (ob (decide (vs = vs'))))] TTok hmo Go.Proofs.Tryd.func30 (by kernel_rfl) rfl (by kernel_rfl) ?_
  repeat' (first | refine And.intro ?_ ?_ | exact tf | exact ft | refine tt ?_ | refine ff ?_ | exact ⟨trivial⟩ | exact sLe rfl | exact Chk.mk (by kernel_rfl) | exact ⟨Chk.mk (by kernel_rfl)⟩ | exact sLeEq rfl rfl | exact sAnd (by repeat' constructor) (c_spec_CertLike _ _ hx.1 hy.1) | exact sAnd (by repeat' constructor) (c_l6Same _ _ (Nat.le_trans hx.2.1 (by decide)) (Nat.le_trans hy.2.1 (by decide)) hx.2.2 hy.2.2) | refine fun h => ?_)
  all_goals (refine ⟨?_⟩; simp_all)
  all_goals rfl

def szMsg (x : Msg) (l : Int) : Int := thenI (szEntry x.e l) fun a => sg (szVoteS x.votes a)
theorem c_szMsg (x : Msg) (l : Int) (h0 : 0 ≤ l) (h1 : l ≤ lim) (hx : x.ok maxLen) : Pure PP false 24 [.agg x.cells, oi l] (oi (szMsg x l)) := by
  have hle := szEntry_le x.e h0
  refine Pure.vc [(8, .res (oi (szEntry x.e l))), (14, .res (oi (szVoteS x.votes (szEntry x.e l))))] TTok hmo Go.Proofs.Tryd.func24 (by kernel_rfl) rfl (by kernel_rfl) ?_
  repeat' (first | refine And.intro ?_ ?_ | exact tf | exact ft | refine tt ?_ | refine ff ?_ | exact ⟨trivial⟩ | exact sLe rfl | exact Chk.mk (by kernel_rfl) | exact ⟨Chk.mk (by kernel_rfl)⟩ | exact sLeEq rfl rfl | refine fun h => ?_)
  · exact sAnd (by repeat' constructor) (c_szEntry _ _ h0 h1 hx.1)
  · refine ⟨?_⟩; simp_all [szMsg, thenI]
  · exact sAnd (by repeat' constructor) (c_szVoteS _ _ (by simpa using h) (by omega) hx.2.1 hx.2.2)
  all_goals (refine ⟨?_⟩; simp_all [szMsg, thenI, sg])
  all_goals omega
theorem szVoteS_le {xs : List Vote} {l : Int} (h : 0 ≤ l) : szVoteS xs l ≤ l := by
  unfold szVoteS thenI
  split
  · omega
  · have := szL_le (xs := xs) (l := l - xs.length) (by omega); omega
theorem szVoteS_ok {xs : List Vote} {l : Int} (h1 : l ≤ lim) (h : 0 ≤ szVoteS xs l) : VotesOk lim xs := by
  obtain ⟨ha, hb⟩ := thenI_pos h
  exact ⟨by omega, szL_ok ha (by omega) hb⟩
theorem szMsg_le {x : Msg} {l : Int} (h : 0 ≤ l) : szMsg x l ≤ l := by
  have h1 := szEntry_le x.e h
  unfold szMsg thenI
  split
  · omega
  · have := szVoteS_le (xs := x.votes) (l := szEntry x.e l) (by omega)
    exact sg_le (by omega) h
theorem szMsg_ok {x : Msg} {l : Int} (h0 : 0 ≤ l) (h1 : l ≤ lim) (h : 0 ≤ szMsg x l) : x.ok lim := by
  obtain ⟨ha, hb⟩ := thenI_pos h
  have h2 := szEntry_le x.e h0
  exact ⟨szRun_ok h1 (sg_pos ha), szVoteS_ok (by omega) (sg_pos hb)⟩
end Mg

/- The data of nodes and worlds. No condition. -/
namespace Mg
open Go Go.RowKit
set_option linter.unusedVariables false
structure Ins where
  kind : Int
  a : Int
  b : Int
  n : Int
  deriving DecidableEq, Inhabited
structure Told where
  node : Int
  q : Two
  code : Int
  val : Int
  deriving DecidableEq, Inhabited
structure Asked where
  q : Two
  prog : List Ins
  deriving DecidableEq, Inhabited
structure Node where
  id : Int
  acc : Acc
  known : List Entry
  seq : Int
  phase : Int
  bal : Int
  fro : List Bool
  best : List Vote
  cur : Entry
  votes : List Bool
  busy : Bool
  prog : List Ins
  want : Entry
  queue : List Entry
  deriving DecidableEq, Inhabited
structure World where
  nodes : List Node
  net : List Msg
  asked : List Asked
  told : List Told
  deriving DecidableEq, Inhabited
def Bool.cells (b : Bool) : List MC := [bo b]
def Ins.cells (x : Ins) : List MC := [i6 x.kind, i6 x.a, i6 x.b, i6 x.n]
def Told.cells (x : Told) : List MC := [i6 x.node] ++ x.q.cells ++ [i6 x.code, i6 x.val]
def Asked.cells (x : Asked) : List MC := x.q.cells ++ [.fz (x.prog.map Ins.cells)]
def Node.cells (x : Node) : List MC := [i6 x.id] ++ x.acc.cells ++ [.fz (x.known.map Entry.cells), i6 x.seq, i6 x.phase, i6 x.bal, .fz (x.fro.map Bool.cells), .fz (x.best.map Vote.cells)] ++ x.cur.cells ++
  [.fz (x.votes.map Bool.cells), bo x.busy, .fz (x.prog.map Ins.cells)] ++ x.want.cells ++ [.fz (x.queue.map Entry.cells)]
def World.cells (x : World) : List MC := [.fz (x.nodes.map Node.cells), .fz (x.net.map Msg.cells), .fz (x.asked.map Asked.cells), .fz (x.told.map Told.cells)]
def EntriesOk (n : Nat) (xs : List Entry) : Prop := xs.length ≤ n ∧ ∀ e ∈ xs, e.ok n
def Asked.ok (n : Nat) (x : Asked) : Prop := x.prog.length ≤ n
structure Node.ok (n : Nat) (x : Node) : Prop where
  acc : x.acc.ok n
  known : EntriesOk n x.known
  fro : x.fro.length ≤ n
  best : VotesOk n x.best
  cur : x.cur.ok n
  votes : x.votes.length ≤ n
  prog : x.prog.length ≤ n
  want : x.want.ok n
  queue : EntriesOk n x.queue
structure World.ok (n : Nat) (x : World) : Prop where
  nodes : x.nodes.length ≤ n ∧ ∀ y ∈ x.nodes, y.ok n
  net : x.net.length ≤ n ∧ ∀ y ∈ x.net, y.ok n
  asked : x.asked.length ≤ n ∧ ∀ y ∈ x.asked, y.ok n
  told : x.told.length ≤ n
theorem Bool.frz (x : Bool) : (Bool.cells x).all MC.frz = true := rfl
theorem Bool.flat (x : Bool) : (Bool.cells x).all MC.flat = true := rfl
theorem Ins.frz (x : Ins) : x.cells.all MC.frz = true := rfl
theorem Ins.flat (x : Ins) : x.cells.all MC.flat = true := rfl
theorem Told.frz (x : Told) : x.cells.all MC.frz = true := rfl
theorem Told.flat (x : Told) : x.cells.all MC.flat = true := rfl
theorem Asked.frz (x : Asked) : x.cells.all MC.frz = true := rfl
theorem Asked.flat (x : Asked) : x.cells.all MC.flat = true := rfl
theorem Entry.flat (x : Entry) : x.cells.all MC.flat = true := rfl
theorem Msg.frz (x : Msg) : x.cells.all MC.frz = true := rfl
theorem Msg.flat (x : Msg) : x.cells.all MC.flat = true := rfl
theorem Node.frz (x : Node) : x.cells.all MC.frz = true := rfl
theorem Node.flat (x : Node) : x.cells.all MC.flat = true := rfl

/- What is left, reckoned. -/
structure SzOk (f : Int → Int) (p : Prop) : Prop where
  le : ∀ l : Int, 0 ≤ l → f l ≤ l
  ok : ∀ l : Int, 0 ≤ l → l ≤ (lim : Int) → 0 ≤ f l → p
theorem SzOk.imp {f : Int → Int} {p q : Prop} (h : SzOk f p) (hq : p → q) : SzOk f q := ⟨h.le, fun l h0 h1 h2 => hq (h.ok l h0 h1 h2)⟩
theorem SzOk.then_ {f g : Int → Int} {p q : Prop} (hf : SzOk f p) (hg : SzOk g q) : SzOk (fun l => thenI (f l) g) (p ∧ q) := by
  refine ⟨fun l h => ?_, fun l h0 h1 h => ?_⟩
  · have := hf.le l h
    simp only [thenI]; split
    · omega
    · have := hg.le (f l) (by omega); omega
  · obtain ⟨h2, h3⟩ := thenI_pos h
    have := hf.le l h0
    exact ⟨hf.ok l h0 h1 h2, hg.ok _ h2 (by omega) h3⟩
theorem SzOk.sg {f : Int → Int} {p : Prop} (hf : SzOk f p) : SzOk (fun l => Mg.sg (f l)) p :=
  ⟨fun l h => sg_le (hf.le l h) h, fun l h0 h1 h => hf.ok l h0 h1 (sg_pos h)⟩
theorem szOk_T (n : Nat) : SzOk (szT n) (n ≤ lim) :=
  ⟨fun l h => szT_le n h, fun l h0 h1 h => by have := (szT_ok h).1; omega⟩
def szS {α : Type} (f : α → Int → Int) (xs : List α) (l : Int) : Int := thenI (l - xs.length) (szL f xs)
theorem szL_all {α : Type} {f : α → Int → Int} {ok : α → Prop} (hf : ∀ x, SzOk (f x) (ok x)) : ∀ xs : List α, SzOk (szL f xs) (∀ x ∈ xs, ok x)
  | [] => ⟨fun l h => Int.le_refl _, fun l _ _ _ x hx => by simp at hx⟩
  | x :: xs => ((hf x).then_ (szL_all hf xs)).imp fun h y hy => by
    rcases List.mem_cons.1 hy with rfl | hy
    · exact h.1
    · exact h.2 y hy
theorem szOk_S {α : Type} {f : α → Int → Int} {ok : α → Prop} (hf : ∀ x, SzOk (f x) (ok x)) (xs : List α) : SzOk (szS f xs) (xs.length ≤ lim ∧ ∀ x ∈ xs, ok x) := by
  refine ⟨fun l h => ?_, fun l h0 h1 h => ?_⟩
  · unfold szS thenI
    split
    · omega
    · have := (szL_all hf xs).le (l - xs.length) (by omega); omega
  · obtain ⟨h2, h3⟩ := thenI_pos h
    exact ⟨by omega, (szL_all hf xs).ok _ h2 (by omega) h3⟩
theorem szOk_entry (x : Entry) : SzOk (szEntry x) (x.ok lim) := ⟨fun l h => szEntry_le x h, fun l h0 h1 h => szRun_ok h1 (sg_pos h)⟩
theorem szOk_vote (x : Vote) : SzOk (szVote x) (x.ok lim) := ⟨fun l h => szVote_le x h, fun l h0 h1 h => szVote_ok h1 h⟩
theorem szOk_votes (xs : List Vote) : SzOk (szVoteS xs) (VotesOk lim xs) := szOk_S szOk_vote xs
theorem szOk_acc (x : Acc) : SzOk (szAcc x) (x.ok lim) := ⟨fun l h => szAcc_le h, fun l h0 h1 h => szAcc_ok h1 h⟩
theorem szOk_entries (xs : List Entry) : SzOk (szS szEntry xs) (EntriesOk lim xs) := szOk_S szOk_entry xs
theorem szOk_msg (x : Msg) : SzOk (szMsg x) (x.ok lim) := ⟨fun l h => szMsg_le h, fun l h0 h1 h => szMsg_ok h0 h1 h⟩
def szNode (x : Node) (l : Int) : Int := thenI (szAcc x.acc l) fun l => thenI (szS szEntry x.known l) fun l => thenI (szT x.fro.length l) fun l => thenI (szVoteS x.best l) fun l => thenI (szEntry x.cur l) fun l =>
  thenI (szT x.votes.length l) fun l => thenI (szT x.prog.length l) fun l => thenI (szEntry x.want l) fun l => sg (szS szEntry x.queue l)
theorem szOk_node (x : Node) : SzOk (szNode x) (x.ok lim) :=
  ((szOk_acc x.acc).then_ <| (szOk_entries x.known).then_ <| (szOk_T x.fro.length).then_ <| (szOk_votes x.best).then_ <| (szOk_entry x.cur).then_ <| (szOk_T x.votes.length).then_ <| (szOk_T x.prog.length).then_ <| (szOk_entry x.want).then_ <| (szOk_entries x.queue).sg).imp
    fun ⟨h1, h2, h3, h4, h5, h6, h7, h8, h9⟩ => ⟨h1, h2, h3, h4, h5, h6, h7, h8, h9⟩
def szAsked (x : Asked) (l : Int) : Int := sg (szT x.prog.length l)
theorem szOk_asked (x : Asked) : SzOk (szAsked x) (x.ok lim) := (szOk_T x.prog.length).sg
def szWorld (x : World) (l : Int) : Int := thenI (szS szNode x.nodes l) fun l => thenI (szS szMsg x.net l) fun l => thenI (szS szAsked x.asked l) fun l => sg (szT x.told.length l)
theorem szOk_world (x : World) : SzOk (szWorld x) (x.ok lim) :=
  ((szOk_S szOk_node x.nodes).then_ <| (szOk_S szOk_msg x.net).then_ <| (szOk_S szOk_asked x.asked).then_ <| (szOk_T x.told.length).sg).imp fun ⟨h1, h2, h3, h4⟩ => ⟨h1, h2, h3, h4⟩
end Mg

/- Draws of programs. No condition. -/
namespace Mg
open Go Go.RowKit
set_option maxRecDepth 100000
set_option linter.unusedVariables false
set_option linter.unusedSimpArgs false
attribute [local irreducible] W Pure Con
theorem exIns {Q : Ins × Int → Prop} (k a b n q : Int) (h : Q (⟨k, a, b, n⟩, q)) : ∃ d, Q d := ⟨_, h⟩
set_option maxHeartbeats 2000000 in
theorem c_l2Any (bs : List Int) (hb : BsOk bs) (p : Int) (h0 : 0 ≤ p) (h1 : p ≤ 999999999000) : Con PP 103 [.one (.ptr 0 0 0)] [rdO bs p] 1 (fun d : Ins × Int => p ≤ d.2 ∧ d.2 ≤ p + 6) (fun d => .agg d.1.cells) (fun d => [rdO bs d.2]) := by
  refine Con.vc [(6, .con false [0] [] [2] sNum), (8, .con false [0] [] [] sPick), (10, .con false [0] [] [] sPick), (19, .con false [0] [] [4] sNum), (24, .con false [0] [] [] sPick), (30, .con false [0] [] [] sPick), (33, .con false [0] [] [] sPick), (35, .con false [0] [] [] sPick)] TTok hmo Go.Proofs.Tryd.func103 rfl (by kernel_rfl) rfl (by kernel_rfl) ?_
  repeat' (first | refine And.intro ?_ ?_ | exact tf | exact ft | refine tt ?_ | refine ff ?_ | exact ⟨trivial⟩ | exact sAll rfl | exact sF1 rfl | exact sBld (by repeat' (first | exact trivial | rfl | exact Nat.le_of_ble_eq_true rfl | refine And.intro ?_ ?_)) rfl | exact sBS (by repeat' (first | exact trivial | rfl | exact Nat.le_of_ble_eq_true rfl | refine And.intro ?_ ?_)) rfl rfl rfl rfl | exact sBSF (by repeat' (first | exact trivial | rfl | exact Nat.le_of_ble_eq_true rfl | refine And.intro ?_ ?_)) rfl rfl rfl rfl | exact sLe rfl | exact Chk.mk (by kernel_rfl) | exact ⟨Chk.mk (by kernel_rfl)⟩ | exact sLeEq rfl rfl | exact Side.mk (c_pick bs hb _ _ (by omega) (by omega)) | exact Side.mk (c_num bs hb _ (by omega) (by omega) [1, 1, 2, 2, 3, 4, 4, 5, 6, 7] (by decide) (by decide)) | exact Side.mk (c_num bs hb _ (by omega) (by omega) [0, 1, 5, -2, 100, 1000000] (by decide) (by decide)) | exact Side.mk (fun _ _ => trivial) | refine fun h => ?_)
  all_goals try (exact ⟨Nat.le_of_ble_eq_true rfl, trivial⟩)
  all_goals (apply exIns; refine ⟨[], [], ?_, ?_⟩; rotate_left 1; focus (repeat' (first | exact trivial | exact ⟨trivial⟩ | exact Side.mk rfl | exact sF1 rfl | exact Chk.mk (by kernel_rfl) | exact ⟨Chk.mk (by kernel_rfl)⟩ | refine And.intro ?_ ?_ | rfl)))
  all_goals (dsimp only; omega)
end Mg

/- Draws of programs, whole. No condition. -/
namespace Mg
open Go Go.RowKit
set_option maxRecDepth 100000
set_option linter.unusedVariables false
set_option linter.unusedSimpArgs false
attribute [local irreducible] W Pure Con
def sAny (ds : List MV) (os : List Ob) : ConT := match os with
  | [.box [b, .sc (.int _ p)]] => ⟨Ins × Int, fun d => p ≤ d.2 ∧ d.2 ≤ p + 6, fun d => .agg d.1.cells, fun d => [.box [b, i6 d.2]]⟩
  | _ => noT
theorem exProg {Q : List Ins × Int → Prop} (xs : List Ins) (q : Int) (h : Q (xs, q)) : ∃ d, Q d := ⟨_, h⟩
set_option maxHeartbeats 2000000 in
theorem c_l2Prog (bs : List Int) (hb : BsOk bs) (p : Int) (h0 : 0 ≤ p) (h1 : p ≤ 999999998000) : Con PP 93 [.one (.ptr 0 0 0)] [rdO bs p] 1 (fun d : List Ins × Int => d.1.length ≤ 8 ∧ p ≤ d.2 ∧ d.2 ≤ p + 60) (fun d => .one (.fz (d.1.map Ins.cells))) (fun d => [rdO bs d.2]) := by
  refine Con.vc [(8, .con false [0] [] [] sPick), (11, .con false [0] [] [] sPick), (13, .con false [0] [] [] sPick), (17, .con false [0] [] [] sPick), (26, .con false [0] [] [] sPick)] TTok hmo Go.Proofs.Tryd.func93 rfl (by kernel_rfl) rfl (by kernel_rfl) ?_
  repeat' (first | refine And.intro ?_ ?_ | exact tf | exact ft | refine tt ?_ | refine ff ?_ | exact ⟨trivial⟩ | exact sAll rfl | exact sF1 rfl | exact sBld (by repeat' (first | exact trivial | rfl | exact Nat.le_of_ble_eq_true rfl | refine And.intro ?_ ?_)) rfl | exact sBS (by repeat' (first | exact trivial | rfl | exact Nat.le_of_ble_eq_true rfl | refine And.intro ?_ ?_)) rfl rfl rfl rfl | exact sBSF (by repeat' (first | exact trivial | rfl | exact Nat.le_of_ble_eq_true rfl | refine And.intro ?_ ?_)) rfl rfl rfl rfl | exact sLe rfl | exact Chk.mk (by kernel_rfl) | exact ⟨Chk.mk (by kernel_rfl)⟩ | exact sLeEq rfl rfl | exact Side.mk (c_pick bs hb _ _ (by omega) (by omega)) | exact Side.mk (fun _ _ => trivial) | refine fun h => ?_)
  all_goals try (exact ⟨Nat.le_of_ble_eq_true rfl, trivial⟩)
  · exact ⟨trivial, trivial⟩
  · apply exProg [⟨_, _, _, _⟩, ⟨_, _, _, _⟩, ⟨_, _, _, _⟩, ⟨_, _, _, _⟩]; refine ⟨[], [1], ?_, ?_⟩; rotate_left 1; focus (repeat' (first | exact trivial | exact ⟨trivial⟩ | exact Side.mk rfl | exact sF1 rfl | exact Chk.mk (by kernel_rfl) | exact ⟨Chk.mk (by kernel_rfl)⟩ | refine And.intro ?_ ?_ | rfl))
    exact ⟨Nat.le_of_ble_eq_true rfl, by dsimp only; omega, by dsimp only; omega⟩
  · dsimp only [sPick] at *
    rename_i q1 hq1 hz q3
    refine W.vslot 5 rfl ?_
    refine W.loopC (D := Int × List Ins × Int) (fun d => [(33, .con false [0] [] [] sAny)]) TTok hmo
      (fun d => ⟨37, 2, [(0, .one (.ptr 0 0 0)), (5, .one (.ref 1 0 d.2.1.length)), (6, oi d.1)], [(0, rdO bs d.2.2), (1, .arr (d.2.1.map Ins.cells))]⟩) (fun d => d.1.toNat)
      (fun d => (0 ≤ d.1 ∧ d.1 ≤ 7) ∧ d.2.1.length + d.1 ≤ 8 ∧ p ≤ d.2.2 ∧ d.2.2 + 7 * d.1 ≤ p + 60) (q3, [], p + 1 + 1) [] ⟨by dsimp only; omega, by simp; omega, by dsimp only; omega, by dsimp only; omega⟩ ?_ ?_
    · repeat' (first | exact trivial | exact ⟨trivial⟩ | exact Side.mk rfl | exact sF1 rfl | exact Chk.mk (by kernel_rfl) | exact ⟨Chk.mk (by kernel_rfl)⟩ | exact ⟨by simp⟩ | refine And.intro ?_ ?_ | rfl)
    · intro ⟨i, out, q⟩ ⟨hi, hl, hp, hq⟩
      dsimp only at hi hl hp hq
      repeat' (first | refine And.intro ?_ ?_ | exact tf | exact ft | refine tt ?_ | refine ff ?_ | exact ⟨trivial⟩ | exact sAll rfl | exact sF1 rfl | exact sBld (by repeat' (first | exact trivial | rfl | exact Nat.le_of_ble_eq_true rfl | refine And.intro ?_ ?_)) rfl | exact sBS (by repeat' (first | exact trivial | rfl | exact Nat.le_of_ble_eq_true rfl | refine And.intro ?_ ?_)) rfl rfl rfl rfl | exact sBSF (by repeat' (first | exact trivial | rfl | exact Nat.le_of_ble_eq_true rfl | refine And.intro ?_ ?_)) rfl rfl rfl rfl | exact sLe rfl | exact Chk.mk (by kernel_rfl) | exact ⟨Chk.mk (by kernel_rfl)⟩ | exact sLeEq rfl rfl | exact Side.mk (c_l2Any bs hb _ (by dsimp only; omega) (by dsimp only; omega)) | exact Side.mk (fun _ _ => trivial) | refine fun h => ?_)
      all_goals dsimp only [sAny] at *
      all_goals try (exact ⟨trivial, trivial⟩)
      all_goals try (exact sApp (xs := out) (c := Ins.cells) (by simp) (fun _ => rfl) rfl (by omega) rfl rfl)
      all_goals simp only [decide_eq_true_eq, decide_eq_false_iff_not, List.length_map, Bool.not_eq_true', Bool.not_eq_false', Bool.not_eq_eq_eq_not, Bool.not_true, Bool.not_false, bne_iff_ne, ne_eq, bne_eq_false_iff_eq, beq_iff_eq, beq_eq_false_iff_ne] at *
      · rename_i d hd
        refine ⟨(i - 1, out ++ [d.1], d.2), [(1, 3)], ?_, ⟨?_, ?_, ?_, ?_⟩, ?_⟩
        all_goals dsimp only
        · omega
        · omega
        · simp; omega
        · omega
        · omega
        · repeat' (first | exact trivial | exact ⟨trivial⟩ | exact Side.mk rfl | exact sF1 rfl | exact Chk.mk (by kernel_rfl) | exact ⟨Chk.mk (by kernel_rfl)⟩ | exact sAppR rfl | exact sMapF Ins.flat | exact sAppL rfl rfl | exact sWr (by omega) (by omega) rfl | refine And.intro ?_ ?_ | rfl)
      · apply exProg out q; refine ⟨[], [1], ⟨by dsimp only; omega, by dsimp only; omega, by dsimp only; omega⟩, ?_⟩
        repeat' (first | exact trivial | exact ⟨trivial⟩ | exact Side.mk rfl | exact sF1 rfl | exact Chk.mk (by kernel_rfl) | exact ⟨Chk.mk (by kernel_rfl)⟩ | exact sMapZ Ins.frz | exact sFzE rfl | refine And.intro ?_ ?_ | rfl)
end Mg

/- Programs that are right. No condition. -/
namespace Mg
open Go Go.RowKit
set_option maxRecDepth 100000
set_option linter.unusedVariables false
set_option linter.unusedSimpArgs false
attribute [local irreducible] W Pure
theorem c_l2Reg (n : Int) : Pure PP false 116 [oi n] (ob (inr n 0 3)) := by
  refine Pure.vc [] TTok hmo Go.Proofs.Tryd.func116 (by kernel_rfl) rfl (by kernel_rfl) ?_
  repeat' (first | refine And.intro ?_ ?_ | exact tf | exact ft | refine tt ?_ | refine ff ?_ | exact ⟨trivial⟩ | exact sAll rfl | exact sF1 rfl | exact sBld (by repeat' (first | exact trivial | rfl | exact Nat.le_of_ble_eq_true rfl | refine And.intro ?_ ?_)) rfl | exact sBS (by repeat' (first | exact trivial | rfl | exact Nat.le_of_ble_eq_true rfl | refine And.intro ?_ ?_)) rfl rfl rfl rfl | exact sBSF (by repeat' (first | exact trivial | rfl | exact Nat.le_of_ble_eq_true rfl | refine And.intro ?_ ?_)) rfl rfl rfl rfl | exact sLe rfl | exact Chk.mk (by kernel_rfl) | exact ⟨Chk.mk (by kernel_rfl)⟩ | exact sLeEq rfl rfl | refine fun h => ?_)
  all_goals (refine ⟨?_⟩; simp_all [inr])
  all_goals omega
def insOk (x : Ins) : Bool :=
  if x.kind = 1 then inr x.a 0 3 && inr x.b 0 3 && x.n == 0 else
  if x.kind = 2 then inr x.a 0 3 && inr x.b 0 3 && x.n == 0 else
  if x.kind = 3 then inr x.a 0 3 && x.b == 0 && inr x.n (-1000000) 1000000 else
  if x.kind = 4 then inr x.a 0 3 && inr x.b 0 3 && x.n == 0 else
  if x.kind = 5 then inr x.a 0 3 && inr x.b 0 3 && x.n == 0 else
  if x.kind = 6 then inr x.a 0 3 && inr x.b 0 3 && inr x.n 1 10 else
  if x.kind = 7 then x.a == 0 && x.b == 0 && x.n == 0 else false
theorem c_l2Ins (x : Ins) : Pure PP false 110 [.agg x.cells] (ob (insOk x)) := by
  obtain ⟨k, a, b, n⟩ := x
  refine Pure.vc [(9, .res (ob (inr a 0 3))), (13, .res (ob (inr b 0 3))), (24, .res (ob (inr a 0 3))), (28, .res (ob (inr b 0 3))), (39, .res (ob (inr a 0 3))), (48, .res (ob (inr n (-1000000) 1000000))), (55, .res (ob (inr a 0 3))), (59, .res (ob (inr b 0 3))), (70, .res (ob (inr a 0 3))), (74, .res (ob (inr b 0 3)))] TTok hmo Go.Proofs.Tryd.func110 (by kernel_rfl) rfl (by kernel_rfl) ?_
  repeat' (first | refine And.intro ?_ ?_ | exact tf | exact ft | refine tt ?_ | refine ff ?_ | exact ⟨trivial⟩ | exact sAll rfl | exact sF1 rfl | exact sBld (by repeat' (first | exact trivial | rfl | exact Nat.le_of_ble_eq_true rfl | refine And.intro ?_ ?_)) rfl | exact sBS (by repeat' (first | exact trivial | rfl | exact Nat.le_of_ble_eq_true rfl | refine And.intro ?_ ?_)) rfl rfl rfl rfl | exact sBSF (by repeat' (first | exact trivial | rfl | exact Nat.le_of_ble_eq_true rfl | refine And.intro ?_ ?_)) rfl rfl rfl rfl | exact sLe rfl | exact Chk.mk (by kernel_rfl) | exact ⟨Chk.mk (by kernel_rfl)⟩ | exact sLeEq rfl rfl | exact sAnd (by repeat' constructor) (c_l2Reg _) | exact sAnd (by repeat' constructor) (c_l2Box _) | exact sAnd (by repeat' constructor) (c_l1Num _) | refine fun h => ?_)
  all_goals (refine Side.mk ?_)
  all_goals simp_all [insOk]
  all_goals try (simp [inr]; omega)
def progOk (xs : List Ins) : Bool := decide (xs.length ≤ 10) && xs.all insOk
theorem c_spec_ProgOk (xs : List Ins) (hx : xs.length ≤ maxLen) : Pure PP false 101 [.one (.fz (xs.map Ins.cells))] (ob (progOk xs)) := by
  have hx' : xs.length ≤ 9223372036854775807 := hx
  refine Pure.vc [] TTok hmo Go.Proofs.Tryd.func101 (by kernel_rfl) rfl (by kernel_rfl) ?_
  repeat' (first | refine And.intro ?_ ?_ | exact tf | exact ft | refine tt ?_ | refine ff ?_ | exact ⟨trivial⟩ | exact sAll rfl | exact sF1 rfl | exact sBld (by repeat' (first | exact trivial | rfl | exact Nat.le_of_ble_eq_true rfl | refine And.intro ?_ ?_)) rfl | exact sBS (by repeat' (first | exact trivial | rfl | exact Nat.le_of_ble_eq_true rfl | refine And.intro ?_ ?_)) rfl rfl rfl rfl | exact sBSF (by repeat' (first | exact trivial | rfl | exact Nat.le_of_ble_eq_true rfl | refine And.intro ?_ ?_)) rfl rfl rfl rfl | exact sLe rfl | exact Chk.mk (by kernel_rfl) | exact ⟨Chk.mk (by kernel_rfl)⟩ | exact sLeEq rfl rfl | refine fun h => ?_)
  · refine ⟨?_⟩; simp_all [progOk]; omega
  refine W.loopC (D := Nat) (fun i => [(15, .row (xs.getD i default).cells), (17, .res (ob (insOk (xs.getD i default))))]) TTok hmo
    (fun i => ⟨19, 0, [(0, .one (.ag (xs.map Ins.cells))), (2, ob false), (3, oi i)], []⟩) (fun i => xs.length - i) (fun i => i ≤ xs.length ∧ (xs.take i).all insOk = true) 0 [] ⟨by omega, by simp⟩ ?_ ?_
  · show subC _ _ _ _
    repeat' (first | exact trivial | exact Side.mk rfl | exact Chk.mk (by kernel_rfl) | exact ⟨Chk.mk (by kernel_rfl)⟩ | refine And.intro ?_ ?_ | rfl)
  · intro i ⟨hi, hp⟩
    repeat' (first | refine And.intro ?_ ?_ | exact tf | exact ft | refine tt ?_ | refine ff ?_ | exact ⟨trivial⟩ | exact sAll rfl | exact sF1 rfl | exact sBld (by repeat' (first | exact trivial | rfl | exact Nat.le_of_ble_eq_true rfl | refine And.intro ?_ ?_)) rfl | exact sBS (by repeat' (first | exact trivial | rfl | exact Nat.le_of_ble_eq_true rfl | refine And.intro ?_ ?_)) rfl rfl rfl rfl | exact sBSF (by repeat' (first | exact trivial | rfl | exact Nat.le_of_ble_eq_true rfl | refine And.intro ?_ ?_)) rfl rfl rfl rfl | exact sLe rfl | exact Chk.mk (by kernel_rfl) | exact ⟨Chk.mk (by kernel_rfl)⟩ | exact sLeEq rfl rfl | exact sAnd (by repeat' constructor) (c_l2Ins _) | refine fun h => ?_)
    all_goals simp only [decide_eq_true_eq, decide_eq_false_iff_not, List.length_map, Bool.not_eq_true', Bool.not_eq_false', Bool.not_eq_eq_eq_not, Bool.not_true, Bool.not_false, bne_iff_ne, ne_eq, bne_eq_false_iff_eq, beq_iff_eq, beq_eq_false_iff_ne] at *
    · exact sRow (by omega) (row_at xs _ (by omega)) rfl
    · refine ⟨?_⟩; have := all_bad (f := insOk) (xs := xs) (i := i) (by omega) (by simp_all); simp [progOk, this]
    · refine ⟨i + 1, [], by omega, ⟨by omega, all_step (by omega) hp (by simp_all)⟩, ?_⟩
      repeat' (first | exact trivial | exact Side.mk rfl | exact Chk.mk (by kernel_rfl) | exact ⟨Chk.mk (by kernel_rfl)⟩ | exact ⟨wrap_succ (n := xs.length) (by omega) (by omega)⟩ | refine And.intro ?_ ?_ | rfl)
    · refine ⟨?_⟩; have := all_end (by omega) hp; simp [progOk, this]; omega
end Mg
