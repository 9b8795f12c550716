/- Parts of the abstract state logic and of the walks, one behind the other: B8, BP, BQ, NS1. No condition. -/
import Derived.Test.YtedgmfmhilihoaaGreatP19
import Derived.Test.YtedgmfmhilihoaaGreatP12
import Derived.Test.YtedgmfmhilihoaaGreatP18
/- Promises and votes, by what they come to. No condition. -/
namespace Mg
open Go Go.RowKit
set_option maxRecDepth 100000
set_option linter.unusedVariables false
set_option linter.unusedSimpArgs false
attribute [local irreducible] W Pure Con
theorem con_arg {f : Nat} {xs ys : List MV} {os : List Ob} {k : Nat} {D : Type} {p : D → Prop} {r : D → MV} {os' : D → List Ob} (h : Con PP f xs os k p r os') (e : ys = xs) : Con PP f ys os k p r os' := e ▸ h
def accPromise (a : Acc) (bal : Int) : Acc × Bool := if accOk a = true then (if inr bal 1 3000 = true ∧ ¬ bal < a.p then (⟨bal, a.votes⟩, true) else (a, false)) else (⟨0, []⟩, false)
def padV (vs : List Vote) (n : Nat) : List Vote := vs ++ List.replicate (n - vs.length) default
def accVote (a : Acc) (bal slot : Int) (e : Entry) : Acc × Bool :=
  if (accPromise a bal).2 = true then (if inr slot 0 39 = true ∧ entryOk e = true then (⟨bal, (padV a.votes (slot.toNat + 1)).set slot.toNat ⟨bal, e⟩⟩, true) else (a, false)) else ((accPromise a bal).1, false)
theorem padV_step {vs d : List Vote} {n : Nat} (h : padV d n = padV vs n) (hl : d.length < n) : padV (d ++ [default]) n = padV vs n := by
  rw [← h]
  unfold padV
  rw [List.append_assoc, List.length_append]
  congr 1
  have : n - d.length = (n - (d.length + 1)) + 1 := by omega
  rw [this, List.replicate_succ]; rfl
theorem padV_end {d : List Vote} {n : Nat} (hl : n ≤ d.length) : padV d n = d := by
  unfold padV
  rw [Nat.sub_eq_zero_of_le hl]; simp
theorem c_copied_VoteU (vs : List Vote) (hx : vs.length ≤ lim) : Con PP 145 [.one (.fz (vs.map Vote.cells))] [] 0 (fun _ : Unit => True) (fun _ => .one (.ref 0 0 vs.length)) (fun _ => [.arr (vs.map Vote.cells)]) := by
  have hx0 : vs.length ≤ 1048576 := hx
  refine Con.vc [(700000, .row [])] TTok hmo Go.Proofs.Tryz.func145 rfl (by kernel_rfl) rfl (by kernel_rfl) ?_
  repeat' (first | refine And.intro ?_ ?_ | exact tf | exact ft | refine tt ?_ | refine ff ?_ | exact ⟨trivial⟩ | exact sAll rfl | exact sF1 rfl | exact sBld (by repeat' (first | exact trivial | rfl | exact Nat.le_of_ble_eq_true rfl | refine And.intro ?_ ?_)) rfl | exact sBS (by repeat' (first | exact trivial | rfl | exact Nat.le_of_ble_eq_true rfl | refine And.intro ?_ ?_)) rfl rfl rfl rfl | exact sBSF (by repeat' (first | exact trivial | rfl | exact Nat.le_of_ble_eq_true rfl | refine And.intro ?_ ?_)) rfl rfl rfl rfl | exact sLe rfl | exact Chk.mk (by kernel_rfl) | exact ⟨Chk.mk (by kernel_rfl)⟩ | exact sLeEq rfl rfl | refine fun h => ?_)
  · have h0 : vs = [] := by simp at h; exact h
    subst h0
    refine W.vslot 2 rfl (W.ret ?_)
    refine ⟨⟨trivial, trivial⟩, ?_⟩
    apply exU'; refine ⟨[], [], trivial, ?_⟩
    repeat' (first | exact trivial | exact ⟨trivial⟩ | exact Side.mk rfl | exact sF1 rfl | exact Chk.mk (by kernel_rfl) | exact ⟨Chk.mk (by kernel_rfl)⟩ | exact sMapF Vote.flat | refine And.intro ?_ ?_ | rfl)
  · exact sMk hx0 rfl
  · have h0 : 0 < vs.length := Nat.pos_of_ne_zero (fun e => by rw [List.length_map, e] at h; revert h; decide)
    exact sCp rfl (by simp) (by simp) h0 rfl (fun _ => rfl)
  · refine W.ret ?_
    refine ⟨⟨trivial, trivial⟩, ?_⟩
    apply exU'; refine ⟨[], [], trivial, ?_⟩
    repeat' (first | exact trivial | exact ⟨trivial⟩ | exact Side.mk rfl | exact sF1 rfl | exact Chk.mk (by kernel_rfl) | exact ⟨Chk.mk (by kernel_rfl)⟩ | exact sMapF Vote.flat | refine And.intro ?_ ?_ | rfl)
    all_goals exact ⟨by simp⟩
theorem c_votesCopyU (vs : List Vote) (hx : vs.length ≤ lim) (hv : VsOk lim vs) : Con PP 106 [.one (.fz (vs.map Vote.cells))] [] 0 (fun _ : Unit => True) (fun _ => .one (.ref 0 0 vs.length)) (fun _ => [.arr (vs.map Vote.cells)]) := by
  have hx0 : vs.length ≤ 1048576 := hx
  refine Con.vc [(6, .con false [] [] [] (sCpV vs.length))] TTok hmo Go.Proofs.Tryz.func106 rfl (by kernel_rfl) rfl (by kernel_rfl) ?_
  repeat' (first | refine And.intro ?_ ?_ | exact tf | exact ft | refine tt ?_ | refine ff ?_ | exact ⟨trivial⟩ | exact sAll rfl | exact sF1 rfl | exact sBld (by repeat' (first | exact trivial | rfl | exact Nat.le_of_ble_eq_true rfl | refine And.intro ?_ ?_)) rfl | exact sBS (by repeat' (first | exact trivial | rfl | exact Nat.le_of_ble_eq_true rfl | refine And.intro ?_ ?_)) rfl rfl rfl rfl | exact sBSF (by repeat' (first | exact trivial | rfl | exact Nat.le_of_ble_eq_true rfl | refine And.intro ?_ ?_)) rfl rfl rfl rfl | exact sLe rfl | exact Chk.mk (by kernel_rfl) | exact ⟨Chk.mk (by kernel_rfl)⟩ | exact sLeEq rfl rfl | refine fun h => ?_)
  · exact ⟨c_copied_VoteU vs hx⟩
  · exact ⟨fun _ _ => trivial⟩
  · exact ⟨fun _ _ => ⟨allF Vote.frz, trivial⟩⟩
  · refine W.loopC (D := Nat) (fun i => [(18, .res (.agg (vs.getD i default).e.cells)), (19, .res (.agg (vs.getD i default).e.cells))]) TTok hmo (fun i => ⟨24, 1, [(3, .one (.ref 0 0 vs.length)), (8, oi vs.length), (9, oi i)], [(0, .arr (vs.map Vote.cells))]⟩) (fun i => vs.length - i) (fun i => i ≤ vs.length) 0 [] (Nat.zero_le _) ?_ ?_
    · repeat' (first | exact trivial | exact ⟨trivial⟩ | exact Side.mk rfl | exact sF1 rfl | exact Chk.mk (by kernel_rfl) | exact ⟨Chk.mk (by kernel_rfl)⟩ | exact sMapF Vote.flat | refine And.intro ?_ ?_ | rfl)
    · intro i hi
      repeat' (first | refine And.intro ?_ ?_ | exact tf | exact ft | refine tt ?_ | refine ff ?_ | exact ⟨trivial⟩ | exact sAll rfl | exact sF1 rfl | exact sBld (by repeat' (first | exact trivial | rfl | exact Nat.le_of_ble_eq_true rfl | refine And.intro ?_ ?_)) rfl | exact sBS (by repeat' (first | exact trivial | rfl | exact Nat.le_of_ble_eq_true rfl | refine And.intro ?_ ?_)) rfl rfl rfl rfl | exact sBSF (by repeat' (first | exact trivial | rfl | exact Nat.le_of_ble_eq_true rfl | refine And.intro ?_ ?_)) rfl rfl rfl rfl | exact sLe rfl | exact Chk.mk (by kernel_rfl) | exact ⟨Chk.mk (by kernel_rfl)⟩ | exact sLeEq rfl rfl | exact sAnd (by repeat' constructor) (c_entryCopy _ (hv _ (getD_mem (by have := of_decide_eq_true h; omega)))) | refine fun h => ?_)
      all_goals try (have hl := of_decide_eq_true h)
      all_goals try (exact sIxO (c := Vote.cells) (k := (i : Int)) (by omega) (by omega) rfl (fun _ => rfl))
      all_goals try (exact sLdA (c := Vote.cells) (xs := vs) (k := i) (by omega) (Nat.le_of_ble_eq_true rfl) rfl)
      all_goals try (exact sSt (c := Vote.cells) (m := 8) (k := i) (xs := vs) (by omega) (fun _ => rfl) rfl rfl)
      all_goals try (first | exact ⟨trivial, trivial⟩ | exact ⟨Nat.le_of_ble_eq_true rfl, trivial⟩ | exact ⟨trivial, Nat.le_of_ble_eq_true rfl, trivial⟩ | exact ⟨Nat.le_of_ble_eq_true rfl, trivial, trivial⟩)
      · refine ⟨i + 1, [], by omega, by omega, ?_⟩
        repeat' (first | exact trivial | exact ⟨trivial⟩ | exact Side.mk rfl | exact sF1 rfl | exact Chk.mk (by kernel_rfl) | exact ⟨Chk.mk (by kernel_rfl)⟩ | exact sMapF Vote.flat | exact sSame (k := i) (by omega) (by rw [mapGet (by omega)]; rfl) | exact ⟨by rw [wrapi] <;> omega⟩ | exact ⟨by simp⟩ | refine And.intro ?_ ?_ | rfl)
      · apply exU'; refine ⟨[], [], trivial, ?_⟩
        repeat' (first | exact trivial | exact ⟨trivial⟩ | exact Side.mk rfl | exact sF1 rfl | exact Chk.mk (by kernel_rfl) | exact ⟨Chk.mk (by kernel_rfl)⟩ | exact sMapF Vote.flat | refine And.intro ?_ ?_ | rfl)
theorem c_accCopyU (a : Acc) (ha : a.ok lim) : Con PP 103 [.agg a.cells] [] 0 (fun _ : Unit => True) (fun _ => .agg [i6 a.p, .ref 0 0 a.votes.length]) (fun _ => [.arr (a.votes.map Vote.cells)]) := by
  refine Con.vc [(7, .con false [] [] [] (sCpV a.votes.length)), (900001, .row [i6 0, i6 1, i6 2, i6 3, i6 4, i6 5, i6 6])] TTok hmo Go.Proofs.Tryz.func103 rfl (by kernel_rfl) rfl (by kernel_rfl) ?_
  repeat' (first | refine And.intro ?_ ?_ | exact tf | exact ft | refine tt ?_ | refine ff ?_ | exact ⟨trivial⟩ | exact sAll rfl | exact sF1 rfl | exact sBld (by repeat' (first | exact trivial | rfl | exact Nat.le_of_ble_eq_true rfl | refine And.intro ?_ ?_)) rfl | exact sBS (by repeat' (first | exact trivial | rfl | exact Nat.le_of_ble_eq_true rfl | refine And.intro ?_ ?_)) rfl rfl rfl rfl | exact sBSF (by repeat' (first | exact trivial | rfl | exact Nat.le_of_ble_eq_true rfl | refine And.intro ?_ ?_)) rfl rfl rfl rfl | exact sLe rfl | exact Chk.mk (by kernel_rfl) | exact ⟨Chk.mk (by kernel_rfl)⟩ | exact sLeEq rfl rfl | refine fun h => ?_)
  all_goals try dsimp only [sCpV] at *
  all_goals try (exact ⟨rfl⟩)
  all_goals try (exact trivial)
  all_goals try (exact ⟨fun _ _ => trivial⟩)
  all_goals try (exact ⟨fun _ _ => ⟨allF Vote.frz, trivial⟩⟩)
  all_goals try (exact ⟨c_votesCopyU _ ha.1 ha.2⟩)
  all_goals try (first | exact ⟨trivial, trivial⟩ | exact ⟨Nat.le_of_ble_eq_true rfl, trivial⟩ | exact ⟨trivial, Nat.le_of_ble_eq_true rfl, trivial⟩ | exact ⟨Nat.le_of_ble_eq_true rfl, trivial, trivial⟩)
  all_goals (apply exU'; refine ⟨[(0, 2)], [], trivial, ?_⟩)
  all_goals repeat' (first | exact trivial | exact ⟨trivial⟩ | exact Side.mk rfl | exact sF1 rfl | exact Chk.mk (by kernel_rfl) | exact ⟨Chk.mk (by kernel_rfl)⟩ | exact sMapF Vote.flat | refine And.intro ?_ ?_ | rfl)
theorem c_accCopyF (a : Acc) (ha : a.ok lim) : Con PP 103 [.agg a.cells] [] 0 (fun _ : Unit => True) (fun _ => .agg a.cells) (fun _ => []) := by
  refine Con.vc [(7, .con false [] [] [] sFz), (900001, .row [i6 0, i6 1, i6 2, i6 3, i6 4, i6 5, i6 6])] TTok hmo Go.Proofs.Tryz.func103 rfl (by kernel_rfl) rfl (by kernel_rfl) ?_
  repeat' (first | refine And.intro ?_ ?_ | exact tf | exact ft | refine tt ?_ | refine ff ?_ | exact ⟨trivial⟩ | exact sAll rfl | exact sF1 rfl | exact sBld (by repeat' (first | exact trivial | rfl | exact Nat.le_of_ble_eq_true rfl | refine And.intro ?_ ?_)) rfl | exact sBS (by repeat' (first | exact trivial | rfl | exact Nat.le_of_ble_eq_true rfl | refine And.intro ?_ ?_)) rfl rfl rfl rfl | exact sBSF (by repeat' (first | exact trivial | rfl | exact Nat.le_of_ble_eq_true rfl | refine And.intro ?_ ?_)) rfl rfl rfl rfl | exact sLe rfl | exact Chk.mk (by kernel_rfl) | exact ⟨Chk.mk (by kernel_rfl)⟩ | exact sLeEq rfl rfl | refine fun h => ?_)
  all_goals try dsimp only [sFz] at *
  all_goals try (exact ⟨rfl⟩)
  all_goals try (exact trivial)
  all_goals try (exact ⟨fun _ _ => trivial⟩)
  all_goals try (exact ⟨c_votesCopy _ ha.1 ha.2⟩)
  all_goals try (first | exact ⟨trivial, trivial⟩ | exact ⟨Nat.le_of_ble_eq_true rfl, trivial⟩ | exact ⟨trivial, Nat.le_of_ble_eq_true rfl, trivial⟩ | exact ⟨Nat.le_of_ble_eq_true rfl, trivial, trivial⟩)
  all_goals (apply exU'; refine ⟨[], [], trivial, ?_⟩)
  all_goals repeat' (first | exact trivial | exact ⟨trivial⟩ | exact Side.mk rfl | exact sF1 rfl | exact Chk.mk (by kernel_rfl) | exact ⟨Chk.mk (by kernel_rfl)⟩ | refine And.intro ?_ ?_ | rfl)
def tAcc (vs : List Vote) (p : Int) (b : Bool) : ConT := ⟨Unit, fun _ => True, fun _ => .tup [.agg [i6 p, .ref 0 0 vs.length], ob b], fun _ => [.arr (vs.map Vote.cells)]⟩
theorem c_AccPromiseU (a : Acc) (ha : a.ok lim) (bal : Int) : Con PP 73 [.agg a.cells, oi bal] [] 0 (tAcc (accPromise a bal).1.votes (accPromise a bal).1.p (accPromise a bal).2).p (tAcc (accPromise a bal).1.votes (accPromise a bal).1.p (accPromise a bal).2).r (tAcc (accPromise a bal).1.votes (accPromise a bal).1.p (accPromise a bal).2).os := by
  generalize hq : accPromise a bal = q
  unfold accPromise at hq
  refine Con.vc [(8, .res (ob (accOk a))), (12, .con false [] [] [] (fun _ _ => ⟨Unit, fun _ => True, fun _ => .agg [i6 a.p, .ref 0 0 a.votes.length], fun _ => [.arr (a.votes.map Vote.cells)]⟩)), (14, .res (ob (inr bal 1 3000))), (700000, .row [])] TTok hmo Go.Proofs.Tryz.func73 rfl (by kernel_rfl) rfl (by kernel_rfl) ?_
  repeat' (first | refine And.intro ?_ ?_ | exact tf | exact ft | refine tt ?_ | refine ff ?_ | exact ⟨trivial⟩ | exact sAll rfl | exact sF1 rfl | exact sBld (by repeat' (first | exact trivial | rfl | exact Nat.le_of_ble_eq_true rfl | refine And.intro ?_ ?_)) rfl | exact sBS (by repeat' (first | exact trivial | rfl | exact Nat.le_of_ble_eq_true rfl | refine And.intro ?_ ?_)) rfl rfl rfl rfl | exact sBSF (by repeat' (first | exact trivial | rfl | exact Nat.le_of_ble_eq_true rfl | refine And.intro ?_ ?_)) rfl rfl rfl rfl | exact sLe rfl | exact Chk.mk (by kernel_rfl) | exact ⟨Chk.mk (by kernel_rfl)⟩ | exact sLeEq rfl rfl | exact sAnd (by repeat' constructor) (c_impl_AccOk a ha) | exact sAnd (by repeat' constructor) (c_impl_in _ _ _) | refine fun h => ?_)
  all_goals try (exact ⟨c_accCopyU a ha⟩)
  all_goals try (exact ⟨fun _ _ => trivial⟩)
  all_goals try (exact ⟨fun _ _ => ⟨allF Vote.frz, trivial⟩⟩)
  · obtain rfl : (⟨0, []⟩, false) = q := by rw [← hq, if_neg (by simp_all)]
    refine W.vbox 1 1 rfl (W.ret ?_)
    refine ⟨⟨Nat.le_of_ble_eq_true rfl, trivial, trivial⟩, ?_⟩
    apply exU'; refine ⟨[(0, 2)], [], trivial, ?_⟩
    repeat' (first | exact trivial | exact ⟨trivial⟩ | exact Side.mk rfl | exact sF1 rfl | exact Chk.mk (by kernel_rfl) | exact ⟨Chk.mk (by kernel_rfl)⟩ | exact sMapF Vote.flat | refine And.intro ?_ ?_ | rfl)
  all_goals refine W.ret ⟨⟨Nat.le_of_ble_eq_true rfl, trivial, trivial⟩, ?_⟩
  · obtain rfl : (a, false) = q := by rw [← hq, if_pos (by simp_all), if_neg (by simp_all)]
    apply exU'; refine ⟨[(0, 2)], [], trivial, ?_⟩
    repeat' (first | exact trivial | exact ⟨trivial⟩ | exact Side.mk rfl | exact sF1 rfl | exact Chk.mk (by kernel_rfl) | exact ⟨Chk.mk (by kernel_rfl)⟩ | exact sMapF Vote.flat | refine And.intro ?_ ?_ | rfl)
  · obtain rfl : (⟨bal, a.votes⟩, true) = q := by rw [← hq, if_pos (by simp_all), if_pos (by simp_all)]
    apply exU'; refine ⟨[(0, 2)], [], trivial, ?_⟩
    repeat' (first | exact trivial | exact ⟨trivial⟩ | exact Side.mk rfl | exact sF1 rfl | exact Chk.mk (by kernel_rfl) | exact ⟨Chk.mk (by kernel_rfl)⟩ | exact sMapF Vote.flat | refine And.intro ?_ ?_ | rfl)
  · obtain rfl : (a, false) = q := by rw [← hq, if_pos (by simp_all), if_neg (by simp_all)]
    apply exU'; refine ⟨[(0, 2)], [], trivial, ?_⟩
    repeat' (first | exact trivial | exact ⟨trivial⟩ | exact Side.mk rfl | exact sF1 rfl | exact Chk.mk (by kernel_rfl) | exact ⟨Chk.mk (by kernel_rfl)⟩ | exact sMapF Vote.flat | refine And.intro ?_ ?_ | rfl)
def fAcc (a : Acc) (b : Bool) : ConT := ⟨Unit, fun _ => True, fun _ => .tup [.agg a.cells, ob b], fun _ => []⟩
/-- Handed on as frozen. -/
theorem c_AccPromiseF (a : Acc) (ha : a.ok lim) (bal : Int) : Con PP 73 [.agg a.cells, oi bal] [] 0 (fAcc (accPromise a bal).1 (accPromise a bal).2).p (fAcc (accPromise a bal).1 (accPromise a bal).2).r (fAcc (accPromise a bal).1 (accPromise a bal).2).os := by
  generalize hq : accPromise a bal = q
  unfold accPromise at hq
  refine Con.vc [(8, .res (ob (accOk a))), (12, .con false [] [] [] (fun _ _ => ⟨Unit, fun _ => True, fun _ => .agg a.cells, fun _ => []⟩)), (14, .res (ob (inr bal 1 3000)))] TTok hmo Go.Proofs.Tryz.func73 rfl (by kernel_rfl) rfl (by kernel_rfl) ?_
  repeat' (first | refine And.intro ?_ ?_ | exact tf | exact ft | refine tt ?_ | refine ff ?_ | exact ⟨trivial⟩ | exact sAll rfl | exact sF1 rfl | exact sBld (by repeat' (first | exact trivial | rfl | exact Nat.le_of_ble_eq_true rfl | refine And.intro ?_ ?_)) rfl | exact sBS (by repeat' (first | exact trivial | rfl | exact Nat.le_of_ble_eq_true rfl | refine And.intro ?_ ?_)) rfl rfl rfl rfl | exact sBSF (by repeat' (first | exact trivial | rfl | exact Nat.le_of_ble_eq_true rfl | refine And.intro ?_ ?_)) rfl rfl rfl rfl | exact sLe rfl | exact Chk.mk (by kernel_rfl) | exact ⟨Chk.mk (by kernel_rfl)⟩ | exact sLeEq rfl rfl | exact sAnd (by repeat' constructor) (c_impl_AccOk a ha) | exact sAnd (by repeat' constructor) (c_impl_in _ _ _) | refine fun h => ?_)
  all_goals try (exact ⟨c_accCopyF a ha⟩)
  all_goals try (exact ⟨fun _ _ => trivial⟩)
  all_goals try (exact ⟨Nat.le_of_ble_eq_true rfl, trivial, trivial⟩)
  · obtain rfl : (⟨0, []⟩, false) = q := by rw [← hq, if_neg (by simp_all)]
    apply exU'; refine ⟨[], [], trivial, ?_⟩
    repeat' (first | exact trivial | exact ⟨trivial⟩ | exact Side.mk rfl | exact sF1 rfl | exact Chk.mk (by kernel_rfl) | exact ⟨Chk.mk (by kernel_rfl)⟩ | refine And.intro ?_ ?_ | rfl)
  · obtain rfl : (a, false) = q := by rw [← hq, if_pos (by simp_all), if_neg (by simp_all)]
    apply exU'; refine ⟨[], [], trivial, ?_⟩
    repeat' (first | exact trivial | exact ⟨trivial⟩ | exact Side.mk rfl | exact sF1 rfl | exact Chk.mk (by kernel_rfl) | exact ⟨Chk.mk (by kernel_rfl)⟩ | refine And.intro ?_ ?_ | rfl)
  · obtain rfl : (⟨bal, a.votes⟩, true) = q := by rw [← hq, if_pos (by simp_all), if_pos (by simp_all)]
    apply exU'; refine ⟨[], [], trivial, ?_⟩
    repeat' (first | exact trivial | exact ⟨trivial⟩ | exact Side.mk rfl | exact sF1 rfl | exact Chk.mk (by kernel_rfl) | exact ⟨Chk.mk (by kernel_rfl)⟩ | refine And.intro ?_ ?_ | rfl)
  · obtain rfl : (a, false) = q := by rw [← hq, if_pos (by simp_all), if_neg (by simp_all)]
    apply exU'; refine ⟨[], [], trivial, ?_⟩
    repeat' (first | exact trivial | exact ⟨trivial⟩ | exact Side.mk rfl | exact sF1 rfl | exact Chk.mk (by kernel_rfl) | exact ⟨Chk.mk (by kernel_rfl)⟩ | refine And.intro ?_ ?_ | rfl)
theorem accPromise_t {a : Acc} {bal : Int} (h : (accPromise a bal).2 = true) : (accPromise a bal).1 = ⟨bal, a.votes⟩ := by
  unfold accPromise at h ⊢
  split at h
  · rename_i h1
    rw [if_pos h1]
    split at h
    · rename_i h2; rw [if_pos h2]
    · cases h
  · cases h
theorem accPromise_l {a : Acc} {bal : Int} (h : (accPromise a bal).2 = true) : a.votes.length ≤ 40 := by
  unfold accPromise at h
  split at h
  · rename_i h1
    simp only [accOk, votesOk, Bool.and_eq_true, decide_eq_true_eq] at h1
    exact h1.1.2.1
  · cases h
end Mg

/- The best of votes where one is of a later ballot, in plain terms. No condition. -/
namespace Mg
open Go Go.RowKit
set_option maxRecDepth 100000
set_option linter.unusedVariables false
set_option linter.unusedSimpArgs false
theorem voteOk_default : voteOk (default : Vote) = true := by decide
theorem votesOk_get {a : List Vote} (h : votesOk a = true) (i : Nat) : voteOk (a.getD i default) = true := by
  by_cases hi : i < a.length
  · exact votesOk_at h hi
  · rw [getD_none hi]; exact voteOk_default
theorem votesOk_mk {a : List Vote} (hl : a.length ≤ 40) (h : ∀ v ∈ a, voteOk v = true) : votesOk a = true := by
  simp only [votesOk, Bool.and_eq_true, decide_eq_true_eq, List.all_eq_true]
  exact ⟨hl, h⟩
theorem best_votesOk {a b : List Vote} (ha : votesOk a = true) (hb : votesOk b = true) : votesOk (bestN a b) = true := by
  refine votesOk_mk (by rw [bestN_len]; exact Nat.max_le.2 ⟨votesOk_len ha, votesOk_len hb⟩) fun v hv => ?_
  obtain ⟨i, _, rfl⟩ := List.mem_map.1 hv
  exact best_all (Q := fun v => voteOk v = true) (fun _ _ _ => votesOk_get hb i) (fun _ _ => votesOk_get ha i) (fun _ _ => voteOk_default)
theorem zeros_ok {n : Nat} (h : n ≤ 40) : votesOk (List.replicate n (default : Vote)) = true :=
  votesOk_mk (by simpa using h) fun v hv => by rw [List.eq_of_mem_replicate hv]; exact voteOk_default
theorem set_votesOk {a : List Vote} {k : Nat} {v : Vote} (ha : votesOk a = true) (hv : voteOk v = true) : votesOk (a.set k v) = true :=
  votesOk_mk (by simpa using votesOk_len ha) fun x hx => by
    rcases List.mem_or_eq_of_mem_set hx with hx | hx
    · have := ha
      simp only [votesOk, Bool.and_eq_true, List.all_eq_true] at this
      exact this.2 x hx
    · rw [hx]; exact hv
theorem top_voteOk {t : Int} (h1 : 1 ≤ t) (h2 : t ≤ 3000) : voteOk ⟨t, zeroE true⟩ = true := by
  unfold voteOk
  rw [if_neg (by simp only; omega)]
  simp only [Bool.and_eq_true]
  exact ⟨inr_iff.2 ⟨h1, h2⟩, by decide⟩
theorem accBest_of {u v : List Vote} (hu : votesOk u = true) (hv : votesOk v = true) : accBest u v = bestN u v := by unfold accBest; rw [if_pos (by rw [hu, hv]; rfl)]
theorem set_get {x : List Vote} {k : Nat} {v : Vote} (h : k < x.length) : (x.set k v).getD k default = v := by
  simp [List.getD_eq_getElem?_getD, h]
/-- The later vote is what both see. -/
theorem two_see {x b : List Vote} {k : Nat} {v : Vote} (hx : votesOk x = true) (hb : votesOk b = true) (hv : voteOk v = true) (hk : k < x.length) (hlt : (b.getD k default).bal < v.bal) (hp : 0 < v.bal) :
    (accBest (x.set k v) b).getD k default = v ∧ (accBest b (x.set k v)).getD k default = v ∧ (accBest (x.set k v) b).length = (accBest b (x.set k v)).length ∧ k < (accBest (x.set k v) b).length := by
  have hs := set_votesOk (k := k) hx hv
  have hl : (x.set k v).length = x.length := List.length_set
  rw [accBest_of hs hb, accBest_of hb hs]
  have l1 := bestN_len (x.set k v) b
  have l2 := bestN_len b (x.set k v)
  refine ⟨?_, ?_, by omega, by omega⟩
  · rw [bestN_at (by omega), best_a2 (by omega) (by rw [set_get hk]; omega), set_get hk]
  · rw [bestN_at (by omega)]
    by_cases h : k < b.length
    · rw [best_b2 h (by omega) (by rw [set_get hk]; exact hlt), set_get hk]
    · rw [best_b1 h (by omega) (by rw [set_get hk]; exact hp), set_get hk]
end Mg

/- Promises and votes in plain terms. No condition. -/
namespace Mg
open Go Go.RowKit
set_option maxRecDepth 100000
set_option linter.unusedVariables false
set_option linter.unusedSimpArgs false
theorem accOk_iff {a : Acc} : accOk a = true ↔ (0 ≤ a.p ∧ a.p ≤ 3000) ∧ votesOk a.votes = true ∧ ∀ v ∈ a.votes, v.bal ≤ a.p := by
  simp only [accOk, inr, Bool.and_eq_true, decide_eq_true_eq, List.all_eq_true, and_assoc]
theorem votesOk_iff {vs : List Vote} : votesOk vs = true ↔ vs.length ≤ 40 ∧ ∀ v ∈ vs, voteOk v = true := by
  simp only [votesOk, Bool.and_eq_true, decide_eq_true_eq, List.all_eq_true]
theorem accPromise_up {a : Acc} {b : Int} (ha : accOk a = true) (h1 : 1 ≤ b) (h2 : b ≤ 3000) (h : a.p ≤ b) : accPromise a b = (⟨b, a.votes⟩, true) := by
  unfold accPromise
  rw [if_pos ha, if_pos ⟨inr_iff.2 ⟨h1, h2⟩, by omega⟩]
theorem accPromise_no {a : Acc} {b : Int} (ha : accOk a = true) (h : ¬ (1 ≤ b ∧ b ≤ 3000 ∧ a.p ≤ b)) : accPromise a b = (a, false) := by
  unfold accPromise
  rw [if_pos ha, if_neg]
  rintro ⟨h3, h4⟩
  have := inr_iff.1 h3
  omega
theorem accPromise_bad {a : Acc} {b : Int} (ha : accOk a = false) : accPromise a b = (⟨0, []⟩, false) := by
  unfold accPromise
  rw [if_neg (by rw [ha]; decide)]
theorem accOk_up {a : Acc} {b : Int} (ha : accOk a = true) (h1 : 1 ≤ b) (h2 : b ≤ 3000) (h : a.p ≤ b) : accOk ⟨b, a.votes⟩ = true := by
  obtain ⟨_, h4, h5⟩ := accOk_iff.1 ha
  exact accOk_iff.2 ⟨⟨by dsimp only; omega, h2⟩, h4, fun v hv => Int.le_trans (h5 v hv) h⟩
theorem padV_len {vs : List Vote} {n : Nat} : (padV vs n).length = max vs.length n := by simp [padV]; omega
theorem padV_mem {vs : List Vote} {n : Nat} {v : Vote} (h : v ∈ padV vs n) : v ∈ vs ∨ v = default := by
  rcases List.mem_append.1 h with h | h
  · exact .inl h
  · exact .inr (List.eq_of_mem_replicate h)
theorem padV_get {vs : List Vote} {n i : Nat} (h : i < vs.length) : (padV vs n).getD i default = vs.getD i default := by
  simp [padV, List.getD_eq_getElem?_getD, List.getElem?_append_left h]
theorem accOk_vote {a : Acc} {b : Int} {k : Nat} {e : Entry} (ha : accOk a = true) (h1 : 1 ≤ b) (h2 : b ≤ 3000) (h : a.p ≤ b) (hk : k < 40) (he : entryOk e = true) : accOk ⟨b, (padV a.votes (k + 1)).set k ⟨b, e⟩⟩ = true := by
  obtain ⟨_, h4, h5⟩ := accOk_iff.1 ha
  obtain ⟨h6, h7⟩ := votesOk_iff.1 h4
  have hb : voteOk ⟨b, e⟩ = true := by unfold voteOk; rw [if_neg (by dsimp only; omega), inr_iff.2 ⟨h1, h2⟩, he]; rfl
  refine accOk_iff.2 ⟨⟨by dsimp only; omega, h2⟩, votesOk_iff.2 ⟨by rw [List.length_set, padV_len]; omega, fun v hv => ?_⟩, fun v hv => ?_⟩
  · rcases List.mem_or_eq_of_mem_set hv with hv | hv
    · rcases padV_mem hv with hv | hv
      · exact h7 v hv
      · rw [hv]; exact voteOk_default
    · rw [hv]; exact hb
  · rcases List.mem_or_eq_of_mem_set hv with hv | hv
    · rcases padV_mem hv with hv | hv
      · exact Int.le_trans (h5 v hv) h
      · rw [hv]; show (0 : Int) ≤ b; omega
    · rw [hv]; exact Int.le_refl b
theorem accVote_up {a : Acc} {b s : Int} {e : Entry} (ha : accOk a = true) (h1 : 1 ≤ b) (h2 : b ≤ 3000) (h : a.p ≤ b) (hs : 0 ≤ s) (hs2 : s < 40) (he : entryOk e = true) :
    accVote a b s e = (⟨b, (padV a.votes (s.toNat + 1)).set s.toNat ⟨b, e⟩⟩, true) := by
  unfold accVote
  rw [accPromise_up ha h1 h2 h]
  rw [if_pos rfl, if_pos ⟨inr_iff.2 ⟨hs, by omega⟩, he⟩]
theorem accVote_no {a : Acc} {b s : Int} {e : Entry} (ha : accOk a = true) (h : ¬ ((1 ≤ b ∧ b ≤ 3000 ∧ a.p ≤ b) ∧ (0 ≤ s ∧ s < 40) ∧ entryOk e = true)) : accVote a b s e = (a, false) := by
  unfold accVote
  by_cases g : 1 ≤ b ∧ b ≤ 3000 ∧ a.p ≤ b
  · rw [accPromise_up ha g.1 g.2.1 g.2.2, if_pos rfl, if_neg]
    rintro ⟨h3, h4⟩
    have := inr_iff.1 h3
    exact h ⟨g, ⟨by omega, by omega⟩, h4⟩
  · rw [accPromise_no ha g]; rfl
theorem accVote_bad {a : Acc} {b s : Int} {e : Entry} (ha : accOk a = false) : accVote a b s e = (⟨0, []⟩, false) := by
  unfold accVote
  rw [accPromise_bad ha]; rfl
end Mg

/- What there is behind entries, in plain terms. No condition. -/
namespace Mg
open Go Go.RowKit
set_option linter.unusedVariables false
set_option linter.unusedSimpArgs false
structure Done where
  q : Two
  code : Int
  val : Int
  deriving DecidableEq, Inhabited
structure St where
  at_ : Int
  boxes : List Two
  dones : List Done
  deriving DecidableEq, Inhabited
def Done.cells (x : Done) : List MC := x.q.cells ++ [i6 x.code, i6 x.val]
theorem Done.frz (x : Done) : x.cells.all MC.frz = true := rfl
theorem Done.flat (x : Done) : x.cells.all MC.flat = true := rfl
def St.cells (s : St) : List MC := [i6 s.at_, .fz (s.boxes.map Two.cells), .fz (s.dones.map Done.cells)]
def stOpen : St := ⟨0, List.replicate 4 ⟨0, 0⟩, []⟩
def stNone : St := ⟨0, [], []⟩
def doneB (d : Done) : Bool := reqOk d.q && inr d.code 0 2 && inr d.val (-1000000) 1000000 && (d.code == 0 || d.val == 0)
abbrev SrtD (ds : List Done) : Prop := ds.Pairwise fun x y => x.q.a < y.q.a
structure StOk (s : St) : Prop where
  at0 : 0 ≤ s.at_ ∧ s.at_ ≤ 40
  box : boxOk s.boxes = true
  dn : ∀ d ∈ s.dones, doneB d = true
  srt : SrtD s.dones
  len : (s.dones.length : Int) ≤ s.at_
def fresh (bx : List Two) (r : Run) : Bool := r.reads.all fun x => decide ((bx.getD x.a.toNat default).a = x.b)
def doPut (bx : List Two) (x : Two) : List Two := bx.set x.a.toNat ⟨min 1000000 ((bx.getD x.a.toNat default).a + 1), x.b⟩
def doPuts (bx ps : List Two) : List Two := ps.foldl doPut bx
def lastD (ds : List Done) (who : Int) : Option Done := ds.find? fun d => d.q.a == who
def insD (d : Done) : Bool → List Done → List Done
  | p, [] => if p = true then [] else [d]
  | p, x :: xs => (if p = false ∧ d.q.a ≤ x.q.a then [d] else []) ++ (if x.q.a = d.q.a then [] else [x]) ++ insD d (p || decide (d.q.a ≤ x.q.a)) xs
def codeOf (bx : List Two) (r : Run) : Int := if fresh bx r = true then (if r.d = 0 then 0 else 2) else 1
def newD (s : St) (e : Entry) : Done := ⟨e.q, codeOf s.boxes e.run, if codeOf s.boxes e.run = 0 then e.run.c else 0⟩
def newSt (s : St) (e : Entry) : St := ⟨s.at_ + 1, if codeOf s.boxes e.run = 0 then doPuts s.boxes e.run.puts else s.boxes, insD (newD s e) false s.dones⟩
def up (s : St) : St := ⟨s.at_ + 1, s.boxes, s.dones⟩
def apply1 (s : St) (e : Entry) : St × Int :=
  if e.none = true then (up s, 5) else
  match lastD s.dones e.q.a with
  | some d => if d.q = e.q then (up s, 3) else if d.q.b > e.q.b then (up s, 4) else (newSt s e, codeOf s.boxes e.run)
  | none => (newSt s e, codeOf s.boxes e.run)
theorem insD_cons (d x : Done) (p : Bool) (xs : List Done) : insD d p (x :: xs) = (if p = false ∧ d.q.a ≤ x.q.a then [d] else []) ++ (if x.q.a = d.q.a then [] else [x]) ++ insD d (p || decide (d.q.a ≤ x.q.a)) xs := rfl
theorem insD_nil (d : Done) (p : Bool) : insD d p [] = if p = true then [] else [d] := rfl
theorem drop_at {α : Type} [Inhabited α] {xs : List α} {i : Nat} (h : i < xs.length) : xs.drop i = xs.getD i default :: xs.drop (i + 1) := by
  rw [List.drop_eq_getElem_cons h, getD_get h]
theorem insD_true (d : Done) : ∀ xs : List Done, insD d true xs = xs.filter fun x => decide (x.q.a ≠ d.q.a)
  | [] => rfl
  | x :: xs => by
    unfold insD
    rw [if_neg (by simp), Bool.true_or, insD_true d xs]
    by_cases h : x.q.a = d.q.a <;> simp [h]
theorem insD_len (d : Done) : ∀ (p : Bool) (xs : List Done), (insD d p xs).length ≤ xs.length + (if p = true then 0 else 1)
  | true, xs => by rw [insD_true]; simpa using List.length_filter_le _ _
  | false, [] => by simp [insD]
  | false, x :: xs => by
    unfold insD
    by_cases h : d.q.a ≤ x.q.a
    · rw [if_pos ⟨rfl, h⟩, decide_eq_true h, Bool.false_or, insD_true]
      have := List.length_filter_le (fun x => decide (x.q.a ≠ d.q.a)) xs
      split <;> simp only [List.length_append, List.length_cons, List.length_nil, List.length_singleton, Bool.false_eq_true, if_false] <;> omega
    · rw [if_neg (by simp [h]), decide_eq_false h, Bool.false_or]
      have := insD_len d false xs
      simp only [Bool.false_eq_true, if_false] at this ⊢
      split <;> simp only [List.length_append, List.length_cons, List.length_nil, List.length_singleton] <;> omega
theorem insD_mem {d : Done} : ∀ {p : Bool} {xs : List Done} {y : Done}, y ∈ insD d p xs → y = d ∨ y ∈ xs
  | p, [], y, h => by
    unfold insD at h
    split at h
    · cases h
    · exact .inl (List.mem_singleton.1 h)
  | p, x :: xs, y, h => by
    unfold insD at h
    rcases List.mem_append.1 h with h | h
    · rcases List.mem_append.1 h with h | h
      · split at h
        · exact .inl (List.mem_singleton.1 h)
        · cases h
      · split at h
        · cases h
        · exact .inr (by rw [List.mem_singleton.1 h]; exact List.mem_cons_self)
    · rcases insD_mem h with h | h
      · exact .inl h
      · exact .inr (List.mem_cons_of_mem _ h)
theorem insD_srt {d : Done} : ∀ {xs : List Done}, SrtD xs → SrtD (insD d false xs)
  | [], _ => by simp [insD, SrtD]
  | x :: xs, h => by
    obtain ⟨h1, h2⟩ := List.pairwise_cons.1 h
    unfold insD
    by_cases hc : d.q.a ≤ x.q.a
    · rw [if_pos ⟨rfl, hc⟩, decide_eq_true hc, Bool.false_or, insD_true]
      have hf : SrtD (xs.filter fun x => decide (x.q.a ≠ d.q.a)) := h2.filter _
      by_cases he : x.q.a = d.q.a
      · rw [if_pos he]
        refine List.pairwise_cons.2 ⟨fun y hy => ?_, hf⟩
        have := h1 y ((List.mem_filter.1 hy).1); omega
      · rw [if_neg he]
        refine List.pairwise_cons.2 ⟨fun y hy => ?_, List.pairwise_cons.2 ⟨fun y hy => h1 y ((List.mem_filter.1 hy).1), hf⟩⟩
        rcases List.mem_cons.1 hy with rfl | hy
        · omega
        · have := h1 y ((List.mem_filter.1 hy).1); omega
    · rw [if_neg (by simp [hc]), decide_eq_false hc, Bool.false_or, if_neg (by omega)]
      refine List.pairwise_cons.2 ⟨fun y hy => ?_, insD_srt h2⟩
      rcases insD_mem hy with rfl | hy
      · omega
      · exact h1 y hy
theorem lastD_of {ds : List Done} {i : Nat} {who : Int} (h : SrtD ds) (hi : i < ds.length) (hw : (ds.getD i default).q.a = who) : lastD ds who = some (ds.getD i default) := by
  induction ds generalizing i with
  | nil => cases hi
  | cons d ds ih =>
    obtain ⟨h1, h2⟩ := List.pairwise_cons.1 h
    cases i with
    | zero => simp only [List.getD_cons_zero] at hw ⊢; simp [lastD, hw]
    | succ i =>
      simp only [List.getD_cons_succ] at hw ⊢
      have hm : ds.getD i default ∈ ds := getD_mem (by simpa using hi)
      have := h1 _ hm
      have e := ih h2 (by simpa using hi) hw
      unfold lastD at e ⊢
      rw [List.find?_cons_of_neg (by simp; omega)]
      exact e
theorem lastD_mem {ds : List Done} {who : Int} {d : Done} (h : lastD ds who = some d) : d ∈ ds ∧ d.q.a = who := ⟨List.mem_of_find?_eq_some h, by have := List.find?_some h; simpa using this⟩
/-- What an entry's run may do. -/
structure RunF (r : Run) : Prop where
  d : 0 ≤ r.d ∧ r.d ≤ 3
  c : -1000000 ≤ r.c ∧ r.c ≤ 1000000
  z : r.d ≠ 0 → r.c = 0
  rd : ∀ i, i < r.reads.length → (0 ≤ (r.reads.getD i default).a ∧ (r.reads.getD i default).a ≤ 3)
  pt : ∀ i, i < r.puts.length → (0 ≤ (r.puts.getD i default).a ∧ (r.puts.getD i default).a ≤ 3) ∧ -1000000 ≤ (r.puts.getD i default).b ∧ (r.puts.getD i default).b ≤ 1000000
theorem listOk_at {lo : Int} {xs : List Two} (h : listOk lo xs = true) {i : Nat} (hi : i < xs.length) : (0 ≤ (xs.getD i default).a ∧ (xs.getD i default).a ≤ 3) ∧ lo ≤ (xs.getD i default).b ∧ (xs.getD i default).b ≤ 1000000 := by
  have := List.all_eq_true.1 h i (List.mem_range.2 hi)
  simp only [elemOk, Bool.and_eq_true] at this
  exact ⟨inr_iff.1 this.1.1, inr_iff.1 this.1.2⟩
theorem execOk_f {r : Run} (h : execOk r = true) : RunF r := by
  simp only [execOk, headOk, Bool.and_eq_true] at h
  obtain ⟨⟨⟨⟨⟨r1, r2⟩, r3⟩, _⟩, l1⟩, l2⟩ := h
  refine ⟨inr_iff.1 r1, inr_iff.1 r2, fun hd => ?_, fun i hi => (listOk_at l1 hi).1, fun i hi => listOk_at l2 hi⟩
  simp [hd] at r3
  exact r3.1
theorem boxOk_len' {bx : List Two} (h : boxOk bx = true) : bx.length = 4 := by simp [boxOk] at h; omega
theorem boxOk_at {bx : List Two} (h : boxOk bx = true) {i : Nat} (hi : i < 4) : (0 ≤ (bx.getD i default).a ∧ (bx.getD i default).a ≤ 1000000) ∧ -1000000 ≤ (bx.getD i default).b ∧ (bx.getD i default).b ≤ 1000000 := by
  have hl := boxOk_len' h
  simp only [boxOk, Bool.and_eq_true, List.all_eq_true] at h
  have hb := h.2 _ (getD_mem (i := i) (by omega))
  simp only [boxEl, Bool.and_eq_true] at hb
  exact ⟨inr_iff.1 hb.1, inr_iff.1 hb.2⟩
theorem doPut_ok {bx : List Two} (h : boxOk bx = true) {x : Two} (hx : (0 ≤ x.a ∧ x.a ≤ 3) ∧ -1000000 ≤ x.b ∧ x.b ≤ 1000000) : boxOk (doPut bx x) = true := by
  have hl := boxOk_len' h
  have ha := boxOk_at h (i := x.a.toNat) (by omega)
  unfold doPut
  simp only [boxOk, Bool.and_eq_true, List.all_eq_true, decide_eq_true_eq] at h ⊢
  refine ⟨by rw [List.length_set]; exact h.1, fun y hy => ?_⟩
  rcases List.mem_or_eq_of_mem_set hy with hy | rfl
  · exact h.2 y hy
  · simp only [boxEl, Bool.and_eq_true]
    exact ⟨inr_iff.2 ⟨by omega, by omega⟩, inr_iff.2 hx.2⟩
theorem doPuts_ok : ∀ {ps bx : List Two}, boxOk bx = true → (∀ i, i < ps.length → (0 ≤ (ps.getD i default).a ∧ (ps.getD i default).a ≤ 3) ∧ -1000000 ≤ (ps.getD i default).b ∧ (ps.getD i default).b ≤ 1000000) → boxOk (doPuts bx ps) = true
  | [], bx, h, _ => h
  | x :: ps, bx, h, hp => by
    have h0 : boxOk (doPut bx x) = true := doPut_ok h (by simpa using hp 0 (by simp))
    exact doPuts_ok (ps := ps) (bx := doPut bx x) h0 fun i hi => by simpa using hp (i + 1) (by simp only [List.length_cons]; omega)
theorem entryOk_q {e : Entry} (h : entryOk e = true) (hn : e.none = false) : reqOk e.q = true ∧ execOk e.run = true ∧ e.run.d ≠ 3 := by
  unfold entryOk at h
  rw [if_neg (by simp [hn])] at h
  simp only [Bool.and_eq_true, bne_iff_ne, ne_eq] at h
  exact ⟨h.1.1, h.1.2, h.2⟩
theorem stOpen_ok : StOk stOpen := ⟨⟨by decide, by decide⟩, by decide, (fun d h => by simp [stOpen] at h), List.Pairwise.nil, by decide⟩
theorem up_ok {s : St} (h : StOk s) (ha : s.at_ < 40) : StOk (up s) := ⟨⟨by have := h.at0; simp only [up]; omega, by simp only [up]; omega⟩, h.box, h.dn, h.srt, by have := h.len; simp only [up]; omega⟩
theorem codeOf_cases (bx : List Two) (r : Run) : codeOf bx r = 0 ∨ codeOf bx r = 1 ∨ codeOf bx r = 2 := by
  unfold codeOf
  split
  · split
    · exact .inl rfl
    · exact .inr (.inr rfl)
  · exact .inr (.inl rfl)
theorem newSt_ok {s : St} (h : StOk s) {e : Entry} (he : entryOk e = true) (hn : e.none = false) (ha : s.at_ < 40) : StOk (newSt s e) := by
  obtain ⟨hq, hx, _⟩ := entryOk_q he hn
  have hf := execOk_f hx
  have hl := insD_len (newD s e) false s.dones
  have h1 := h.len
  have h2 := h.at0
  have hnew : doneB (newD s e) = true := by
    simp only [doneB, newD, Bool.and_eq_true]
    have hc := hf.c
    refine ⟨⟨⟨hq, inr_iff.2 ?_⟩, inr_iff.2 ?_⟩, ?_⟩
    · rcases codeOf_cases s.boxes e.run with h | h | h <;> rw [h] <;> decide
    · split <;> omega
    · rcases codeOf_cases s.boxes e.run with h | h | h <;> rw [h] <;> simp
  refine ⟨⟨by simp only [newSt]; omega, by simp only [newSt]; omega⟩, ?_, fun d hd => ?_, insD_srt h.srt, by simp only [newSt]; simp at hl; omega⟩
  · simp only [newSt]
    split
    · exact doPuts_ok h.box hf.pt
    · exact h.box
  · rcases insD_mem hd with rfl | hd
    · exact hnew
    · exact h.dn d hd
theorem apply1_ok {s : St} (h : StOk s) {e : Entry} (he : entryOk e = true) (ha : s.at_ < 40) : StOk (apply1 s e).1 ∧ (apply1 s e).1.at_ = s.at_ + 1 := by
  unfold apply1
  split
  · exact ⟨up_ok h ha, rfl⟩
  · have hn : e.none = false := by simpa using ‹¬ e.none = true›
    split
    · split
      · exact ⟨up_ok h ha, rfl⟩
      · split
        · exact ⟨up_ok h ha, rfl⟩
        · exact ⟨newSt_ok h he hn ha, rfl⟩
    · exact ⟨newSt_ok h he hn ha, rfl⟩
theorem apply1_again {s : St} {e : Entry} {i : Nat} (hs : SrtD s.dones) (hn : e.none = false) (hi : i < s.dones.length) (ha : (s.dones.getD i default).q.a = e.q.a) (hb : (s.dones.getD i default).q.b = e.q.b) : apply1 s e = (up s, 3) := by
  unfold apply1
  rw [if_neg (by simp [hn]), lastD_of hs hi ha]
  have : (s.dones.getD i default).q = e.q := by
    generalize (s.dones.getD i default).q = x at *
    obtain ⟨xa, xb⟩ := x
    obtain ⟨n, ⟨qa, qb⟩, r⟩ := e
    dsimp only at *
    subst ha hb; rfl
  exact if_pos this
theorem apply1_old {s : St} {e : Entry} {i : Nat} (hs : SrtD s.dones) (hn : e.none = false) (hi : i < s.dones.length) (ha : (s.dones.getD i default).q.a = e.q.a) (hb : e.q.b < (s.dones.getD i default).q.b) : apply1 s e = (up s, 4) := by
  unfold apply1
  rw [if_neg (by simp [hn]), lastD_of hs hi ha]
  have : ¬ (s.dones.getD i default).q = e.q := fun h => by rw [h] at hb; omega
  exact (if_neg this).trans (if_pos hb)
theorem apply1_new {s : St} {e : Entry} (hn : e.none = false) (h : ∀ j, j < s.dones.length → (s.dones.getD j default).q.a = e.q.a → ¬ e.q.b ≤ (s.dones.getD j default).q.b) : apply1 s e = (newSt s e, codeOf s.boxes e.run) := by
  unfold apply1
  rw [if_neg (by simp [hn])]
  cases hl : lastD s.dones e.q.a with
  | none => rfl
  | some d =>
    obtain ⟨hm, ha⟩ := lastD_mem hl
    obtain ⟨j, hj, rfl⟩ := List.getElem_of_mem hm
    have := h j hj (by rw [getD_get hj]; exact ha)
    rw [getD_get hj] at this
    have h1 : ¬ s.dones[j].q = e.q := fun h => by rw [h] at this; omega
    exact (if_neg h1).trans (if_neg (by omega))
def foldS (s : St) (l : List Entry) : St := l.foldl (fun s e => (apply1 s e).1) s
theorem foldS_ok {l : List Entry} : ∀ {s : St}, StOk s → (∀ e ∈ l, entryOk e = true) → s.at_ + l.length ≤ 40 → StOk (foldS s l) ∧ (foldS s l).at_ = s.at_ + l.length := by
  induction l with
  | nil => intro s h _ _; exact ⟨h, by simp [foldS]⟩
  | cons e l ih =>
    intro s h he hl
    simp only [List.length_cons] at hl
    obtain ⟨h1, h2⟩ := apply1_ok h (he e List.mem_cons_self) (by omega)
    obtain ⟨h3, h4⟩ := ih h1 (fun x hx => he x (List.mem_cons_of_mem _ hx)) (by rw [h2]; omega)
    exact ⟨h3, by simp only [foldS, List.foldl_cons] at h4 ⊢; rw [h4, h2]; simp only [List.length_cons]; omega⟩
theorem foldS_step {l : List Entry} {s : St} {i : Nat} (h : i < l.length) : foldS s (l.take (i + 1)) = (apply1 (foldS s (l.take i)) (l.getD i default)).1 := by
  rw [List.take_succ_eq_append_getElem h, getD_get h]; simp only [foldS, List.foldl_append, List.foldl_cons, List.foldl_nil]
def codesL (s : St) : List Entry → List Int
  | [] => []
  | e :: l => (apply1 s e).2 :: codesL (apply1 s e).1 l
theorem codesL_app (s : St) (e : Entry) : ∀ l : List Entry, codesL s (l ++ [e]) = codesL s l ++ [(apply1 (foldS s l) e).2] := by
  intro l
  induction l generalizing s with
  | nil => rfl
  | cons x l ih => simp only [List.cons_append, codesL, ih]; rfl
theorem codesL_step {l : List Entry} {s : St} {i : Nat} (h : i < l.length) : codesL s (l.take (i + 1)) = codesL s (l.take i) ++ [(apply1 (foldS s (l.take i)) (l.getD i default)).2] := by
  rw [List.take_succ_eq_append_getElem h, getD_get h, codesL_app]
theorem codesL_len (s : St) : ∀ l : List Entry, (codesL s l).length = l.length := by
  intro l
  induction l generalizing s with
  | nil => rfl
  | cons x l ih => simp [codesL, ih]
def foldC (l : List Entry) : St := if entsOk l = true then foldS stOpen l else stNone
def stateOf (n : Node) : St := if nodeOk n = true then foldS stOpen n.known else stNone
end Mg
