/- Parts of the abstract state logic and of the walks, one behind the other: B8, BC. No condition. -/
import Derived.Test.YtkbjinkjljoeeaaP17
import Derived.Test.YtkbjinkjljoeeaaP13
import Derived.Test.YtkbjinkjljoeeaaP11
/- Promises and votes, by what they come to. No condition. -/
namespace Mg
open Go Go.RowKit
set_option maxRecDepth 100000
set_option linter.unusedVariables false
set_option linter.unusedSimpArgs false
attribute [local irreducible] W Pure Con
theorem con_arg {f : Nat} {xs ys : List MV} {os : List Ob} {k : Nat} {D : Type} {p : D → Prop} {r : D → MV} {os' : D → List Ob} (h : Con PP f xs os k p r os') (e : ys = xs) : Con PP f ys os k p r os' := e ▸ h
def accPromise (a : Acc) (bal : Int) : Acc × Bool := if accOk a = true then (if inr bal 1 3000 = true ∧ ¬ bal < a.p then (⟨bal, a.votes⟩, true) else (a, false)) else (⟨0, []⟩, false)
def padV (vs : List Vote) (n : Nat) : List Vote := vs ++ List.replicate (n - vs.length) default
def accVote (a : Acc) (bal slot : Int) (e : Entry) : Acc × Bool :=
  if (accPromise a bal).2 = true then (if inr slot 0 39 = true ∧ entryOk e = true then (⟨bal, (padV a.votes (slot.toNat + 1)).set slot.toNat ⟨bal, e⟩⟩, true) else (a, false)) else ((accPromise a bal).1, false)
theorem padV_step {vs d : List Vote} {n : Nat} (h : padV d n = padV vs n) (hl : d.length < n) : padV (d ++ [default]) n = padV vs n := by
  rw [← h]
  unfold padV
  rw [List.append_assoc, List.length_append]
  congr 1
  have : n - d.length = (n - (d.length + 1)) + 1 := by omega
  rw [this, List.replicate_succ]; rfl
theorem padV_end {d : List Vote} {n : Nat} (hl : n ≤ d.length) : padV d n = d := by
  unfold padV
  rw [Nat.sub_eq_zero_of_le hl]; simp
theorem c_copied_VoteU (vs : List Vote) (hx : vs.length ≤ lim) : Con PP 106 [.one (.fz (vs.map Vote.cells))] [] 0 (fun _ : Unit => True) (fun _ => .one (.ref 0 0 vs.length)) (fun _ => [.arr (vs.map Vote.cells)]) := by
  have hx0 : vs.length ≤ 1048576 := hx
  refine Con.vc [(700000, .row [])] TTok hmo Go.Proofs.Try.func106 rfl (by kernel_rfl) rfl (by kernel_rfl) ?_
  repeat' (first | refine And.intro ?_ ?_ | exact tf | exact ft | refine tt ?_ | refine ff ?_ | exact ⟨trivial⟩ | exact sAll rfl | exact sF1 rfl | exact sBld (by repeat' (first | exact trivial | rfl | exact Nat.le_of_ble_eq_true rfl | refine And.intro ?_ ?_)) rfl | exact sBS (by repeat' (first | exact trivial | rfl | exact Nat.le_of_ble_eq_true rfl | refine And.intro ?_ ?_)) rfl rfl rfl rfl | exact sBSF (by repeat' (first | exact trivial | rfl | exact Nat.le_of_ble_eq_true rfl | refine And.intro ?_ ?_)) rfl rfl rfl rfl | exact sLe rfl | exact Chk.mk (by kernel_rfl) | exact ⟨Chk.mk (by kernel_rfl)⟩ | exact sLeEq rfl rfl | refine fun h => ?_)
  · have h0 : vs = [] := by simp at h; exact h
    subst h0
    refine W.vslot 2 rfl (W.ret ?_)
    refine ⟨⟨trivial, trivial⟩, ?_⟩
    apply exU'; refine ⟨[], [], trivial, ?_⟩
    repeat' (first | exact trivial | exact ⟨trivial⟩ | exact Side.mk rfl | exact sF1 rfl | exact Chk.mk (by kernel_rfl) | exact ⟨Chk.mk (by kernel_rfl)⟩ | exact sMapF Vote.flat | refine And.intro ?_ ?_ | rfl)
  · exact sMk hx0 rfl
  · have h0 : 0 < vs.length := Nat.pos_of_ne_zero (fun e => by rw [List.length_map, e] at h; revert h; decide)
    exact sCp rfl (by simp) (by simp) h0 rfl (fun _ => rfl)
  · refine W.ret ?_
    refine ⟨⟨trivial, trivial⟩, ?_⟩
    apply exU'; refine ⟨[], [], trivial, ?_⟩
    repeat' (first | exact trivial | exact ⟨trivial⟩ | exact Side.mk rfl | exact sF1 rfl | exact Chk.mk (by kernel_rfl) | exact ⟨Chk.mk (by kernel_rfl)⟩ | exact sMapF Vote.flat | refine And.intro ?_ ?_ | rfl)
    all_goals exact ⟨by simp⟩
theorem c_votesCopyU (vs : List Vote) (hx : vs.length ≤ lim) (hv : VsOk lim vs) : Con PP 59 [.one (.fz (vs.map Vote.cells))] [] 0 (fun _ : Unit => True) (fun _ => .one (.ref 0 0 vs.length)) (fun _ => [.arr (vs.map Vote.cells)]) := by
  have hx0 : vs.length ≤ 1048576 := hx
  refine Con.vc [(6, .con false [] [] [] (sCpV vs.length))] TTok hmo Go.Proofs.Try.func59 rfl (by kernel_rfl) rfl (by kernel_rfl) ?_
  repeat' (first | refine And.intro ?_ ?_ | exact tf | exact ft | refine tt ?_ | refine ff ?_ | exact ⟨trivial⟩ | exact sAll rfl | exact sF1 rfl | exact sBld (by repeat' (first | exact trivial | rfl | exact Nat.le_of_ble_eq_true rfl | refine And.intro ?_ ?_)) rfl | exact sBS (by repeat' (first | exact trivial | rfl | exact Nat.le_of_ble_eq_true rfl | refine And.intro ?_ ?_)) rfl rfl rfl rfl | exact sBSF (by repeat' (first | exact trivial | rfl | exact Nat.le_of_ble_eq_true rfl | refine And.intro ?_ ?_)) rfl rfl rfl rfl | exact sLe rfl | exact Chk.mk (by kernel_rfl) | exact ⟨Chk.mk (by kernel_rfl)⟩ | exact sLeEq rfl rfl | refine fun h => ?_)
  · exact ⟨c_copied_VoteU vs hx⟩
  · exact ⟨fun _ _ => trivial⟩
  · exact ⟨fun _ _ => ⟨allF Vote.frz, trivial⟩⟩
  · refine W.loopC (D := Nat) (fun i => [(18, .res (.agg (vs.getD i default).e.cells)), (19, .res (.agg (vs.getD i default).e.cells))]) TTok hmo (fun i => ⟨24, 1, [(3, .one (.ref 0 0 vs.length)), (8, oi vs.length), (9, oi i)], [(0, .arr (vs.map Vote.cells))]⟩) (fun i => vs.length - i) (fun i => i ≤ vs.length) 0 [] (Nat.zero_le _) ?_ ?_
    · repeat' (first | exact trivial | exact ⟨trivial⟩ | exact Side.mk rfl | exact sF1 rfl | exact Chk.mk (by kernel_rfl) | exact ⟨Chk.mk (by kernel_rfl)⟩ | exact sMapF Vote.flat | refine And.intro ?_ ?_ | rfl)
    · intro i hi
      repeat' (first | refine And.intro ?_ ?_ | exact tf | exact ft | refine tt ?_ | refine ff ?_ | exact ⟨trivial⟩ | exact sAll rfl | exact sF1 rfl | exact sBld (by repeat' (first | exact trivial | rfl | exact Nat.le_of_ble_eq_true rfl | refine And.intro ?_ ?_)) rfl | exact sBS (by repeat' (first | exact trivial | rfl | exact Nat.le_of_ble_eq_true rfl | refine And.intro ?_ ?_)) rfl rfl rfl rfl | exact sBSF (by repeat' (first | exact trivial | rfl | exact Nat.le_of_ble_eq_true rfl | refine And.intro ?_ ?_)) rfl rfl rfl rfl | exact sLe rfl | exact Chk.mk (by kernel_rfl) | exact ⟨Chk.mk (by kernel_rfl)⟩ | exact sLeEq rfl rfl | exact sAnd (by repeat' constructor) (c_entryCopy _ (hv _ (getD_mem (by have := of_decide_eq_true h; omega)))) | refine fun h => ?_)
      all_goals try (have hl := of_decide_eq_true h)
      all_goals try (exact sIxO (c := Vote.cells) (k := (i : Int)) (by omega) (by omega) rfl (fun _ => rfl))
      all_goals try (exact sLdA (c := Vote.cells) (xs := vs) (k := i) (by omega) (Nat.le_of_ble_eq_true rfl) rfl)
      all_goals try (exact sSt (c := Vote.cells) (m := 8) (k := i) (xs := vs) (by omega) (fun _ => rfl) rfl rfl)
      all_goals try (first | exact ⟨trivial, trivial⟩ | exact ⟨Nat.le_of_ble_eq_true rfl, trivial⟩ | exact ⟨trivial, Nat.le_of_ble_eq_true rfl, trivial⟩ | exact ⟨Nat.le_of_ble_eq_true rfl, trivial, trivial⟩)
      · refine ⟨i + 1, [], by omega, by omega, ?_⟩
        repeat' (first | exact trivial | exact ⟨trivial⟩ | exact Side.mk rfl | exact sF1 rfl | exact Chk.mk (by kernel_rfl) | exact ⟨Chk.mk (by kernel_rfl)⟩ | exact sMapF Vote.flat | exact sSame (k := i) (by omega) (by rw [mapGet (by omega)]; rfl) | exact ⟨by rw [wrapi] <;> omega⟩ | exact ⟨by simp⟩ | refine And.intro ?_ ?_ | rfl)
      · apply exU'; refine ⟨[], [], trivial, ?_⟩
        repeat' (first | exact trivial | exact ⟨trivial⟩ | exact Side.mk rfl | exact sF1 rfl | exact Chk.mk (by kernel_rfl) | exact ⟨Chk.mk (by kernel_rfl)⟩ | exact sMapF Vote.flat | refine And.intro ?_ ?_ | rfl)
theorem c_accCopyU (a : Acc) (ha : a.ok lim) : Con PP 69 [.agg a.cells] [] 0 (fun _ : Unit => True) (fun _ => .agg [i6 a.p, .ref 0 0 a.votes.length]) (fun _ => [.arr (a.votes.map Vote.cells)]) := by
  refine Con.vc [(7, .con false [] [] [] (sCpV a.votes.length)), (900001, .row [i6 0, i6 1, i6 2, i6 3, i6 4, i6 5, i6 6])] TTok hmo Go.Proofs.Try.func69 rfl (by kernel_rfl) rfl (by kernel_rfl) ?_
  repeat' (first | refine And.intro ?_ ?_ | exact tf | exact ft | refine tt ?_ | refine ff ?_ | exact ⟨trivial⟩ | exact sAll rfl | exact sF1 rfl | exact sBld (by repeat' (first | exact trivial | rfl | exact Nat.le_of_ble_eq_true rfl | refine And.intro ?_ ?_)) rfl | exact sBS (by repeat' (first | exact trivial | rfl | exact Nat.le_of_ble_eq_true rfl | refine And.intro ?_ ?_)) rfl rfl rfl rfl | exact sBSF (by repeat' (first | exact trivial | rfl | exact Nat.le_of_ble_eq_true rfl | refine And.intro ?_ ?_)) rfl rfl rfl rfl | exact sLe rfl | exact Chk.mk (by kernel_rfl) | exact ⟨Chk.mk (by kernel_rfl)⟩ | exact sLeEq rfl rfl | refine fun h => ?_)
  all_goals try dsimp only [sCpV] at *
  all_goals try (exact ⟨rfl⟩)
  all_goals try (exact trivial)
  all_goals try (exact ⟨fun _ _ => trivial⟩)
  all_goals try (exact ⟨fun _ _ => ⟨allF Vote.frz, trivial⟩⟩)
  all_goals try (exact ⟨c_votesCopyU _ ha.1 ha.2⟩)
  all_goals try (first | exact ⟨trivial, trivial⟩ | exact ⟨Nat.le_of_ble_eq_true rfl, trivial⟩ | exact ⟨trivial, Nat.le_of_ble_eq_true rfl, trivial⟩ | exact ⟨Nat.le_of_ble_eq_true rfl, trivial, trivial⟩)
  all_goals (apply exU'; refine ⟨[(0, 2)], [], trivial, ?_⟩)
  all_goals repeat' (first | exact trivial | exact ⟨trivial⟩ | exact Side.mk rfl | exact sF1 rfl | exact Chk.mk (by kernel_rfl) | exact ⟨Chk.mk (by kernel_rfl)⟩ | exact sMapF Vote.flat | refine And.intro ?_ ?_ | rfl)
theorem c_accCopyF (a : Acc) (ha : a.ok lim) : Con PP 69 [.agg a.cells] [] 0 (fun _ : Unit => True) (fun _ => .agg a.cells) (fun _ => []) := by
  refine Con.vc [(7, .con false [] [] [] sFz), (900001, .row [i6 0, i6 1, i6 2, i6 3, i6 4, i6 5, i6 6])] TTok hmo Go.Proofs.Try.func69 rfl (by kernel_rfl) rfl (by kernel_rfl) ?_
  repeat' (first | refine And.intro ?_ ?_ | exact tf | exact ft | refine tt ?_ | refine ff ?_ | exact ⟨trivial⟩ | exact sAll rfl | exact sF1 rfl | exact sBld (by repeat' (first | exact trivial | rfl | exact Nat.le_of_ble_eq_true rfl | refine And.intro ?_ ?_)) rfl | exact sBS (by repeat' (first | exact trivial | rfl | exact Nat.le_of_ble_eq_true rfl | refine And.intro ?_ ?_)) rfl rfl rfl rfl | exact sBSF (by repeat' (first | exact trivial | rfl | exact Nat.le_of_ble_eq_true rfl | refine And.intro ?_ ?_)) rfl rfl rfl rfl | exact sLe rfl | exact Chk.mk (by kernel_rfl) | exact ⟨Chk.mk (by kernel_rfl)⟩ | exact sLeEq rfl rfl | refine fun h => ?_)
  all_goals try dsimp only [sFz] at *
  all_goals try (exact ⟨rfl⟩)
  all_goals try (exact trivial)
  all_goals try (exact ⟨fun _ _ => trivial⟩)
  all_goals try (exact ⟨c_votesCopy _ ha.1 ha.2⟩)
  all_goals try (first | exact ⟨trivial, trivial⟩ | exact ⟨Nat.le_of_ble_eq_true rfl, trivial⟩ | exact ⟨trivial, Nat.le_of_ble_eq_true rfl, trivial⟩ | exact ⟨Nat.le_of_ble_eq_true rfl, trivial, trivial⟩)
  all_goals (apply exU'; refine ⟨[], [], trivial, ?_⟩)
  all_goals repeat' (first | exact trivial | exact ⟨trivial⟩ | exact Side.mk rfl | exact sF1 rfl | exact Chk.mk (by kernel_rfl) | exact ⟨Chk.mk (by kernel_rfl)⟩ | refine And.intro ?_ ?_ | rfl)
def tAcc (vs : List Vote) (p : Int) (b : Bool) : ConT := ⟨Unit, fun _ => True, fun _ => .tup [.agg [i6 p, .ref 0 0 vs.length], ob b], fun _ => [.arr (vs.map Vote.cells)]⟩
theorem c_AccPromiseU (a : Acc) (ha : a.ok lim) (bal : Int) : Con PP 24 [.agg a.cells, oi bal] [] 0 (tAcc (accPromise a bal).1.votes (accPromise a bal).1.p (accPromise a bal).2).p (tAcc (accPromise a bal).1.votes (accPromise a bal).1.p (accPromise a bal).2).r (tAcc (accPromise a bal).1.votes (accPromise a bal).1.p (accPromise a bal).2).os := by
  generalize hq : accPromise a bal = q
  unfold accPromise at hq
  refine Con.vc [(8, .res (ob (accOk a))), (12, .con false [] [] [] (fun _ _ => ⟨Unit, fun _ => True, fun _ => .agg [i6 a.p, .ref 0 0 a.votes.length], fun _ => [.arr (a.votes.map Vote.cells)]⟩)), (14, .res (ob (inr bal 1 3000))), (700000, .row [])] TTok hmo Go.Proofs.Try.func24 rfl (by kernel_rfl) rfl (by kernel_rfl) ?_
  repeat' (first | refine And.intro ?_ ?_ | exact tf | exact ft | refine tt ?_ | refine ff ?_ | exact ⟨trivial⟩ | exact sAll rfl | exact sF1 rfl | exact sBld (by repeat' (first | exact trivial | rfl | exact Nat.le_of_ble_eq_true rfl | refine And.intro ?_ ?_)) rfl | exact sBS (by repeat' (first | exact trivial | rfl | exact Nat.le_of_ble_eq_true rfl | refine And.intro ?_ ?_)) rfl rfl rfl rfl | exact sBSF (by repeat' (first | exact trivial | rfl | exact Nat.le_of_ble_eq_true rfl | refine And.intro ?_ ?_)) rfl rfl rfl rfl | exact sLe rfl | exact Chk.mk (by kernel_rfl) | exact ⟨Chk.mk (by kernel_rfl)⟩ | exact sLeEq rfl rfl | exact sAnd (by repeat' constructor) (c_impl_AccOk a ha) | exact sAnd (by repeat' constructor) (c_impl_in _ _ _) | refine fun h => ?_)
  all_goals try (exact ⟨c_accCopyU a ha⟩)
  all_goals try (exact ⟨fun _ _ => trivial⟩)
  all_goals try (exact ⟨fun _ _ => ⟨allF Vote.frz, trivial⟩⟩)
  · obtain rfl : (⟨0, []⟩, false) = q := by rw [← hq, if_neg (by simp_all)]
    refine W.vbox 1 1 rfl (W.ret ?_)
    refine ⟨⟨Nat.le_of_ble_eq_true rfl, trivial, trivial⟩, ?_⟩
    apply exU'; refine ⟨[(0, 2)], [], trivial, ?_⟩
    repeat' (first | exact trivial | exact ⟨trivial⟩ | exact Side.mk rfl | exact sF1 rfl | exact Chk.mk (by kernel_rfl) | exact ⟨Chk.mk (by kernel_rfl)⟩ | exact sMapF Vote.flat | refine And.intro ?_ ?_ | rfl)
  all_goals refine W.ret ⟨⟨Nat.le_of_ble_eq_true rfl, trivial, trivial⟩, ?_⟩
  · obtain rfl : (a, false) = q := by rw [← hq, if_pos (by simp_all), if_neg (by simp_all)]
    apply exU'; refine ⟨[(0, 2)], [], trivial, ?_⟩
    repeat' (first | exact trivial | exact ⟨trivial⟩ | exact Side.mk rfl | exact sF1 rfl | exact Chk.mk (by kernel_rfl) | exact ⟨Chk.mk (by kernel_rfl)⟩ | exact sMapF Vote.flat | refine And.intro ?_ ?_ | rfl)
  · obtain rfl : (⟨bal, a.votes⟩, true) = q := by rw [← hq, if_pos (by simp_all), if_pos (by simp_all)]
    apply exU'; refine ⟨[(0, 2)], [], trivial, ?_⟩
    repeat' (first | exact trivial | exact ⟨trivial⟩ | exact Side.mk rfl | exact sF1 rfl | exact Chk.mk (by kernel_rfl) | exact ⟨Chk.mk (by kernel_rfl)⟩ | exact sMapF Vote.flat | refine And.intro ?_ ?_ | rfl)
  · obtain rfl : (a, false) = q := by rw [← hq, if_pos (by simp_all), if_neg (by simp_all)]
    apply exU'; refine ⟨[(0, 2)], [], trivial, ?_⟩
    repeat' (first | exact trivial | exact ⟨trivial⟩ | exact Side.mk rfl | exact sF1 rfl | exact Chk.mk (by kernel_rfl) | exact ⟨Chk.mk (by kernel_rfl)⟩ | exact sMapF Vote.flat | refine And.intro ?_ ?_ | rfl)
def fAcc (a : Acc) (b : Bool) : ConT := ⟨Unit, fun _ => True, fun _ => .tup [.agg a.cells, ob b], fun _ => []⟩
/-- Handed on as frozen. -/
theorem c_AccPromiseF (a : Acc) (ha : a.ok lim) (bal : Int) : Con PP 24 [.agg a.cells, oi bal] [] 0 (fAcc (accPromise a bal).1 (accPromise a bal).2).p (fAcc (accPromise a bal).1 (accPromise a bal).2).r (fAcc (accPromise a bal).1 (accPromise a bal).2).os := by
  generalize hq : accPromise a bal = q
  unfold accPromise at hq
  refine Con.vc [(8, .res (ob (accOk a))), (12, .con false [] [] [] (fun _ _ => ⟨Unit, fun _ => True, fun _ => .agg a.cells, fun _ => []⟩)), (14, .res (ob (inr bal 1 3000)))] TTok hmo Go.Proofs.Try.func24 rfl (by kernel_rfl) rfl (by kernel_rfl) ?_
  repeat' (first | refine And.intro ?_ ?_ | exact tf | exact ft | refine tt ?_ | refine ff ?_ | exact ⟨trivial⟩ | exact sAll rfl | exact sF1 rfl | exact sBld (by repeat' (first | exact trivial | rfl | exact Nat.le_of_ble_eq_true rfl | refine And.intro ?_ ?_)) rfl | exact sBS (by repeat' (first | exact trivial | rfl | exact Nat.le_of_ble_eq_true rfl | refine And.intro ?_ ?_)) rfl rfl rfl rfl | exact sBSF (by repeat' (first | exact trivial | rfl | exact Nat.le_of_ble_eq_true rfl | refine And.intro ?_ ?_)) rfl rfl rfl rfl | exact sLe rfl | exact Chk.mk (by kernel_rfl) | exact ⟨Chk.mk (by kernel_rfl)⟩ | exact sLeEq rfl rfl | exact sAnd (by repeat' constructor) (c_impl_AccOk a ha) | exact sAnd (by repeat' constructor) (c_impl_in _ _ _) | refine fun h => ?_)
  all_goals try (exact ⟨c_accCopyF a ha⟩)
  all_goals try (exact ⟨fun _ _ => trivial⟩)
  all_goals try (exact ⟨Nat.le_of_ble_eq_true rfl, trivial, trivial⟩)
  · obtain rfl : (⟨0, []⟩, false) = q := by rw [← hq, if_neg (by simp_all)]
    apply exU'; refine ⟨[], [], trivial, ?_⟩
    repeat' (first | exact trivial | exact ⟨trivial⟩ | exact Side.mk rfl | exact sF1 rfl | exact Chk.mk (by kernel_rfl) | exact ⟨Chk.mk (by kernel_rfl)⟩ | refine And.intro ?_ ?_ | rfl)
  · obtain rfl : (a, false) = q := by rw [← hq, if_pos (by simp_all), if_neg (by simp_all)]
    apply exU'; refine ⟨[], [], trivial, ?_⟩
    repeat' (first | exact trivial | exact ⟨trivial⟩ | exact Side.mk rfl | exact sF1 rfl | exact Chk.mk (by kernel_rfl) | exact ⟨Chk.mk (by kernel_rfl)⟩ | refine And.intro ?_ ?_ | rfl)
  · obtain rfl : (⟨bal, a.votes⟩, true) = q := by rw [← hq, if_pos (by simp_all), if_pos (by simp_all)]
    apply exU'; refine ⟨[], [], trivial, ?_⟩
    repeat' (first | exact trivial | exact ⟨trivial⟩ | exact Side.mk rfl | exact sF1 rfl | exact Chk.mk (by kernel_rfl) | exact ⟨Chk.mk (by kernel_rfl)⟩ | refine And.intro ?_ ?_ | rfl)
  · obtain rfl : (a, false) = q := by rw [← hq, if_pos (by simp_all), if_neg (by simp_all)]
    apply exU'; refine ⟨[], [], trivial, ?_⟩
    repeat' (first | exact trivial | exact ⟨trivial⟩ | exact Side.mk rfl | exact sF1 rfl | exact Chk.mk (by kernel_rfl) | exact ⟨Chk.mk (by kernel_rfl)⟩ | refine And.intro ?_ ?_ | rfl)
theorem accPromise_t {a : Acc} {bal : Int} (h : (accPromise a bal).2 = true) : (accPromise a bal).1 = ⟨bal, a.votes⟩ := by
  unfold accPromise at h ⊢
  split at h
  · rename_i h1
    rw [if_pos h1]
    split at h
    · rename_i h2; rw [if_pos h2]
    · cases h
  · cases h
theorem accPromise_l {a : Acc} {bal : Int} (h : (accPromise a bal).2 = true) : a.votes.length ≤ 40 := by
  unfold accPromise at h
  split at h
  · rename_i h1
    simp only [accOk, votesOk, Bool.and_eq_true, decide_eq_true_eq] at h1
    exact h1.1.2.1
  · cases h
set_option maxHeartbeats 4000000 in
theorem c_AccVoteF (a : Acc) (ha : a.ok lim) (bal slot : Int) (e : Entry) (he : e.ok lim) : Con PP 31 [.agg a.cells, oi bal, oi slot, .agg e.cells] [] 0 (fAcc (accVote a bal slot e).1 (accVote a bal slot e).2).p (fAcc (accVote a bal slot e).1 (accVote a bal slot e).2).r (fAcc (accVote a bal slot e).1 (accVote a bal slot e).2).os := by
  generalize hq : accVote a bal slot e = q
  unfold accVote at hq
  have cP := c_AccPromiseU a ha bal
  have hT := accPromise_t (a := a) (bal := bal)
  have hL := accPromise_l (a := a) (bal := bal)
  generalize accPromise a bal = pr at *
  obtain ⟨⟨p1, vs⟩, b1⟩ := pr
  dsimp only at hq cP hT hL
  have hal : a.votes.length ≤ 1048576 := ha.1
  refine Con.vc [(15, .con false [] [] [] (fun _ _ => tAcc vs p1 b1)), (22, .res (ob (inr slot 0 39))), (26, .res (ob (entryOk e))), (30, .con false [] [] [] (fun _ _ => ⟨Unit, fun _ => True, fun _ => .agg a.cells, fun _ => []⟩)), (800008, .row [])] TTok hmo Go.Proofs.Try.func31 rfl (by kernel_rfl) rfl (by kernel_rfl) ?_
  repeat' (first | refine And.intro ?_ ?_ | exact tf | exact ft | refine tt ?_ | refine ff ?_ | exact ⟨trivial⟩ | exact sAll rfl | exact sF1 rfl | exact sBld (by repeat' (first | exact trivial | rfl | exact Nat.le_of_ble_eq_true rfl | refine And.intro ?_ ?_)) rfl | exact sBS (by repeat' (first | exact trivial | rfl | exact Nat.le_of_ble_eq_true rfl | refine And.intro ?_ ?_)) rfl rfl rfl rfl | exact sBSF (by repeat' (first | exact trivial | rfl | exact Nat.le_of_ble_eq_true rfl | refine And.intro ?_ ?_)) rfl rfl rfl rfl | exact sLe rfl | exact Chk.mk (by kernel_rfl) | exact ⟨Chk.mk (by kernel_rfl)⟩ | exact sLeEq rfl rfl | exact sAnd (by repeat' constructor) (c_impl_in _ _ _) | exact sAnd (by repeat' constructor) (c_impl_CertEntry e he) | refine fun h => ?_)
  all_goals try dsimp only [tAcc] at *
  all_goals try (exact ⟨cP⟩)
  all_goals try (exact ⟨c_accCopyF a ha⟩)
  all_goals try (exact ⟨fun _ _ => trivial⟩)
  all_goals try (exact ⟨fun _ _ => ⟨allF Vote.frz, trivial⟩⟩)
  all_goals try (exact ⟨Nat.le_of_ble_eq_true rfl, trivial, trivial⟩)
  · have hb : b1 = false := by cases b1 <;> simp_all
    subst hb
    obtain rfl : (⟨p1, vs⟩, false) = q := by rw [← hq, if_neg (by decide)]
    apply exU'; refine ⟨[], [3], trivial, ?_⟩
    repeat' (first | exact trivial | exact ⟨trivial⟩ | exact Side.mk rfl | exact sF1 rfl | exact Chk.mk (by kernel_rfl) | exact ⟨Chk.mk (by kernel_rfl)⟩ | exact sMapZ Vote.frz | exact sFzE rfl | refine And.intro ?_ ?_ | rfl)
  · have hb : b1 = true := by cases b1 <;> simp_all
    subst hb
    obtain rfl : (a, false) = q := by rw [← hq, if_pos rfl, if_neg (by simp_all)]
    apply exU'; refine ⟨[], [], trivial, ?_⟩
    repeat' (first | exact trivial | exact ⟨trivial⟩ | exact Side.mk rfl | exact sF1 rfl | exact Chk.mk (by kernel_rfl) | exact ⟨Chk.mk (by kernel_rfl)⟩ | refine And.intro ?_ ?_ | rfl)
  · have hb : b1 = true := by cases b1 <;> simp_all
    subst hb
    have hs : 0 ≤ slot ∧ slot ≤ 39 := inr_iff.1 (by simp_all)
    obtain rfl : (⟨bal, (padV a.votes (slot.toNat + 1)).set slot.toNat ⟨bal, e⟩⟩, true) = q := by rw [← hq, if_pos rfl, if_pos ⟨by simp_all, by simp_all⟩]
    obtain ⟨hp1, hvs⟩ := Acc.mk.inj (hT rfl)
    obtain rfl := hp1.symm
    have hL := hL rfl
    obtain rfl := hvs.symm
    refine W.loopC (D := List Vote) (fun d => [(39, .row [])]) TTok hmo
      (fun d => ⟨51, 6, [(1, oi bal), (2, oi slot), (7, .one (.ptr 1 0 0)), (8, .one (.ptr 2 0 0)), (10, .one (.ptr 4 0 0))],
        [(5, .arr (d.map Vote.cells)), (1, .box e.cells), (2, .box [i6 0, .nil]), (4, .box [i6 bal, .ref 5 0 d.length])]⟩) (fun d => slot.toNat + 1 - d.length)
      (fun d => d.length ≤ max a.votes.length (slot.toNat + 1) ∧ VsOk lim d ∧ padV d (slot.toNat + 1) = padV a.votes (slot.toNat + 1)) a.votes [(5, 3)] ⟨by omega, ha.2, rfl⟩ ?_ ?_
    · repeat' (first | exact trivial | exact ⟨trivial⟩ | exact Side.mk rfl | exact sF1 rfl | exact Chk.mk (by kernel_rfl) | exact ⟨Chk.mk (by kernel_rfl)⟩ | exact sMapF Vote.flat | refine And.intro ?_ ?_ | rfl)
    · intro d ⟨h1, h2, h3⟩
      repeat' (first | refine And.intro ?_ ?_ | exact tf | exact ft | refine tt ?_ | refine ff ?_ | exact ⟨trivial⟩ | exact sAll rfl | exact sF1 rfl | exact sBld (by repeat' (first | exact trivial | rfl | exact Nat.le_of_ble_eq_true rfl | refine And.intro ?_ ?_)) rfl | exact sBS (by repeat' (first | exact trivial | rfl | exact Nat.le_of_ble_eq_true rfl | refine And.intro ?_ ?_)) rfl rfl rfl rfl | exact sBSF (by repeat' (first | exact trivial | rfl | exact Nat.le_of_ble_eq_true rfl | refine And.intro ?_ ?_)) rfl rfl rfl rfl | exact sLe rfl | exact Chk.mk (by kernel_rfl) | exact ⟨Chk.mk (by kernel_rfl)⟩ | exact sLeEq rfl rfl | refine fun h => ?_)
      all_goals try (exact sApp (xs := d) (c := Vote.cells) (by simp) (fun _ => rfl) rfl (by omega) rfl rfl)
      all_goals try (first | exact ⟨trivial, trivial⟩ | exact ⟨Nat.le_of_ble_eq_true rfl, trivial⟩ | exact ⟨trivial, Nat.le_of_ble_eq_true rfl, trivial⟩ | exact ⟨Nat.le_of_ble_eq_true rfl, trivial, trivial⟩)
      all_goals simp only [decide_eq_true_eq, decide_eq_false_iff_not, List.length_map, Bool.not_eq_true', Bool.not_eq_false', Bool.not_eq_eq_eq_not, Bool.not_true, Bool.not_false, bne_iff_ne, ne_eq, bne_eq_false_iff_eq, beq_iff_eq, beq_eq_false_iff_ne] at *
      · refine ⟨d ++ [default], [(5, 6)], by simp; omega, ⟨by simp; omega, VsOk.app h2 ⟨Nat.zero_le _, Nat.zero_le _⟩, padV_step h3 (by omega)⟩, ?_⟩
        repeat' (first | exact trivial | exact ⟨trivial⟩ | exact Side.mk rfl | exact sF1 rfl | exact Chk.mk (by kernel_rfl) | exact ⟨Chk.mk (by kernel_rfl)⟩ | exact sAppR rfl | exact sAppL rfl rfl | exact sAppL2 rfl rfl | exact sMapF Vote.flat | refine And.intro ?_ ?_ | rfl)
      · have hd : padV a.votes (slot.toNat + 1) = d := h3.symm.trans (padV_end (by omega))
        rw [hd]
        have Vs : VsOk lim (d.set slot.toNat ⟨bal, e⟩) := VsOk.set h2 he
        refine W.go [(50, .con false [] [] [5] (fun _ _ => ⟨Unit, fun _ => True, fun _ => .agg (Acc.cells ⟨bal, d.set slot.toNat ⟨bal, e⟩⟩), fun _ => []⟩))] TTok hmo ?_
        repeat' (first | refine And.intro ?_ ?_ | exact tf | exact ft | refine tt ?_ | refine ff ?_ | exact ⟨trivial⟩ | exact sAll rfl | exact sF1 rfl | exact sBld (by repeat' (first | exact trivial | rfl | exact Nat.le_of_ble_eq_true rfl | refine And.intro ?_ ?_)) rfl | exact sBS (by repeat' (first | exact trivial | rfl | exact Nat.le_of_ble_eq_true rfl | refine And.intro ?_ ?_)) rfl rfl rfl rfl | exact sBSF (by repeat' (first | exact trivial | rfl | exact Nat.le_of_ble_eq_true rfl | refine And.intro ?_ ?_)) rfl rfl rfl rfl | exact sLe rfl | exact Chk.mk (by kernel_rfl) | exact ⟨Chk.mk (by kernel_rfl)⟩ | exact sLeEq rfl rfl | refine fun h => ?_)
        have hset : ∀ r, r = putAt ((d.map Vote.cells).getD (0 + slot.toNat) []) 0 (⟨bal, e⟩ : Vote).cells → (d.map Vote.cells).set (0 + slot.toNat) r = (d.set slot.toNat ⟨bal, e⟩).map Vote.cells := fun r hr => by
          rw [hr]; exact (setMap (c := Vote.cells) (by rw [mapGet (by omega)]; rfl)).symm
        · exact sIxO (c := Vote.cells) (by omega) (by omega) rfl (fun _ => rfl)
        · exact sSt (c := Vote.cells) (m := 8) (xs := d) (by omega) (fun _ => rfl) rfl rfl
        · refine ⟨?_, trivial⟩
          rw [show (d.map Vote.cells).set (0 + slot.toNat) _ = (d.set slot.toNat ⟨bal, e⟩).map Vote.cells from (setMap (c := Vote.cells) (by rw [mapGet (by omega)]; rfl)).symm]
          exact allF Vote.frz
        · refine ⟨con_arg (c_accCopyF ⟨bal, d.set slot.toNat ⟨bal, e⟩⟩ ⟨by show (d.set slot.toNat ⟨bal, e⟩).length ≤ 1048576; simp; omega, Vs⟩) ?_⟩
          rw [show (d.map Vote.cells).set (0 + slot.toNat) _ = (d.set slot.toNat ⟨bal, e⟩).map Vote.cells from (setMap (c := Vote.cells) (by rw [mapGet (by omega)]; rfl)).symm, l_all (by simp)]
          rfl
        · exact ⟨fun _ _ => trivial⟩
        · exact ⟨fun _ _ => trivial⟩
        · exact ⟨Nat.le_of_ble_eq_true rfl, trivial, trivial⟩
        · apply exU'; refine ⟨[], [], trivial, ?_⟩
          repeat' (first | exact trivial | exact ⟨trivial⟩ | exact Side.mk rfl | exact sF1 rfl | exact Chk.mk (by kernel_rfl) | exact ⟨Chk.mk (by kernel_rfl)⟩ | refine And.intro ?_ ?_ | rfl)
  · have hb : b1 = true := by cases b1 <;> simp_all
    subst hb
    obtain rfl : (a, false) = q := by rw [← hq, if_pos rfl, if_neg (by simp_all)]
    apply exU'; refine ⟨[], [], trivial, ?_⟩
    repeat' (first | exact trivial | exact ⟨trivial⟩ | exact Side.mk rfl | exact sF1 rfl | exact Chk.mk (by kernel_rfl) | exact ⟨Chk.mk (by kernel_rfl)⟩ | refine And.intro ?_ ?_ | rfl)
end Mg

/- Copies with nothing of the argument in them. No condition. -/
namespace Mg
open Go Go.RowKit
set_option maxRecDepth 100000
set_option linter.unusedVariables false
set_option linter.unusedSimpArgs false
attribute [local irreducible] W Pure Con
section
variable {α : Type} {c cA : α → List MC} {xs : List α} {i m : Nat}
/-- A list of which the first ones are one's own already. -/
def rowsG (c cA : α → List MC) (xs : List α) (i : Nat) : List (List MC) := (xs.take i).map c ++ (xs.drop i).map cA
theorem rowsG_len : (rowsG c cA xs i).length = xs.length := by simp [rowsG]; omega
theorem rowsG_all (h : xs.length ≤ i) : rowsG c cA xs i = xs.map c := by
  unfold rowsG; rw [List.take_of_length_le h, List.drop_of_length_le h]; simp
theorem rowsG_row (h1 : ∀ x, (c x).length = m) (h2 : ∀ x, (cA x).length = m) : ∀ r ∈ rowsG c cA xs i, r.length = m := fun r hr => by
  rcases List.mem_append.1 hr with hr | hr
  · obtain ⟨x, _, rfl⟩ := List.mem_map.1 hr; exact h1 x
  · obtain ⟨x, _, rfl⟩ := List.mem_map.1 hr; exact h2 x
theorem sFlG (h1 : ∀ x, (c x).all MC.flat = true) (h2 : ∀ x, (cA x).all MC.flat = true) : Side (∀ r ∈ rowsG c cA xs i, ∀ x ∈ r, x.flat = true) := ⟨fun r hr => by
  rcases List.mem_append.1 hr with hr | hr
  · obtain ⟨x, _, rfl⟩ := List.mem_map.1 hr; exact List.all_eq_true.1 (h1 x)
  · obtain ⟨x, _, rfl⟩ := List.mem_map.1 hr; exact List.all_eq_true.1 (h2 x)⟩
end
section
variable {α : Type} [Inhabited α] {c cA : α → List MC} {xs : List α} {i m : Nat}
theorem rowsG_get (h : i < xs.length) : (rowsG c cA xs i)[i]? = some (cA (xs.getD i default)) := by
  unfold rowsG
  have hl : ((xs.take i).map c).length = i := by simp; omega
  rw [List.getElem?_append_right (by omega), hl, Nat.sub_self, List.getElem?_map, List.getElem?_drop, Nat.add_zero, List.getElem?_eq_getElem h, getD_get h]; rfl
theorem rowsG_getD (h : i < xs.length) : (rowsG c cA xs i).getD (0 + i) [] = cA (xs.getD i default) := by
  rw [Nat.zero_add, List.getD_eq_getElem?_getD, rowsG_get h]; rfl
theorem rowsG_set {r : List MC} (h : i < xs.length) (hr : r = c (xs.getD i default)) : (rowsG c cA xs i).set (0 + i) r = rowsG c cA xs (i + 1) := by
  subst hr
  unfold rowsG
  have hl : ((xs.take i).map c).length = i := by simp; omega
  rw [Nat.zero_add, List.set_append, if_neg (by omega), hl, Nat.sub_self]
  rw [List.drop_eq_getElem_cons h, List.map_cons, List.set_cons_zero]
  rw [List.take_succ_eq_append_getElem h, List.map_append, getD_get h]
  simp
theorem sIxG {k : Int} {n : Nat} (h0 : k = i) (h : i < xs.length) (hn : n = xs.length) (h2 : ∀ x, (cA x).length = m) :
    Side ((0 ≤ k ∧ k < n) ∧ 0 + k.toNat < (rowsG c cA xs i).length ∧ ((rowsG c cA xs i).getD (0 + k.toNat) []).length = m) := by
  subst h0
  rw [Int.toNat_natCast, rowsG_len, rowsG_getD h, hn]
  exact ⟨⟨by omega, by omega⟩, by omega, h2 _⟩
theorem sLdG {off n : Nat} {cs : List MC} (h : i < xs.length) (hc : n ≤ ((cA (xs.getD i default)).drop off).length) (he : ((cA (xs.getD i default)).drop off).take n = cs) :
    Side (n ≤ (List.drop off ((rowsG c cA xs i).getD (0 + i) [])).length ∧ MV.agg (List.take n (List.drop off ((rowsG c cA xs i).getD (0 + i) []))) = MV.agg cs) := by
  rw [rowsG_getD h, he]; exact ⟨⟨hc, rfl⟩⟩
theorem sStG {off n z : Nat} (h : i < xs.length) (h2 : ∀ x, (cA x).length = m) (hb : Nat.ble (off + n) m = true) (hz : n = z) :
    Side ((0 + i < (rowsG c cA xs i).length ∧ off + n ≤ ((rowsG c cA xs i).getD (0 + i) []).length) ∧ n = z) :=
  ⟨⟨by rw [rowsG_len]; omega, by rw [rowsG_getD h, h2]; exact Nat.le_of_ble_eq_true hb⟩, hz⟩
theorem sSetG {k : Nat} {r : List MC} (h : i < xs.length) (hk : k = i) (hr : c (xs.getD i default) = r) : Side (rowsG c cA xs (i + 1) = (rowsG c cA xs i).set (0 + k) r) := ⟨by rw [hk, rowsG_set h hr.symm]⟩
end
def Vote.cellsA (v : Vote) : List MC := v.cells.map MC.toA
def Entry.cellsA (v : Entry) : List MC := v.cells.map MC.toA
theorem c_votesCopyP (vs : List Vote) (hx : vs.length ≤ lim) (hv : VsOk lim vs) : Pure PP false 59 [.one (.fz (vs.map Vote.cells))] (.one (.own (vs.map Vote.cells))) := by
  have hx0 : vs.length ≤ 1048576 := hx
  refine Pure.vc [(6, .con true [] [] [] (sCpV vs.length))] TTok hmo Go.Proofs.Try.func59 (by kernel_rfl) rfl (by kernel_rfl) ?_
  repeat' (first | refine And.intro ?_ ?_ | exact tf | exact ft | refine tt ?_ | refine ff ?_ | exact ⟨trivial⟩ | exact sAll rfl | exact sF1 rfl | exact sBld (by repeat' (first | exact trivial | rfl | exact Nat.le_of_ble_eq_true rfl | refine And.intro ?_ ?_)) rfl | exact sBS (by repeat' (first | exact trivial | rfl | exact Nat.le_of_ble_eq_true rfl | refine And.intro ?_ ?_)) rfl rfl rfl rfl | exact sBSF (by repeat' (first | exact trivial | rfl | exact Nat.le_of_ble_eq_true rfl | refine And.intro ?_ ?_)) rfl rfl rfl rfl | exact sLe rfl | exact Chk.mk (by kernel_rfl) | exact ⟨Chk.mk (by kernel_rfl)⟩ | exact sLeEq rfl rfl | refine fun h => ?_)
  · exact ⟨c_copied_VoteU vs hx⟩
  · exact ⟨fun _ _ => trivial⟩
  · exact ⟨fun _ _ => ⟨trivial, trivial⟩⟩
  · refine W.loopC (D := Nat) (fun i => [(18, .res (.agg (vs.getD i default).e.cellsA)), (19, .res (.agg (vs.getD i default).e.cells))]) TTok hmo (fun i => ⟨24, 1, [(3, .one (.ref 0 0 vs.length)), (8, oi vs.length), (9, oi i)], [(0, .arr (rowsG Vote.cells Vote.cellsA vs i))]⟩) (fun i => vs.length - i) (fun i => i ≤ vs.length) 0 [] (Nat.zero_le _) ?_ ?_
    · repeat' (first | exact trivial | exact ⟨trivial⟩ | exact Side.mk rfl | exact sF1 rfl | exact Chk.mk (by kernel_rfl) | exact ⟨Chk.mk (by kernel_rfl)⟩ | exact sFlG Vote.flat (fun _ => rfl) | refine And.intro ?_ ?_ | rfl)
      exact ⟨by unfold rowsG; rw [List.map_map]; rfl⟩
    · intro i hi
      repeat' (first | refine And.intro ?_ ?_ | exact tf | exact ft | refine tt ?_ | refine ff ?_ | exact ⟨trivial⟩ | exact sAll rfl | exact sF1 rfl | exact sBld (by repeat' (first | exact trivial | rfl | exact Nat.le_of_ble_eq_true rfl | refine And.intro ?_ ?_)) rfl | exact sBS (by repeat' (first | exact trivial | rfl | exact Nat.le_of_ble_eq_true rfl | refine And.intro ?_ ?_)) rfl rfl rfl rfl | exact sBSF (by repeat' (first | exact trivial | rfl | exact Nat.le_of_ble_eq_true rfl | refine And.intro ?_ ?_)) rfl rfl rfl rfl | exact sLe rfl | exact Chk.mk (by kernel_rfl) | exact ⟨Chk.mk (by kernel_rfl)⟩ | exact sLeEq rfl rfl | exact sAnd (by repeat' constructor) (c_entryCopy _ (hv _ (getD_mem (by have := of_decide_eq_true h; omega)))) | refine fun h => ?_)
      all_goals try (have hl := of_decide_eq_true h)
      all_goals try (exact sIxG rfl (by omega) rfl (fun _ => rfl))
      all_goals try (exact sLdG (xs := vs) (i := i) (by omega) (Nat.le_of_ble_eq_true rfl) rfl)
      all_goals try (exact sStG (m := 8) (i := i) (xs := vs) (by omega) (fun _ => rfl) rfl rfl)
      all_goals try (first | exact ⟨trivial, trivial⟩ | exact ⟨Nat.le_of_ble_eq_true rfl, trivial⟩ | exact ⟨trivial, Nat.le_of_ble_eq_true rfl, trivial⟩ | exact ⟨Nat.le_of_ble_eq_true rfl, trivial, trivial⟩)
      · refine ⟨i + 1, [], by omega, by omega, ?_⟩
        repeat' (first | exact trivial | exact ⟨trivial⟩ | exact Side.mk rfl | exact sF1 rfl | exact Chk.mk (by kernel_rfl) | exact ⟨Chk.mk (by kernel_rfl)⟩ | exact sFlG Vote.flat (fun _ => rfl) | exact sSetG (by omega) rfl (by rw [Int.toNat_natCast, rowsG_getD (by omega)]; rfl) | exact ⟨by rw [wrapi] <;> omega⟩ | refine And.intro ?_ ?_ | rfl)
      · have hi' := of_decide_eq_false h
        refine ⟨⟨trivial, trivial⟩, ⟨rfl, ?_, rowsG_all (by omega), ?_⟩, trivial⟩
        · rw [rowsG_len]
        · rw [rowsG_all (by omega)]; exact allF Vote.frz
theorem map_unA (d : List Vote) : ((d.map Vote.cells).map fun r => r.map MC.unA) = d.map Vote.cells := by
  rw [List.map_map]; exact List.map_congr_left fun v _ => rfl
theorem set_unA {d : List Vote} {k n : Nat} {r : List MC} {v : Vote} (hr : (r.map MC.unA) = v.cells) (hn : n = d.length) : (((((d.map Vote.cells).set k r).drop 0).take n).map fun r => r.map MC.unA) = (d.set k v).map Vote.cells := by
  rw [List.drop_zero, List.take_of_length_le (by simp [hn]), List.map_set, map_unA, hr, List.map_set]
theorem set_allA {d : List Vote} {k : Nat} {r : List MC} (hr : r.all MC.fa = true) : AllA ((d.map Vote.cells).set k r) := ⟨fun x hx => by
  rcases List.mem_or_eq_of_mem_set hx with hx | rfl
  · obtain ⟨v, _, rfl⟩ := List.mem_map.1 hx
    exact List.all_eq_true.1 (show v.cells.all MC.fa = true from rfl)
  · exact List.all_eq_true.1 hr⟩
theorem c_accCopyP (a : Acc) (ha : a.ok lim) : Pure PP false 69 [.agg a.cells] (.agg [i6 a.p, .own (a.votes.map Vote.cells)]) := by
  refine Pure.vc [(7, .res (.one (.own (a.votes.map Vote.cells)))), (900001, .row [i6 0, i6 1, i6 2, i6 3, i6 4, i6 5, i6 6])] TTok hmo Go.Proofs.Try.func69 (by kernel_rfl) rfl (by kernel_rfl) ?_
  repeat' (first | refine And.intro ?_ ?_ | exact tf | exact ft | refine tt ?_ | refine ff ?_ | exact ⟨trivial⟩ | exact sAll rfl | exact sF1 rfl | exact sBld (by repeat' (first | exact trivial | rfl | exact Nat.le_of_ble_eq_true rfl | refine And.intro ?_ ?_)) rfl | exact sBS (by repeat' (first | exact trivial | rfl | exact Nat.le_of_ble_eq_true rfl | refine And.intro ?_ ?_)) rfl rfl rfl rfl | exact sBSF (by repeat' (first | exact trivial | rfl | exact Nat.le_of_ble_eq_true rfl | refine And.intro ?_ ?_)) rfl rfl rfl rfl | exact sLe rfl | exact Chk.mk (by kernel_rfl) | exact ⟨Chk.mk (by kernel_rfl)⟩ | exact sLeEq rfl rfl | exact sAnd (by repeat' constructor) (c_votesCopyP _ ha.1 ha.2) | refine fun h => ?_)
  all_goals try (exact ⟨rfl⟩)
  all_goals try (exact trivial)
  exact ⟨⟨Nat.le_of_ble_eq_true rfl, trivial⟩, rfl, ⟨rfl, by simp, rfl, allF Vote.frz⟩, trivial⟩
theorem c_accCopyQ (a : Acc) (ha : a.ok lim) : Pure PP false 69 [.agg a.cells] (.agg a.cells) := (c_accCopyP a ha).to rfl
def pAcc (q : Acc × Bool) : MV := .tup [.agg [i6 q.1.p, .own (q.1.votes.map Vote.cells)], ob q.2]
def qAcc (q : Acc × Bool) : MV := .tup [.agg q.1.cells, ob q.2]
theorem c_AccPromiseP (a : Acc) (ha : a.ok lim) (bal : Int) : Pure PP false 24 [.agg a.cells, oi bal] (pAcc (accPromise a bal)) := by
  generalize hq : accPromise a bal = q
  unfold accPromise at hq
  refine Pure.vc [(8, .res (ob (accOk a))), (12, .res (.agg [i6 a.p, .own (a.votes.map Vote.cells)])), (14, .res (ob (inr bal 1 3000)))] TTok hmo Go.Proofs.Try.func24 (by kernel_rfl) rfl (by kernel_rfl) ?_
  repeat' (first | refine And.intro ?_ ?_ | exact tf | exact ft | refine tt ?_ | refine ff ?_ | exact ⟨trivial⟩ | exact sAll rfl | exact sF1 rfl | exact sBld (by repeat' (first | exact trivial | rfl | exact Nat.le_of_ble_eq_true rfl | refine And.intro ?_ ?_)) rfl | exact sBS (by repeat' (first | exact trivial | rfl | exact Nat.le_of_ble_eq_true rfl | refine And.intro ?_ ?_)) rfl rfl rfl rfl | exact sBSF (by repeat' (first | exact trivial | rfl | exact Nat.le_of_ble_eq_true rfl | refine And.intro ?_ ?_)) rfl rfl rfl rfl | exact sLe rfl | exact Chk.mk (by kernel_rfl) | exact ⟨Chk.mk (by kernel_rfl)⟩ | exact sLeEq rfl rfl | exact sAnd (by repeat' constructor) (c_impl_AccOk a ha) | exact sAnd (by repeat' constructor) (c_accCopyP a ha) | exact sAnd (by repeat' constructor) (c_impl_in _ _ _) | refine fun h => ?_)
  · obtain rfl : (⟨0, []⟩, false) = q := by rw [← hq, if_neg (by simp_all)]
    exact ⟨⟨Nat.le_of_ble_eq_true rfl, trivial, trivial⟩, ⟨rfl, rfl, trivial⟩, ⟨rfl, trivial⟩, trivial⟩
  · obtain rfl : (a, false) = q := by rw [← hq, if_pos (by simp_all), if_neg (by simp_all)]
    exact ⟨⟨Nat.le_of_ble_eq_true rfl, trivial, trivial⟩, ⟨rfl, ⟨rfl, by simp, rfl, allF Vote.frz⟩, trivial⟩, ⟨rfl, trivial⟩, trivial⟩
  · obtain rfl : (⟨bal, a.votes⟩, true) = q := by rw [← hq, if_pos (by simp_all), if_pos (by simp_all)]
    exact ⟨⟨Nat.le_of_ble_eq_true rfl, trivial, trivial⟩, ⟨rfl, ⟨rfl, by simp, rfl, allF Vote.frz⟩, trivial⟩, ⟨rfl, trivial⟩, trivial⟩
  · obtain rfl : (a, false) = q := by rw [← hq, if_pos (by simp_all), if_neg (by simp_all)]
    exact ⟨⟨Nat.le_of_ble_eq_true rfl, trivial, trivial⟩, ⟨rfl, ⟨rfl, by simp, rfl, allF Vote.frz⟩, trivial⟩, ⟨rfl, trivial⟩, trivial⟩
theorem c_AccPromiseQ (a : Acc) (ha : a.ok lim) (bal : Int) : Pure PP false 24 [.agg a.cells, oi bal] (qAcc (accPromise a bal)) := (c_AccPromiseP a ha bal).to rfl
set_option maxHeartbeats 4000000 in
theorem c_AccVoteP (a : Acc) (ha : a.ok lim) (bal slot : Int) (e : Entry) (he : e.ok lim) : Pure PP false 31 [.agg a.cells, oi bal, oi slot, .agg e.cells] (pAcc (accVote a bal slot e)) := by
  generalize hq : accVote a bal slot e = q
  unfold accVote at hq
  have cP := c_AccPromiseP a ha bal
  have hT := accPromise_t (a := a) (bal := bal)
  have hL := accPromise_l (a := a) (bal := bal)
  generalize accPromise a bal = pr at *
  obtain ⟨⟨p1, vs⟩, b1⟩ := pr
  dsimp only at hq cP hT hL
  have hal : a.votes.length ≤ 1048576 := ha.1
  refine Pure.vc [(15, .res (pAcc (⟨p1, vs⟩, b1))), (22, .res (ob (inr slot 0 39))), (26, .res (ob (entryOk e))), (30, .res (.agg [i6 a.p, .own (a.votes.map Vote.cells)])), (800008, .row [])] TTok hmo Go.Proofs.Try.func31 (by kernel_rfl) rfl (by kernel_rfl) ?_
  repeat' (first | refine And.intro ?_ ?_ | exact tf | exact ft | refine tt ?_ | refine ff ?_ | exact ⟨trivial⟩ | exact sAll rfl | exact sF1 rfl | exact sBld (by repeat' (first | exact trivial | rfl | exact Nat.le_of_ble_eq_true rfl | refine And.intro ?_ ?_)) rfl | exact sBS (by repeat' (first | exact trivial | rfl | exact Nat.le_of_ble_eq_true rfl | refine And.intro ?_ ?_)) rfl rfl rfl rfl | exact sBSF (by repeat' (first | exact trivial | rfl | exact Nat.le_of_ble_eq_true rfl | refine And.intro ?_ ?_)) rfl rfl rfl rfl | exact sLe rfl | exact Chk.mk (by kernel_rfl) | exact ⟨Chk.mk (by kernel_rfl)⟩ | exact sLeEq rfl rfl | exact sAnd (by repeat' constructor) (cP) | exact sAnd (by repeat' constructor) (c_impl_in _ _ _) | exact sAnd (by repeat' constructor) (c_impl_CertEntry e he) | exact sAnd (by repeat' constructor) (c_accCopyP a ha) | refine fun h => ?_)
  · have hb : b1 = false := by cases b1 <;> simp_all
    subst hb
    obtain rfl : (⟨p1, vs⟩, false) = q := by rw [← hq, if_neg (by decide)]
    exact ⟨⟨Nat.le_of_ble_eq_true rfl, trivial, trivial⟩, ⟨rfl, ⟨rfl, by simp, rfl, allF Vote.frz⟩, trivial⟩, ⟨rfl, trivial⟩, trivial⟩
  · have hb : b1 = true := by cases b1 <;> simp_all
    subst hb
    obtain rfl : (a, false) = q := by rw [← hq, if_pos rfl, if_neg (by simp_all)]
    exact ⟨⟨Nat.le_of_ble_eq_true rfl, trivial, trivial⟩, ⟨rfl, ⟨rfl, by simp, rfl, allF Vote.frz⟩, trivial⟩, ⟨rfl, trivial⟩, trivial⟩
  · have hb : b1 = true := by cases b1 <;> simp_all
    subst hb
    have hs : 0 ≤ slot ∧ slot ≤ 39 := inr_iff.1 (by simp_all)
    obtain rfl : (⟨bal, (padV a.votes (slot.toNat + 1)).set slot.toNat ⟨bal, e⟩⟩, true) = q := by rw [← hq, if_pos rfl, if_pos ⟨by simp_all, by simp_all⟩]
    obtain ⟨hp1, hvs⟩ := Acc.mk.inj (hT rfl)
    obtain rfl := hp1.symm
    have hL := hL rfl
    obtain rfl := hvs.symm
    refine W.loopC (D := List Vote) (fun d => [(39, .row [])]) TTok hmo
      (fun d => ⟨51, 6, [(1, oi bal), (2, oi slot), (7, .one (.ptr 1 0 0)), (8, .one (.ptr 2 0 0)), (10, .one (.ptr 4 0 0))],
        [(5, .arr (d.map Vote.cells)), (1, .box e.cellsA), (2, .box [i6 0, .nil]), (4, .box [i6 bal, .ref 5 0 d.length])]⟩) (fun d => slot.toNat + 1 - d.length)
      (fun d => d.length ≤ max a.votes.length (slot.toNat + 1) ∧ VsOk lim d ∧ padV d (slot.toNat + 1) = padV a.votes (slot.toNat + 1)) a.votes [(5, 3)] ⟨by omega, ha.2, rfl⟩ ?_ ?_
    · repeat' (first | exact trivial | exact ⟨trivial⟩ | exact Side.mk rfl | exact sF1 rfl | exact Chk.mk (by kernel_rfl) | exact ⟨Chk.mk (by kernel_rfl)⟩ | exact sMapF Vote.flat | refine And.intro ?_ ?_ | rfl)
      all_goals exact ⟨by simp⟩
    · intro d ⟨h1, h2, h3⟩
      repeat' (first | refine And.intro ?_ ?_ | exact tf | exact ft | refine tt ?_ | refine ff ?_ | exact ⟨trivial⟩ | exact sAll rfl | exact sF1 rfl | exact sBld (by repeat' (first | exact trivial | rfl | exact Nat.le_of_ble_eq_true rfl | refine And.intro ?_ ?_)) rfl | exact sBS (by repeat' (first | exact trivial | rfl | exact Nat.le_of_ble_eq_true rfl | refine And.intro ?_ ?_)) rfl rfl rfl rfl | exact sBSF (by repeat' (first | exact trivial | rfl | exact Nat.le_of_ble_eq_true rfl | refine And.intro ?_ ?_)) rfl rfl rfl rfl | exact sLe rfl | exact Chk.mk (by kernel_rfl) | exact ⟨Chk.mk (by kernel_rfl)⟩ | exact sLeEq rfl rfl | refine fun h => ?_)
      all_goals try (exact sApp (xs := d) (c := Vote.cells) (by simp) (fun _ => rfl) rfl (by omega) rfl rfl)
      all_goals try (first | exact ⟨trivial, trivial⟩ | exact ⟨Nat.le_of_ble_eq_true rfl, trivial⟩ | exact ⟨trivial, Nat.le_of_ble_eq_true rfl, trivial⟩ | exact ⟨Nat.le_of_ble_eq_true rfl, trivial, trivial⟩)
      all_goals simp only [decide_eq_true_eq, decide_eq_false_iff_not, List.length_map, Bool.not_eq_true', Bool.not_eq_false', Bool.not_eq_eq_eq_not, Bool.not_true, Bool.not_false, bne_iff_ne, ne_eq, bne_eq_false_iff_eq, beq_iff_eq, beq_eq_false_iff_ne] at *
      · refine ⟨d ++ [default], [(5, 6)], by simp; omega, ⟨by simp; omega, VsOk.app h2 ⟨Nat.zero_le _, Nat.zero_le _⟩, padV_step h3 (by omega)⟩, ?_⟩
        repeat' (first | exact trivial | exact ⟨trivial⟩ | exact Side.mk rfl | exact sF1 rfl | exact Chk.mk (by kernel_rfl) | exact ⟨Chk.mk (by kernel_rfl)⟩ | exact sAppR rfl | exact sAppL rfl rfl | exact sAppL2 rfl rfl | exact sMapF Vote.flat | refine And.intro ?_ ?_ | rfl)
      · have hd : padV a.votes (slot.toNat + 1) = d := h3.symm.trans (padV_end (by omega))
        rw [hd]
        have Vs : VsOk lim (d.set slot.toNat ⟨bal, e⟩) := VsOk.set h2 he
        have hdl : (d.set slot.toNat ⟨bal, e⟩).length ≤ 1048576 := by simp; omega
        refine W.go [(800009, .row [])] TTok hmo ?_
        repeat' (first | refine And.intro ?_ ?_ | exact tf | exact ft | refine tt ?_ | refine ff ?_ | exact ⟨trivial⟩ | exact sAll rfl | exact sF1 rfl | exact sBld (by repeat' (first | exact trivial | rfl | exact Nat.le_of_ble_eq_true rfl | refine And.intro ?_ ?_)) rfl | exact sBS (by repeat' (first | exact trivial | rfl | exact Nat.le_of_ble_eq_true rfl | refine And.intro ?_ ?_)) rfl rfl rfl rfl | exact sBSF (by repeat' (first | exact trivial | rfl | exact Nat.le_of_ble_eq_true rfl | refine And.intro ?_ ?_)) rfl rfl rfl rfl | exact sLe rfl | exact Chk.mk (by kernel_rfl) | exact ⟨Chk.mk (by kernel_rfl)⟩ | exact sLeEq rfl rfl | refine fun h => ?_)
        · exact sIxO (c := Vote.cells) (by omega) (by omega) rfl (fun _ => rfl)
        · exact sSt (c := Vote.cells) (m := 8) (xs := d) (by omega) (fun _ => rfl) rfl rfl
        · refine W.frzA 4 1 rfl (set_allA (by rw [mapGet (by omega)]; rfl)) ?_
          refine W.go [(50, .res (.agg [i6 bal, .own ((d.set slot.toNat ⟨bal, e⟩).map Vote.cells)]))] TTok hmo ?_
          have hset : ∀ r, (r.map MC.unA) = (⟨bal, e⟩ : Vote).cells → (((((d.map Vote.cells).set (0 + slot.toNat) r).drop 0).take d.length).map fun r => r.map MC.unA) = (d.set slot.toNat ⟨bal, e⟩).map Vote.cells := fun r hr => by
            rw [Nat.zero_add]; exact set_unA hr rfl
          repeat' (first | refine And.intro ?_ ?_ | exact tf | exact ft | refine tt ?_ | refine ff ?_ | exact ⟨trivial⟩ | exact sAll rfl | exact sF1 rfl | exact sBld (by repeat' (first | exact trivial | rfl | exact Nat.le_of_ble_eq_true rfl | refine And.intro ?_ ?_)) rfl | exact sBS (by repeat' (first | exact trivial | rfl | exact Nat.le_of_ble_eq_true rfl | refine And.intro ?_ ?_)) rfl rfl rfl rfl | exact sBSF (by repeat' (first | exact trivial | rfl | exact Nat.le_of_ble_eq_true rfl | refine And.intro ?_ ?_)) rfl rfl rfl rfl | exact sLe rfl | exact Chk.mk (by kernel_rfl) | exact ⟨Chk.mk (by kernel_rfl)⟩ | exact sLeEq rfl rfl | refine fun h => ?_)
          · exact sLend ⟨⟨trivial, trivial, trivial⟩, trivial⟩ (c_accCopyP ⟨bal, d.set slot.toNat ⟨bal, e⟩⟩ ⟨hdl, Vs⟩) (congrArg (fun r => [MV.agg [i6 bal, .fz r]]) (hset _ (by rw [mapGet (by omega)]; rfl)))
          · exact ⟨⟨Nat.le_of_ble_eq_true rfl, trivial, trivial⟩, ⟨rfl, ⟨rfl, by simp, rfl, allF Vote.frz⟩, trivial⟩, ⟨rfl, trivial⟩, trivial⟩
  · have hb : b1 = true := by cases b1 <;> simp_all
    subst hb
    obtain rfl : (a, false) = q := by rw [← hq, if_pos rfl, if_neg (by simp_all)]
    exact ⟨⟨Nat.le_of_ble_eq_true rfl, trivial, trivial⟩, ⟨rfl, ⟨rfl, by simp, rfl, allF Vote.frz⟩, trivial⟩, ⟨rfl, trivial⟩, trivial⟩
theorem c_AccVoteQ (a : Acc) (ha : a.ok lim) (bal slot : Int) (e : Entry) (he : e.ok lim) : Pure PP false 31 [.agg a.cells, oi bal, oi slot, .agg e.cells] (qAcc (accVote a bal slot e)) := (c_AccVoteP a ha bal slot e he).to rfl
end Mg
