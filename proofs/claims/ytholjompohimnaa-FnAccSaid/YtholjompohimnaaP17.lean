/- Parts of the abstract state logic and of the walks, one behind the other: B7, B8, BP, BQ. No condition. -/
import Derived.Test.YtholjompohimnaaP16
import Derived.Test.YtholjompohimnaaP10
/- The best of votes, with a list of its own. No condition. -/
namespace Mg
open Go Go.RowKit
set_option maxRecDepth 100000
set_option linter.unusedVariables false
set_option linter.unusedSimpArgs false
attribute [local irreducible] W Pure Con
theorem c_votesCopyO (vs : List Vote) (hx : vs.length ≤ lim) (hz : 0 < vs.length) (hv : VsOk lim vs) : Con PP 56 [.one (.fz (vs.map Vote.cells))] [] 0 (fun _ : Unit => True) (fun _ => .one (.ref 0 0 vs.length)) (fun _ => [.arr (vs.map Vote.cells)]) := by
  have hx0 : vs.length ≤ 1048576 := hx
  refine Con.vc [(6, .con false [] [] [] (sCpV vs.length))] TTok hmo Go.Proofs.Try.func56 rfl (by kernel_rfl) rfl (by kernel_rfl) ?_
  repeat' (first | refine And.intro ?_ ?_ | exact tf | exact ft | refine tt ?_ | refine ff ?_ | exact ⟨trivial⟩ | exact sAll rfl | exact sF1 rfl | exact sBld (by repeat' (first | exact trivial | rfl | exact Nat.le_of_ble_eq_true rfl | refine And.intro ?_ ?_)) rfl | exact sBS (by repeat' (first | exact trivial | rfl | exact Nat.le_of_ble_eq_true rfl | refine And.intro ?_ ?_)) rfl rfl rfl rfl | exact sBSF (by repeat' (first | exact trivial | rfl | exact Nat.le_of_ble_eq_true rfl | refine And.intro ?_ ?_)) rfl rfl rfl rfl | exact sLe rfl | exact Chk.mk (by kernel_rfl) | exact ⟨Chk.mk (by kernel_rfl)⟩ | exact sLeEq rfl rfl | refine fun h => ?_)
  · exact ⟨c_copied_Vote vs hx hz⟩
  · exact ⟨fun _ _ => trivial⟩
  · exact ⟨fun _ _ => ⟨allF Vote.frz, trivial⟩⟩
  · refine W.loopC (D := Nat) (fun i => [(18, .res (.agg (vs.getD i default).e.cells)), (19, .res (.agg (vs.getD i default).e.cells))]) TTok hmo (fun i => ⟨24, 1, [(3, .one (.ref 0 0 vs.length)), (8, oi vs.length), (9, oi i)], [(0, .arr (vs.map Vote.cells))]⟩) (fun i => vs.length - i) (fun i => i ≤ vs.length) 0 [] (Nat.zero_le _) ?_ ?_
    · repeat' (first | exact trivial | exact ⟨trivial⟩ | exact Side.mk rfl | exact sF1 rfl | exact Chk.mk (by kernel_rfl) | exact ⟨Chk.mk (by kernel_rfl)⟩ | exact sMapF Vote.flat | refine And.intro ?_ ?_ | rfl)
    · intro i hi
      repeat' (first | refine And.intro ?_ ?_ | exact tf | exact ft | refine tt ?_ | refine ff ?_ | exact ⟨trivial⟩ | exact sAll rfl | exact sF1 rfl | exact sBld (by repeat' (first | exact trivial | rfl | exact Nat.le_of_ble_eq_true rfl | refine And.intro ?_ ?_)) rfl | exact sBS (by repeat' (first | exact trivial | rfl | exact Nat.le_of_ble_eq_true rfl | refine And.intro ?_ ?_)) rfl rfl rfl rfl | exact sBSF (by repeat' (first | exact trivial | rfl | exact Nat.le_of_ble_eq_true rfl | refine And.intro ?_ ?_)) rfl rfl rfl rfl | exact sLe rfl | exact Chk.mk (by kernel_rfl) | exact ⟨Chk.mk (by kernel_rfl)⟩ | exact sLeEq rfl rfl | exact sAnd (by repeat' constructor) (c_entryCopy _ (hv _ (getD_mem (by have := of_decide_eq_true h; omega)))) | refine fun h => ?_)
      all_goals try (have hl := of_decide_eq_true h)
      all_goals try (exact sIxO (c := Vote.cells) (k := (i : Int)) (by omega) (by omega) rfl (fun _ => rfl))
      all_goals try (exact sLdA (c := Vote.cells) (xs := vs) (k := i) (by omega) (Nat.le_of_ble_eq_true rfl) rfl)
      all_goals try (exact sSt (c := Vote.cells) (m := 8) (k := i) (xs := vs) (by omega) (fun _ => rfl) rfl rfl)
      all_goals try (first | exact ⟨trivial, trivial⟩ | exact ⟨Nat.le_of_ble_eq_true rfl, trivial⟩ | exact ⟨trivial, Nat.le_of_ble_eq_true rfl, trivial⟩ | exact ⟨Nat.le_of_ble_eq_true rfl, trivial, trivial⟩)
      · refine ⟨i + 1, [], by omega, by omega, ?_⟩
        repeat' (first | exact trivial | exact ⟨trivial⟩ | exact Side.mk rfl | exact sF1 rfl | exact Chk.mk (by kernel_rfl) | exact ⟨Chk.mk (by kernel_rfl)⟩ | exact sMapF Vote.flat | exact sSame (k := i) (by omega) (by rw [mapGet (by omega)]; rfl) | exact ⟨by rw [wrapi] <;> omega⟩ | exact ⟨by simp⟩ | refine And.intro ?_ ?_ | rfl)
      · apply exU'; refine ⟨[], [], trivial, ?_⟩
        repeat' (first | exact trivial | exact ⟨trivial⟩ | exact Side.mk rfl | exact sF1 rfl | exact Chk.mk (by kernel_rfl) | exact ⟨Chk.mk (by kernel_rfl)⟩ | exact sMapF Vote.flat | refine And.intro ?_ ?_ | rfl)
def sOwnV (ds : List MV) (os : List Ob) : ConT := match ds with
  | [.one (.fz rows)] => ⟨Unit, fun _ => True, fun _ => .one (.ref 0 0 rows.length), fun _ => [.arr rows]⟩
  | _ => noT
set_option maxHeartbeats 8000000 in
theorem c_AccBestO (a b : List Vote) (hk : votesOk a = true ∧ votesOk b = true) (h0 : 0 < max a.length b.length) (hal : a.length ≤ 1000000) (hbl : b.length ≤ 1000000) (ha : VsOk lim a) (hb : VsOk lim b) : Con PP 19 [.one (.fz (a.map Vote.cells)), .one (.fz (b.map Vote.cells))] [] 0
    (fun _ : Unit => True) (fun _ => .one (.ref 0 0 (accBest a b).length)) (fun _ => [.arr ((accBest a b).map Vote.cells)]) := by
  have hal' : a.length ≤ maxLen := Nat.le_trans hal (by decide)
  have hbl' : b.length ≤ maxLen := Nat.le_trans hbl (by decide)
  have hR : accBest a b = upTo (implAt a b) (max a.length b.length) := by rw [← impl_accBest, if_pos (by rw [hk.1, hk.2]; rfl)]
  rw [hR]
  refine Con.vc [(8, .res (ob (votesOk a))), (12, .res (ob (votesOk b))), (72, .con false [] [] [0] sOwnV)] TTok hmo Go.Proofs.Try.func19 rfl (by kernel_rfl) rfl (by kernel_rfl) ?_
  repeat' (first | refine And.intro ?_ ?_ | exact tf | exact ft | refine tt ?_ | refine ff ?_ | exact ⟨trivial⟩ | exact sAll rfl | exact sF1 rfl | exact sBld (by repeat' (first | exact trivial | rfl | exact Nat.le_of_ble_eq_true rfl | refine And.intro ?_ ?_)) rfl | exact sBS (by repeat' (first | exact trivial | rfl | exact Nat.le_of_ble_eq_true rfl | refine And.intro ?_ ?_)) rfl rfl rfl rfl | exact sBSF (by repeat' (first | exact trivial | rfl | exact Nat.le_of_ble_eq_true rfl | refine And.intro ?_ ?_)) rfl rfl rfl rfl | exact sLe rfl | exact Chk.mk (by kernel_rfl) | exact ⟨Chk.mk (by kernel_rfl)⟩ | exact sLeEq rfl rfl | exact sAnd (by repeat' constructor) (c_impl_votesOk a hal' ha) | exact sAnd (by repeat' constructor) (c_impl_votesOk b hbl' hb) | refine fun h => ?_)
  all_goals try (first | exact ⟨trivial, trivial⟩ | exact ⟨Nat.le_of_ble_eq_true rfl, trivial⟩ | exact ⟨trivial, Nat.le_of_ble_eq_true rfl, trivial⟩ | exact ⟨Nat.le_of_ble_eq_true rfl, trivial, trivial⟩)
  · exfalso; simp_all
  · refine W.vslot 5 rfl ?_
    refine W.loopC (D := Nat) (fun i => [(42, .row (b.getD i default).cells), (44, .row []), (54, .row (a.getD i default).cells), (59, .row (b.getD i default).cells), (67, .row (a.getD i default).cells), (69, .row []), (30, .row (b.getD i default).cells), (32, .row [])]) TTok hmo
      (fun i => ⟨73, 1, [(0, .one (.fz (a.map Vote.cells))), (1, .one (.fz (b.map Vote.cells))), (5, .one (.ref 0 0 (upTo (implAt a b) i).length)), (6, oi i)], [(0, .arr ((upTo (implAt a b) i).map Vote.cells))]⟩) (fun i => max a.length b.length - i) (fun i => i ≤ max a.length b.length) 0 [] (Nat.zero_le _) ?_ ?_
    · repeat' (first | exact trivial | exact ⟨trivial⟩ | exact Side.mk rfl | exact sF1 rfl | exact Chk.mk (by kernel_rfl) | exact ⟨Chk.mk (by kernel_rfl)⟩ | exact sMapF Vote.flat | refine And.intro ?_ ?_ | rfl)
    · intro i hi
      repeat' (first | refine And.intro ?_ ?_ | exact tf | exact ft | refine tt ?_ | refine ff ?_ | exact ⟨trivial⟩ | exact sAll rfl | exact sF1 rfl | exact sBld (by repeat' (first | exact trivial | rfl | exact Nat.le_of_ble_eq_true rfl | refine And.intro ?_ ?_)) rfl | exact sBS (by repeat' (first | exact trivial | rfl | exact Nat.le_of_ble_eq_true rfl | refine And.intro ?_ ?_)) rfl rfl rfl rfl | exact sBSF (by repeat' (first | exact trivial | rfl | exact Nat.le_of_ble_eq_true rfl | refine And.intro ?_ ?_)) rfl rfl rfl rfl | exact sLe rfl | exact Chk.mk (by kernel_rfl) | exact ⟨Chk.mk (by kernel_rfl)⟩ | exact sLeEq rfl rfl | refine fun h => ?_)
      all_goals try dsimp only [sOwnV] at *
      all_goals try (exact sApp (xs := upTo (implAt a b) i) (c := Vote.cells) (by simp) (fun _ => rfl) rfl (by rw [upTo_len]; omega) rfl rfl)
      all_goals simp only [decide_eq_true_eq, decide_eq_false_iff_not, List.length_map, Bool.not_eq_true', Bool.not_eq_false', Bool.not_eq_eq_eq_not, Bool.not_true, Bool.not_false, bne_iff_ne, ne_eq, bne_eq_false_iff_eq, beq_iff_eq, beq_eq_false_iff_ne] at *
      all_goals try (exact sRow (by omega) (by rw [Int.toNat_natCast, List.getElem?_map, List.getD_eq_getElem?_getD, List.getElem?_eq_getElem (by omega)]; rfl) rfl)
      all_goals try (exfalso; omega)
      all_goals try (exact ⟨fun _ _ => trivial⟩)
      all_goals try (exact ⟨allF Vote.frz, trivial⟩)
      all_goals try (first | exact ⟨trivial, trivial⟩ | exact ⟨Nat.le_of_ble_eq_true rfl, trivial⟩ | exact ⟨trivial, Nat.le_of_ble_eq_true rfl, trivial⟩ | exact ⟨Nat.le_of_ble_eq_true rfl, trivial, trivial⟩)
      all_goals have e0 := l_all (c := Vote.cells) (xs := upTo (implAt a b) i) rfl
      all_goals try (exact ⟨fun _ _ => ⟨by rw [e0]; exact allF Vote.frz, trivial⟩⟩)
      all_goals try (rw [e0, List.length_map]; exact ⟨c_votesCopyO _ (by rw [upTo_len]; show i ≤ 1048576; omega) (by rw [upTo_len]; omega) (upTo_ok (implAt_ok ha hb) i)⟩)
      all_goals try (have eb : implAt a b i = b.getD i default := by
                       unfold implAt
                       split
                       · rfl
                       · split
                         · exfalso; omega
                         · rfl)
      all_goals try (have ea : implAt a b i = a.getD i default := by
                       unfold implAt
                       split
                       · exfalso; omega
                       · split
                         · rfl
                         · exfalso; omega)
      all_goals try (refine ⟨i + 1, [(0, 1)], by omega, by omega, ?_⟩)
      all_goals first
        | (have hi' : i = max a.length b.length := by omega
           rw [← hi']
           apply exU'; refine ⟨[(0, 1)], [], trivial, ?_⟩
           repeat' (first | exact trivial | exact ⟨trivial⟩ | exact Side.mk rfl | exact sF1 rfl | exact Chk.mk (by kernel_rfl) | exact ⟨Chk.mk (by kernel_rfl)⟩ | exact ⟨e0⟩ | exact ⟨e0.symm⟩ | exact sMapF Vote.flat | exact ⟨by rw [e0, List.length_map]⟩ | refine And.intro ?_ ?_ | rfl))
        | (have e3 := eb
           repeat' (first | exact trivial | exact ⟨trivial⟩ | exact Side.mk rfl | exact sF1 rfl | exact Chk.mk (by kernel_rfl) | exact ⟨Chk.mk (by kernel_rfl)⟩ | exact sMapF Vote.flat | exact sUp eb rfl | exact sUpL rfl rfl | exact sUpL2 rfl rfl | exact ⟨by rw [wrapi] <;> omega⟩ | refine And.intro ?_ ?_ | rfl))
        | (have e3 := ea
           repeat' (first | exact trivial | exact ⟨trivial⟩ | exact Side.mk rfl | exact sF1 rfl | exact Chk.mk (by kernel_rfl) | exact ⟨Chk.mk (by kernel_rfl)⟩ | exact sMapF Vote.flat | exact sUp ea rfl | exact sUpL rfl rfl | exact sUpL2 rfl rfl | exact ⟨by rw [wrapi] <;> omega⟩ | refine And.intro ?_ ?_ | rfl))
  · exfalso; simp_all
end Mg

/- Promises and votes, by what they come to. No condition. -/
namespace Mg
open Go Go.RowKit
set_option maxRecDepth 100000
set_option linter.unusedVariables false
set_option linter.unusedSimpArgs false
attribute [local irreducible] W Pure Con
theorem con_arg {f : Nat} {xs ys : List MV} {os : List Ob} {k : Nat} {D : Type} {p : D → Prop} {r : D → MV} {os' : D → List Ob} (h : Con PP f xs os k p r os') (e : ys = xs) : Con PP f ys os k p r os' := e ▸ h
def accPromise (a : Acc) (bal : Int) : Acc × Bool := if accOk a = true then (if inr bal 1 3000 = true ∧ ¬ bal < a.p then (⟨bal, a.votes⟩, true) else (a, false)) else (⟨0, []⟩, false)
def padV (vs : List Vote) (n : Nat) : List Vote := vs ++ List.replicate (n - vs.length) default
def accVote (a : Acc) (bal slot : Int) (e : Entry) : Acc × Bool :=
  if (accPromise a bal).2 = true then (if inr slot 0 39 = true ∧ entryOk e = true then (⟨bal, (padV a.votes (slot.toNat + 1)).set slot.toNat ⟨bal, e⟩⟩, true) else (a, false)) else ((accPromise a bal).1, false)
theorem padV_step {vs d : List Vote} {n : Nat} (h : padV d n = padV vs n) (hl : d.length < n) : padV (d ++ [default]) n = padV vs n := by
  rw [← h]
  unfold padV
  rw [List.append_assoc, List.length_append]
  congr 1
  have : n - d.length = (n - (d.length + 1)) + 1 := by omega
  rw [this, List.replicate_succ]; rfl
theorem padV_end {d : List Vote} {n : Nat} (hl : n ≤ d.length) : padV d n = d := by
  unfold padV
  rw [Nat.sub_eq_zero_of_le hl]; simp
theorem c_copied_VoteU (vs : List Vote) (hx : vs.length ≤ lim) : Con PP 87 [.one (.fz (vs.map Vote.cells))] [] 0 (fun _ : Unit => True) (fun _ => .one (.ref 0 0 vs.length)) (fun _ => [.arr (vs.map Vote.cells)]) := by
  have hx0 : vs.length ≤ 1048576 := hx
  refine Con.vc [(700000, .row [])] TTok hmo Go.Proofs.Try.func87 rfl (by kernel_rfl) rfl (by kernel_rfl) ?_
  repeat' (first | refine And.intro ?_ ?_ | exact tf | exact ft | refine tt ?_ | refine ff ?_ | exact ⟨trivial⟩ | exact sAll rfl | exact sF1 rfl | exact sBld (by repeat' (first | exact trivial | rfl | exact Nat.le_of_ble_eq_true rfl | refine And.intro ?_ ?_)) rfl | exact sBS (by repeat' (first | exact trivial | rfl | exact Nat.le_of_ble_eq_true rfl | refine And.intro ?_ ?_)) rfl rfl rfl rfl | exact sBSF (by repeat' (first | exact trivial | rfl | exact Nat.le_of_ble_eq_true rfl | refine And.intro ?_ ?_)) rfl rfl rfl rfl | exact sLe rfl | exact Chk.mk (by kernel_rfl) | exact ⟨Chk.mk (by kernel_rfl)⟩ | exact sLeEq rfl rfl | refine fun h => ?_)
  · have h0 : vs = [] := by simp at h; exact h
    subst h0
    refine W.vslot 2 rfl (W.ret ?_)
    refine ⟨⟨trivial, trivial⟩, ?_⟩
    apply exU'; refine ⟨[], [], trivial, ?_⟩
    repeat' (first | exact trivial | exact ⟨trivial⟩ | exact Side.mk rfl | exact sF1 rfl | exact Chk.mk (by kernel_rfl) | exact ⟨Chk.mk (by kernel_rfl)⟩ | exact sMapF Vote.flat | refine And.intro ?_ ?_ | rfl)
  · exact sMk hx0 rfl
  · have h0 : 0 < vs.length := Nat.pos_of_ne_zero (fun e => by rw [List.length_map, e] at h; revert h; decide)
    exact sCp rfl (by simp) (by simp) h0 rfl (fun _ => rfl)
  · refine W.ret ?_
    refine ⟨⟨trivial, trivial⟩, ?_⟩
    apply exU'; refine ⟨[], [], trivial, ?_⟩
    repeat' (first | exact trivial | exact ⟨trivial⟩ | exact Side.mk rfl | exact sF1 rfl | exact Chk.mk (by kernel_rfl) | exact ⟨Chk.mk (by kernel_rfl)⟩ | exact sMapF Vote.flat | refine And.intro ?_ ?_ | rfl)
    all_goals exact ⟨by simp⟩
theorem c_votesCopyU (vs : List Vote) (hx : vs.length ≤ lim) (hv : VsOk lim vs) : Con PP 56 [.one (.fz (vs.map Vote.cells))] [] 0 (fun _ : Unit => True) (fun _ => .one (.ref 0 0 vs.length)) (fun _ => [.arr (vs.map Vote.cells)]) := by
  have hx0 : vs.length ≤ 1048576 := hx
  refine Con.vc [(6, .con false [] [] [] (sCpV vs.length))] TTok hmo Go.Proofs.Try.func56 rfl (by kernel_rfl) rfl (by kernel_rfl) ?_
  repeat' (first | refine And.intro ?_ ?_ | exact tf | exact ft | refine tt ?_ | refine ff ?_ | exact ⟨trivial⟩ | exact sAll rfl | exact sF1 rfl | exact sBld (by repeat' (first | exact trivial | rfl | exact Nat.le_of_ble_eq_true rfl | refine And.intro ?_ ?_)) rfl | exact sBS (by repeat' (first | exact trivial | rfl | exact Nat.le_of_ble_eq_true rfl | refine And.intro ?_ ?_)) rfl rfl rfl rfl | exact sBSF (by repeat' (first | exact trivial | rfl | exact Nat.le_of_ble_eq_true rfl | refine And.intro ?_ ?_)) rfl rfl rfl rfl | exact sLe rfl | exact Chk.mk (by kernel_rfl) | exact ⟨Chk.mk (by kernel_rfl)⟩ | exact sLeEq rfl rfl | refine fun h => ?_)
  · exact ⟨c_copied_VoteU vs hx⟩
  · exact ⟨fun _ _ => trivial⟩
  · exact ⟨fun _ _ => ⟨allF Vote.frz, trivial⟩⟩
  · refine W.loopC (D := Nat) (fun i => [(18, .res (.agg (vs.getD i default).e.cells)), (19, .res (.agg (vs.getD i default).e.cells))]) TTok hmo (fun i => ⟨24, 1, [(3, .one (.ref 0 0 vs.length)), (8, oi vs.length), (9, oi i)], [(0, .arr (vs.map Vote.cells))]⟩) (fun i => vs.length - i) (fun i => i ≤ vs.length) 0 [] (Nat.zero_le _) ?_ ?_
    · repeat' (first | exact trivial | exact ⟨trivial⟩ | exact Side.mk rfl | exact sF1 rfl | exact Chk.mk (by kernel_rfl) | exact ⟨Chk.mk (by kernel_rfl)⟩ | exact sMapF Vote.flat | refine And.intro ?_ ?_ | rfl)
    · intro i hi
      repeat' (first | refine And.intro ?_ ?_ | exact tf | exact ft | refine tt ?_ | refine ff ?_ | exact ⟨trivial⟩ | exact sAll rfl | exact sF1 rfl | exact sBld (by repeat' (first | exact trivial | rfl | exact Nat.le_of_ble_eq_true rfl | refine And.intro ?_ ?_)) rfl | exact sBS (by repeat' (first | exact trivial | rfl | exact Nat.le_of_ble_eq_true rfl | refine And.intro ?_ ?_)) rfl rfl rfl rfl | exact sBSF (by repeat' (first | exact trivial | rfl | exact Nat.le_of_ble_eq_true rfl | refine And.intro ?_ ?_)) rfl rfl rfl rfl | exact sLe rfl | exact Chk.mk (by kernel_rfl) | exact ⟨Chk.mk (by kernel_rfl)⟩ | exact sLeEq rfl rfl | exact sAnd (by repeat' constructor) (c_entryCopy _ (hv _ (getD_mem (by have := of_decide_eq_true h; omega)))) | refine fun h => ?_)
      all_goals try (have hl := of_decide_eq_true h)
      all_goals try (exact sIxO (c := Vote.cells) (k := (i : Int)) (by omega) (by omega) rfl (fun _ => rfl))
      all_goals try (exact sLdA (c := Vote.cells) (xs := vs) (k := i) (by omega) (Nat.le_of_ble_eq_true rfl) rfl)
      all_goals try (exact sSt (c := Vote.cells) (m := 8) (k := i) (xs := vs) (by omega) (fun _ => rfl) rfl rfl)
      all_goals try (first | exact ⟨trivial, trivial⟩ | exact ⟨Nat.le_of_ble_eq_true rfl, trivial⟩ | exact ⟨trivial, Nat.le_of_ble_eq_true rfl, trivial⟩ | exact ⟨Nat.le_of_ble_eq_true rfl, trivial, trivial⟩)
      · refine ⟨i + 1, [], by omega, by omega, ?_⟩
        repeat' (first | exact trivial | exact ⟨trivial⟩ | exact Side.mk rfl | exact sF1 rfl | exact Chk.mk (by kernel_rfl) | exact ⟨Chk.mk (by kernel_rfl)⟩ | exact sMapF Vote.flat | exact sSame (k := i) (by omega) (by rw [mapGet (by omega)]; rfl) | exact ⟨by rw [wrapi] <;> omega⟩ | exact ⟨by simp⟩ | refine And.intro ?_ ?_ | rfl)
      · apply exU'; refine ⟨[], [], trivial, ?_⟩
        repeat' (first | exact trivial | exact ⟨trivial⟩ | exact Side.mk rfl | exact sF1 rfl | exact Chk.mk (by kernel_rfl) | exact ⟨Chk.mk (by kernel_rfl)⟩ | exact sMapF Vote.flat | refine And.intro ?_ ?_ | rfl)
theorem c_accCopyU (a : Acc) (ha : a.ok lim) : Con PP 59 [.agg a.cells] [] 0 (fun _ : Unit => True) (fun _ => .agg [i6 a.p, .ref 0 0 a.votes.length]) (fun _ => [.arr (a.votes.map Vote.cells)]) := by
  refine Con.vc [(7, .con false [] [] [] (sCpV a.votes.length)), (900001, .row [i6 0, i6 1, i6 2, i6 3, i6 4, i6 5, i6 6])] TTok hmo Go.Proofs.Try.func59 rfl (by kernel_rfl) rfl (by kernel_rfl) ?_
  repeat' (first | refine And.intro ?_ ?_ | exact tf | exact ft | refine tt ?_ | refine ff ?_ | exact ⟨trivial⟩ | exact sAll rfl | exact sF1 rfl | exact sBld (by repeat' (first | exact trivial | rfl | exact Nat.le_of_ble_eq_true rfl | refine And.intro ?_ ?_)) rfl | exact sBS (by repeat' (first | exact trivial | rfl | exact Nat.le_of_ble_eq_true rfl | refine And.intro ?_ ?_)) rfl rfl rfl rfl | exact sBSF (by repeat' (first | exact trivial | rfl | exact Nat.le_of_ble_eq_true rfl | refine And.intro ?_ ?_)) rfl rfl rfl rfl | exact sLe rfl | exact Chk.mk (by kernel_rfl) | exact ⟨Chk.mk (by kernel_rfl)⟩ | exact sLeEq rfl rfl | refine fun h => ?_)
  all_goals try dsimp only [sCpV] at *
  all_goals try (exact ⟨rfl⟩)
  all_goals try (exact trivial)
  all_goals try (exact ⟨fun _ _ => trivial⟩)
  all_goals try (exact ⟨fun _ _ => ⟨allF Vote.frz, trivial⟩⟩)
  all_goals try (exact ⟨c_votesCopyU _ ha.1 ha.2⟩)
  all_goals try (first | exact ⟨trivial, trivial⟩ | exact ⟨Nat.le_of_ble_eq_true rfl, trivial⟩ | exact ⟨trivial, Nat.le_of_ble_eq_true rfl, trivial⟩ | exact ⟨Nat.le_of_ble_eq_true rfl, trivial, trivial⟩)
  all_goals (apply exU'; refine ⟨[(0, 2)], [], trivial, ?_⟩)
  all_goals repeat' (first | exact trivial | exact ⟨trivial⟩ | exact Side.mk rfl | exact sF1 rfl | exact Chk.mk (by kernel_rfl) | exact ⟨Chk.mk (by kernel_rfl)⟩ | exact sMapF Vote.flat | refine And.intro ?_ ?_ | rfl)
theorem c_accCopyF (a : Acc) (ha : a.ok lim) : Con PP 59 [.agg a.cells] [] 0 (fun _ : Unit => True) (fun _ => .agg a.cells) (fun _ => []) := by
  refine Con.vc [(7, .con false [] [] [] sFz), (900001, .row [i6 0, i6 1, i6 2, i6 3, i6 4, i6 5, i6 6])] TTok hmo Go.Proofs.Try.func59 rfl (by kernel_rfl) rfl (by kernel_rfl) ?_
  repeat' (first | refine And.intro ?_ ?_ | exact tf | exact ft | refine tt ?_ | refine ff ?_ | exact ⟨trivial⟩ | exact sAll rfl | exact sF1 rfl | exact sBld (by repeat' (first | exact trivial | rfl | exact Nat.le_of_ble_eq_true rfl | refine And.intro ?_ ?_)) rfl | exact sBS (by repeat' (first | exact trivial | rfl | exact Nat.le_of_ble_eq_true rfl | refine And.intro ?_ ?_)) rfl rfl rfl rfl | exact sBSF (by repeat' (first | exact trivial | rfl | exact Nat.le_of_ble_eq_true rfl | refine And.intro ?_ ?_)) rfl rfl rfl rfl | exact sLe rfl | exact Chk.mk (by kernel_rfl) | exact ⟨Chk.mk (by kernel_rfl)⟩ | exact sLeEq rfl rfl | refine fun h => ?_)
  all_goals try dsimp only [sFz] at *
  all_goals try (exact ⟨rfl⟩)
  all_goals try (exact trivial)
  all_goals try (exact ⟨fun _ _ => trivial⟩)
  all_goals try (exact ⟨c_votesCopy _ ha.1 ha.2⟩)
  all_goals try (first | exact ⟨trivial, trivial⟩ | exact ⟨Nat.le_of_ble_eq_true rfl, trivial⟩ | exact ⟨trivial, Nat.le_of_ble_eq_true rfl, trivial⟩ | exact ⟨Nat.le_of_ble_eq_true rfl, trivial, trivial⟩)
  all_goals (apply exU'; refine ⟨[], [], trivial, ?_⟩)
  all_goals repeat' (first | exact trivial | exact ⟨trivial⟩ | exact Side.mk rfl | exact sF1 rfl | exact Chk.mk (by kernel_rfl) | exact ⟨Chk.mk (by kernel_rfl)⟩ | refine And.intro ?_ ?_ | rfl)
def tAcc (vs : List Vote) (p : Int) (b : Bool) : ConT := ⟨Unit, fun _ => True, fun _ => .tup [.agg [i6 p, .ref 0 0 vs.length], ob b], fun _ => [.arr (vs.map Vote.cells)]⟩
theorem c_AccPromiseU (a : Acc) (ha : a.ok lim) (bal : Int) : Con PP 22 [.agg a.cells, oi bal] [] 0 (tAcc (accPromise a bal).1.votes (accPromise a bal).1.p (accPromise a bal).2).p (tAcc (accPromise a bal).1.votes (accPromise a bal).1.p (accPromise a bal).2).r (tAcc (accPromise a bal).1.votes (accPromise a bal).1.p (accPromise a bal).2).os := by
  generalize hq : accPromise a bal = q
  unfold accPromise at hq
  refine Con.vc [(8, .res (ob (accOk a))), (12, .con false [] [] [] (fun _ _ => ⟨Unit, fun _ => True, fun _ => .agg [i6 a.p, .ref 0 0 a.votes.length], fun _ => [.arr (a.votes.map Vote.cells)]⟩)), (14, .res (ob (inr bal 1 3000))), (700000, .row [])] TTok hmo Go.Proofs.Try.func22 rfl (by kernel_rfl) rfl (by kernel_rfl) ?_
  repeat' (first | refine And.intro ?_ ?_ | exact tf | exact ft | refine tt ?_ | refine ff ?_ | exact ⟨trivial⟩ | exact sAll rfl | exact sF1 rfl | exact sBld (by repeat' (first | exact trivial | rfl | exact Nat.le_of_ble_eq_true rfl | refine And.intro ?_ ?_)) rfl | exact sBS (by repeat' (first | exact trivial | rfl | exact Nat.le_of_ble_eq_true rfl | refine And.intro ?_ ?_)) rfl rfl rfl rfl | exact sBSF (by repeat' (first | exact trivial | rfl | exact Nat.le_of_ble_eq_true rfl | refine And.intro ?_ ?_)) rfl rfl rfl rfl | exact sLe rfl | exact Chk.mk (by kernel_rfl) | exact ⟨Chk.mk (by kernel_rfl)⟩ | exact sLeEq rfl rfl | exact sAnd (by repeat' constructor) (c_impl_AccOk a ha) | exact sAnd (by repeat' constructor) (c_impl_in _ _ _) | refine fun h => ?_)
  all_goals try (exact ⟨c_accCopyU a ha⟩)
  all_goals try (exact ⟨fun _ _ => trivial⟩)
  all_goals try (exact ⟨fun _ _ => ⟨allF Vote.frz, trivial⟩⟩)
  · obtain rfl : (⟨0, []⟩, false) = q := by rw [← hq, if_neg (by simp_all)]
    refine W.vbox 1 1 rfl (W.ret ?_)
    refine ⟨⟨Nat.le_of_ble_eq_true rfl, trivial, trivial⟩, ?_⟩
    apply exU'; refine ⟨[(0, 2)], [], trivial, ?_⟩
    repeat' (first | exact trivial | exact ⟨trivial⟩ | exact Side.mk rfl | exact sF1 rfl | exact Chk.mk (by kernel_rfl) | exact ⟨Chk.mk (by kernel_rfl)⟩ | exact sMapF Vote.flat | refine And.intro ?_ ?_ | rfl)
  all_goals refine W.ret ⟨⟨Nat.le_of_ble_eq_true rfl, trivial, trivial⟩, ?_⟩
  · obtain rfl : (a, false) = q := by rw [← hq, if_pos (by simp_all), if_neg (by simp_all)]
    apply exU'; refine ⟨[(0, 2)], [], trivial, ?_⟩
    repeat' (first | exact trivial | exact ⟨trivial⟩ | exact Side.mk rfl | exact sF1 rfl | exact Chk.mk (by kernel_rfl) | exact ⟨Chk.mk (by kernel_rfl)⟩ | exact sMapF Vote.flat | refine And.intro ?_ ?_ | rfl)
  · obtain rfl : (⟨bal, a.votes⟩, true) = q := by rw [← hq, if_pos (by simp_all), if_pos (by simp_all)]
    apply exU'; refine ⟨[(0, 2)], [], trivial, ?_⟩
    repeat' (first | exact trivial | exact ⟨trivial⟩ | exact Side.mk rfl | exact sF1 rfl | exact Chk.mk (by kernel_rfl) | exact ⟨Chk.mk (by kernel_rfl)⟩ | exact sMapF Vote.flat | refine And.intro ?_ ?_ | rfl)
  · obtain rfl : (a, false) = q := by rw [← hq, if_pos (by simp_all), if_neg (by simp_all)]
    apply exU'; refine ⟨[(0, 2)], [], trivial, ?_⟩
    repeat' (first | exact trivial | exact ⟨trivial⟩ | exact Side.mk rfl | exact sF1 rfl | exact Chk.mk (by kernel_rfl) | exact ⟨Chk.mk (by kernel_rfl)⟩ | exact sMapF Vote.flat | refine And.intro ?_ ?_ | rfl)
def fAcc (a : Acc) (b : Bool) : ConT := ⟨Unit, fun _ => True, fun _ => .tup [.agg a.cells, ob b], fun _ => []⟩
/-- Handed on as frozen. -/
theorem c_AccPromiseF (a : Acc) (ha : a.ok lim) (bal : Int) : Con PP 22 [.agg a.cells, oi bal] [] 0 (fAcc (accPromise a bal).1 (accPromise a bal).2).p (fAcc (accPromise a bal).1 (accPromise a bal).2).r (fAcc (accPromise a bal).1 (accPromise a bal).2).os := by
  generalize hq : accPromise a bal = q
  unfold accPromise at hq
  refine Con.vc [(8, .res (ob (accOk a))), (12, .con false [] [] [] (fun _ _ => ⟨Unit, fun _ => True, fun _ => .agg a.cells, fun _ => []⟩)), (14, .res (ob (inr bal 1 3000)))] TTok hmo Go.Proofs.Try.func22 rfl (by kernel_rfl) rfl (by kernel_rfl) ?_
  repeat' (first | refine And.intro ?_ ?_ | exact tf | exact ft | refine tt ?_ | refine ff ?_ | exact ⟨trivial⟩ | exact sAll rfl | exact sF1 rfl | exact sBld (by repeat' (first | exact trivial | rfl | exact Nat.le_of_ble_eq_true rfl | refine And.intro ?_ ?_)) rfl | exact sBS (by repeat' (first | exact trivial | rfl | exact Nat.le_of_ble_eq_true rfl | refine And.intro ?_ ?_)) rfl rfl rfl rfl | exact sBSF (by repeat' (first | exact trivial | rfl | exact Nat.le_of_ble_eq_true rfl | refine And.intro ?_ ?_)) rfl rfl rfl rfl | exact sLe rfl | exact Chk.mk (by kernel_rfl) | exact ⟨Chk.mk (by kernel_rfl)⟩ | exact sLeEq rfl rfl | exact sAnd (by repeat' constructor) (c_impl_AccOk a ha) | exact sAnd (by repeat' constructor) (c_impl_in _ _ _) | refine fun h => ?_)
  all_goals try (exact ⟨c_accCopyF a ha⟩)
  all_goals try (exact ⟨fun _ _ => trivial⟩)
  all_goals try (exact ⟨Nat.le_of_ble_eq_true rfl, trivial, trivial⟩)
  · obtain rfl : (⟨0, []⟩, false) = q := by rw [← hq, if_neg (by simp_all)]
    apply exU'; refine ⟨[], [], trivial, ?_⟩
    repeat' (first | exact trivial | exact ⟨trivial⟩ | exact Side.mk rfl | exact sF1 rfl | exact Chk.mk (by kernel_rfl) | exact ⟨Chk.mk (by kernel_rfl)⟩ | refine And.intro ?_ ?_ | rfl)
  · obtain rfl : (a, false) = q := by rw [← hq, if_pos (by simp_all), if_neg (by simp_all)]
    apply exU'; refine ⟨[], [], trivial, ?_⟩
    repeat' (first | exact trivial | exact ⟨trivial⟩ | exact Side.mk rfl | exact sF1 rfl | exact Chk.mk (by kernel_rfl) | exact ⟨Chk.mk (by kernel_rfl)⟩ | refine And.intro ?_ ?_ | rfl)
  · obtain rfl : (⟨bal, a.votes⟩, true) = q := by rw [← hq, if_pos (by simp_all), if_pos (by simp_all)]
    apply exU'; refine ⟨[], [], trivial, ?_⟩
    repeat' (first | exact trivial | exact ⟨trivial⟩ | exact Side.mk rfl | exact sF1 rfl | exact Chk.mk (by kernel_rfl) | exact ⟨Chk.mk (by kernel_rfl)⟩ | refine And.intro ?_ ?_ | rfl)
  · obtain rfl : (a, false) = q := by rw [← hq, if_pos (by simp_all), if_neg (by simp_all)]
    apply exU'; refine ⟨[], [], trivial, ?_⟩
    repeat' (first | exact trivial | exact ⟨trivial⟩ | exact Side.mk rfl | exact sF1 rfl | exact Chk.mk (by kernel_rfl) | exact ⟨Chk.mk (by kernel_rfl)⟩ | refine And.intro ?_ ?_ | rfl)
theorem accPromise_t {a : Acc} {bal : Int} (h : (accPromise a bal).2 = true) : (accPromise a bal).1 = ⟨bal, a.votes⟩ := by
  unfold accPromise at h ⊢
  split at h
  · rename_i h1
    rw [if_pos h1]
    split at h
    · rename_i h2; rw [if_pos h2]
    · cases h
  · cases h
theorem accPromise_l {a : Acc} {bal : Int} (h : (accPromise a bal).2 = true) : a.votes.length ≤ 40 := by
  unfold accPromise at h
  split at h
  · rename_i h1
    simp only [accOk, votesOk, Bool.and_eq_true, decide_eq_true_eq] at h1
    exact h1.1.2.1
  · cases h
set_option maxHeartbeats 4000000 in
theorem c_AccVoteF (a : Acc) (ha : a.ok lim) (bal slot : Int) (e : Entry) (he : e.ok lim) : Con PP 23 [.agg a.cells, oi bal, oi slot, .agg e.cells] [] 0 (fAcc (accVote a bal slot e).1 (accVote a bal slot e).2).p (fAcc (accVote a bal slot e).1 (accVote a bal slot e).2).r (fAcc (accVote a bal slot e).1 (accVote a bal slot e).2).os := by
  generalize hq : accVote a bal slot e = q
  unfold accVote at hq
  have cP := c_AccPromiseU a ha bal
  have hT := accPromise_t (a := a) (bal := bal)
  have hL := accPromise_l (a := a) (bal := bal)
  generalize accPromise a bal = pr at *
  obtain ⟨⟨p1, vs⟩, b1⟩ := pr
  dsimp only at hq cP hT hL
  have hal : a.votes.length ≤ 1048576 := ha.1
  refine Con.vc [(15, .con false [] [] [] (fun _ _ => tAcc vs p1 b1)), (22, .res (ob (inr slot 0 39))), (26, .res (ob (entryOk e))), (30, .con false [] [] [] (fun _ _ => ⟨Unit, fun _ => True, fun _ => .agg a.cells, fun _ => []⟩)), (800008, .row [])] TTok hmo Go.Proofs.Try.func23 rfl (by kernel_rfl) rfl (by kernel_rfl) ?_
  repeat' (first | refine And.intro ?_ ?_ | exact tf | exact ft | refine tt ?_ | refine ff ?_ | exact ⟨trivial⟩ | exact sAll rfl | exact sF1 rfl | exact sBld (by repeat' (first | exact trivial | rfl | exact Nat.le_of_ble_eq_true rfl | refine And.intro ?_ ?_)) rfl | exact sBS (by repeat' (first | exact trivial | rfl | exact Nat.le_of_ble_eq_true rfl | refine And.intro ?_ ?_)) rfl rfl rfl rfl | exact sBSF (by repeat' (first | exact trivial | rfl | exact Nat.le_of_ble_eq_true rfl | refine And.intro ?_ ?_)) rfl rfl rfl rfl | exact sLe rfl | exact Chk.mk (by kernel_rfl) | exact ⟨Chk.mk (by kernel_rfl)⟩ | exact sLeEq rfl rfl | exact sAnd (by repeat' constructor) (c_impl_in _ _ _) | exact sAnd (by repeat' constructor) (c_impl_CertEntry e he) | refine fun h => ?_)
  all_goals try dsimp only [tAcc] at *
  all_goals try (exact ⟨cP⟩)
  all_goals try (exact ⟨c_accCopyF a ha⟩)
  all_goals try (exact ⟨fun _ _ => trivial⟩)
  all_goals try (exact ⟨fun _ _ => ⟨allF Vote.frz, trivial⟩⟩)
  all_goals try (exact ⟨Nat.le_of_ble_eq_true rfl, trivial, trivial⟩)
  · have hb : b1 = false := by cases b1 <;> simp_all
    subst hb
    obtain rfl : (⟨p1, vs⟩, false) = q := by rw [← hq, if_neg (by decide)]
    apply exU'; refine ⟨[], [3], trivial, ?_⟩
    repeat' (first | exact trivial | exact ⟨trivial⟩ | exact Side.mk rfl | exact sF1 rfl | exact Chk.mk (by kernel_rfl) | exact ⟨Chk.mk (by kernel_rfl)⟩ | exact sMapZ Vote.frz | exact sFzE rfl | refine And.intro ?_ ?_ | rfl)
  · have hb : b1 = true := by cases b1 <;> simp_all
    subst hb
    obtain rfl : (a, false) = q := by rw [← hq, if_pos rfl, if_neg (by simp_all)]
    apply exU'; refine ⟨[], [], trivial, ?_⟩
    repeat' (first | exact trivial | exact ⟨trivial⟩ | exact Side.mk rfl | exact sF1 rfl | exact Chk.mk (by kernel_rfl) | exact ⟨Chk.mk (by kernel_rfl)⟩ | refine And.intro ?_ ?_ | rfl)
  · have hb : b1 = true := by cases b1 <;> simp_all
    subst hb
    have hs : 0 ≤ slot ∧ slot ≤ 39 := inr_iff.1 (by simp_all)
    obtain rfl : (⟨bal, (padV a.votes (slot.toNat + 1)).set slot.toNat ⟨bal, e⟩⟩, true) = q := by rw [← hq, if_pos rfl, if_pos ⟨by simp_all, by simp_all⟩]
    obtain ⟨hp1, hvs⟩ := Acc.mk.inj (hT rfl)
    obtain rfl := hp1.symm
    have hL := hL rfl
    obtain rfl := hvs.symm
    refine W.loopC (D := List Vote) (fun d => [(39, .row [])]) TTok hmo
      (fun d => ⟨51, 6, [(1, oi bal), (2, oi slot), (7, .one (.ptr 1 0 0)), (8, .one (.ptr 2 0 0)), (10, .one (.ptr 4 0 0))],
        [(5, .arr (d.map Vote.cells)), (1, .box e.cells), (2, .box [i6 0, .nil]), (4, .box [i6 bal, .ref 5 0 d.length])]⟩) (fun d => slot.toNat + 1 - d.length)
      (fun d => d.length ≤ max a.votes.length (slot.toNat + 1) ∧ VsOk lim d ∧ padV d (slot.toNat + 1) = padV a.votes (slot.toNat + 1)) a.votes [(5, 3)] ⟨by omega, ha.2, rfl⟩ ?_ ?_
    · repeat' (first | exact trivial | exact ⟨trivial⟩ | exact Side.mk rfl | exact sF1 rfl | exact Chk.mk (by kernel_rfl) | exact ⟨Chk.mk (by kernel_rfl)⟩ | exact sMapF Vote.flat | refine And.intro ?_ ?_ | rfl)
    · intro d ⟨h1, h2, h3⟩
      repeat' (first | refine And.intro ?_ ?_ | exact tf | exact ft | refine tt ?_ | refine ff ?_ | exact ⟨trivial⟩ | exact sAll rfl | exact sF1 rfl | exact sBld (by repeat' (first | exact trivial | rfl | exact Nat.le_of_ble_eq_true rfl | refine And.intro ?_ ?_)) rfl | exact sBS (by repeat' (first | exact trivial | rfl | exact Nat.le_of_ble_eq_true rfl | refine And.intro ?_ ?_)) rfl rfl rfl rfl | exact sBSF (by repeat' (first | exact trivial | rfl | exact Nat.le_of_ble_eq_true rfl | refine And.intro ?_ ?_)) rfl rfl rfl rfl | exact sLe rfl | exact Chk.mk (by kernel_rfl) | exact ⟨Chk.mk (by kernel_rfl)⟩ | exact sLeEq rfl rfl | refine fun h => ?_)
      all_goals try (exact sApp (xs := d) (c := Vote.cells) (by simp) (fun _ => rfl) rfl (by omega) rfl rfl)
      all_goals try (first | exact ⟨trivial, trivial⟩ | exact ⟨Nat.le_of_ble_eq_true rfl, trivial⟩ | exact ⟨trivial, Nat.le_of_ble_eq_true rfl, trivial⟩ | exact ⟨Nat.le_of_ble_eq_true rfl, trivial, trivial⟩)
      all_goals simp only [decide_eq_true_eq, decide_eq_false_iff_not, List.length_map, Bool.not_eq_true', Bool.not_eq_false', Bool.not_eq_eq_eq_not, Bool.not_true, Bool.not_false, bne_iff_ne, ne_eq, bne_eq_false_iff_eq, beq_iff_eq, beq_eq_false_iff_ne] at *
      · refine ⟨d ++ [default], [(5, 6)], by simp; omega, ⟨by simp; omega, VsOk.app h2 ⟨Nat.zero_le _, Nat.zero_le _⟩, padV_step h3 (by omega)⟩, ?_⟩
        repeat' (first | exact trivial | exact ⟨trivial⟩ | exact Side.mk rfl | exact sF1 rfl | exact Chk.mk (by kernel_rfl) | exact ⟨Chk.mk (by kernel_rfl)⟩ | exact sAppR rfl | exact sAppL rfl rfl | exact sAppL2 rfl rfl | exact sMapF Vote.flat | refine And.intro ?_ ?_ | rfl)
      · have hd : padV a.votes (slot.toNat + 1) = d := h3.symm.trans (padV_end (by omega))
        rw [hd]
        have Vs : VsOk lim (d.set slot.toNat ⟨bal, e⟩) := VsOk.set h2 he
        refine W.go [(50, .con false [] [] [5] (fun _ _ => ⟨Unit, fun _ => True, fun _ => .agg (Acc.cells ⟨bal, d.set slot.toNat ⟨bal, e⟩⟩), fun _ => []⟩))] TTok hmo ?_
        repeat' (first | refine And.intro ?_ ?_ | exact tf | exact ft | refine tt ?_ | refine ff ?_ | exact ⟨trivial⟩ | exact sAll rfl | exact sF1 rfl | exact sBld (by repeat' (first | exact trivial | rfl | exact Nat.le_of_ble_eq_true rfl | refine And.intro ?_ ?_)) rfl | exact sBS (by repeat' (first | exact trivial | rfl | exact Nat.le_of_ble_eq_true rfl | refine And.intro ?_ ?_)) rfl rfl rfl rfl | exact sBSF (by repeat' (first | exact trivial | rfl | exact Nat.le_of_ble_eq_true rfl | refine And.intro ?_ ?_)) rfl rfl rfl rfl | exact sLe rfl | exact Chk.mk (by kernel_rfl) | exact ⟨Chk.mk (by kernel_rfl)⟩ | exact sLeEq rfl rfl | refine fun h => ?_)
        have hset : ∀ r, r = putAt ((d.map Vote.cells).getD (0 + slot.toNat) []) 0 (⟨bal, e⟩ : Vote).cells → (d.map Vote.cells).set (0 + slot.toNat) r = (d.set slot.toNat ⟨bal, e⟩).map Vote.cells := fun r hr => by
          rw [hr]; exact (setMap (c := Vote.cells) (by rw [mapGet (by omega)]; rfl)).symm
        · exact sIxO (c := Vote.cells) (by omega) (by omega) rfl (fun _ => rfl)
        · exact sSt (c := Vote.cells) (m := 8) (xs := d) (by omega) (fun _ => rfl) rfl rfl
        · refine ⟨?_, trivial⟩
          rw [show (d.map Vote.cells).set (0 + slot.toNat) _ = (d.set slot.toNat ⟨bal, e⟩).map Vote.cells from (setMap (c := Vote.cells) (by rw [mapGet (by omega)]; rfl)).symm]
          exact allF Vote.frz
        · refine ⟨con_arg (c_accCopyF ⟨bal, d.set slot.toNat ⟨bal, e⟩⟩ ⟨by show (d.set slot.toNat ⟨bal, e⟩).length ≤ 1048576; simp; omega, Vs⟩) ?_⟩
          rw [show (d.map Vote.cells).set (0 + slot.toNat) _ = (d.set slot.toNat ⟨bal, e⟩).map Vote.cells from (setMap (c := Vote.cells) (by rw [mapGet (by omega)]; rfl)).symm, l_all (by simp)]
          rfl
        · exact ⟨fun _ _ => trivial⟩
        · exact ⟨fun _ _ => trivial⟩
        · exact ⟨Nat.le_of_ble_eq_true rfl, trivial, trivial⟩
        · apply exU'; refine ⟨[], [], trivial, ?_⟩
          repeat' (first | exact trivial | exact ⟨trivial⟩ | exact Side.mk rfl | exact sF1 rfl | exact Chk.mk (by kernel_rfl) | exact ⟨Chk.mk (by kernel_rfl)⟩ | refine And.intro ?_ ?_ | rfl)
  · have hb : b1 = true := by cases b1 <;> simp_all
    subst hb
    obtain rfl : (a, false) = q := by rw [← hq, if_pos rfl, if_neg (by simp_all)]
    apply exU'; refine ⟨[], [], trivial, ?_⟩
    repeat' (first | exact trivial | exact ⟨trivial⟩ | exact Side.mk rfl | exact sF1 rfl | exact Chk.mk (by kernel_rfl) | exact ⟨Chk.mk (by kernel_rfl)⟩ | refine And.intro ?_ ?_ | rfl)
end Mg

/- The best of votes where one is of a later ballot, in plain terms. No condition. -/
namespace Mg
open Go Go.RowKit
set_option maxRecDepth 100000
set_option linter.unusedVariables false
set_option linter.unusedSimpArgs false
theorem voteOk_default : voteOk (default : Vote) = true := by decide
theorem votesOk_get {a : List Vote} (h : votesOk a = true) (i : Nat) : voteOk (a.getD i default) = true := by
  by_cases hi : i < a.length
  · exact votesOk_at h hi
  · rw [getD_none hi]; exact voteOk_default
theorem votesOk_mk {a : List Vote} (hl : a.length ≤ 40) (h : ∀ v ∈ a, voteOk v = true) : votesOk a = true := by
  simp only [votesOk, Bool.and_eq_true, decide_eq_true_eq, List.all_eq_true]
  exact ⟨hl, h⟩
theorem best_votesOk {a b : List Vote} (ha : votesOk a = true) (hb : votesOk b = true) : votesOk (bestN a b) = true := by
  refine votesOk_mk (by rw [bestN_len]; exact Nat.max_le.2 ⟨votesOk_len ha, votesOk_len hb⟩) fun v hv => ?_
  obtain ⟨i, _, rfl⟩ := List.mem_map.1 hv
  exact best_all (Q := fun v => voteOk v = true) (fun _ _ _ => votesOk_get hb i) (fun _ _ => votesOk_get ha i) (fun _ _ => voteOk_default)
theorem zeros_ok {n : Nat} (h : n ≤ 40) : votesOk (List.replicate n (default : Vote)) = true :=
  votesOk_mk (by simpa using h) fun v hv => by rw [List.eq_of_mem_replicate hv]; exact voteOk_default
theorem set_votesOk {a : List Vote} {k : Nat} {v : Vote} (ha : votesOk a = true) (hv : voteOk v = true) : votesOk (a.set k v) = true :=
  votesOk_mk (by simpa using votesOk_len ha) fun x hx => by
    rcases List.mem_or_eq_of_mem_set hx with hx | hx
    · have := ha
      simp only [votesOk, Bool.and_eq_true, List.all_eq_true] at this
      exact this.2 x hx
    · rw [hx]; exact hv
theorem top_voteOk {t : Int} (h1 : 1 ≤ t) (h2 : t ≤ 3000) : voteOk ⟨t, zeroE true⟩ = true := by
  unfold voteOk
  rw [if_neg (by simp only; omega)]
  simp only [Bool.and_eq_true]
  exact ⟨inr_iff.2 ⟨h1, h2⟩, by decide⟩
theorem accBest_of {u v : List Vote} (hu : votesOk u = true) (hv : votesOk v = true) : accBest u v = bestN u v := by unfold accBest; rw [if_pos (by rw [hu, hv]; rfl)]
theorem set_get {x : List Vote} {k : Nat} {v : Vote} (h : k < x.length) : (x.set k v).getD k default = v := by
  simp [List.getD_eq_getElem?_getD, h]
/-- The later vote is what both see. -/
theorem two_see {x b : List Vote} {k : Nat} {v : Vote} (hx : votesOk x = true) (hb : votesOk b = true) (hv : voteOk v = true) (hk : k < x.length) (hlt : (b.getD k default).bal < v.bal) (hp : 0 < v.bal) :
    (accBest (x.set k v) b).getD k default = v ∧ (accBest b (x.set k v)).getD k default = v ∧ (accBest (x.set k v) b).length = (accBest b (x.set k v)).length ∧ k < (accBest (x.set k v) b).length := by
  have hs := set_votesOk (k := k) hx hv
  have hl : (x.set k v).length = x.length := List.length_set
  rw [accBest_of hs hb, accBest_of hb hs]
  have l1 := bestN_len (x.set k v) b
  have l2 := bestN_len b (x.set k v)
  refine ⟨?_, ?_, by omega, by omega⟩
  · rw [bestN_at (by omega), best_a2 (by omega) (by rw [set_get hk]; omega), set_get hk]
  · rw [bestN_at (by omega)]
    by_cases h : k < b.length
    · rw [best_b2 h (by omega) (by rw [set_get hk]; exact hlt), set_get hk]
    · rw [best_b1 h (by omega) (by rw [set_get hk]; exact hp), set_get hk]
end Mg

/- Promises and votes in plain terms. No condition. -/
namespace Mg
open Go Go.RowKit
set_option maxRecDepth 100000
set_option linter.unusedVariables false
set_option linter.unusedSimpArgs false
theorem accOk_iff {a : Acc} : accOk a = true ↔ (0 ≤ a.p ∧ a.p ≤ 3000) ∧ votesOk a.votes = true ∧ ∀ v ∈ a.votes, v.bal ≤ a.p := by
  simp only [accOk, inr, Bool.and_eq_true, decide_eq_true_eq, List.all_eq_true, and_assoc]
theorem votesOk_iff {vs : List Vote} : votesOk vs = true ↔ vs.length ≤ 40 ∧ ∀ v ∈ vs, voteOk v = true := by
  simp only [votesOk, Bool.and_eq_true, decide_eq_true_eq, List.all_eq_true]
theorem accPromise_up {a : Acc} {b : Int} (ha : accOk a = true) (h1 : 1 ≤ b) (h2 : b ≤ 3000) (h : a.p ≤ b) : accPromise a b = (⟨b, a.votes⟩, true) := by
  unfold accPromise
  rw [if_pos ha, if_pos ⟨inr_iff.2 ⟨h1, h2⟩, by omega⟩]
theorem accPromise_no {a : Acc} {b : Int} (ha : accOk a = true) (h : ¬ (1 ≤ b ∧ b ≤ 3000 ∧ a.p ≤ b)) : accPromise a b = (a, false) := by
  unfold accPromise
  rw [if_pos ha, if_neg]
  rintro ⟨h3, h4⟩
  have := inr_iff.1 h3
  omega
theorem accPromise_bad {a : Acc} {b : Int} (ha : accOk a = false) : accPromise a b = (⟨0, []⟩, false) := by
  unfold accPromise
  rw [if_neg (by rw [ha]; decide)]
theorem accOk_up {a : Acc} {b : Int} (ha : accOk a = true) (h1 : 1 ≤ b) (h2 : b ≤ 3000) (h : a.p ≤ b) : accOk ⟨b, a.votes⟩ = true := by
  obtain ⟨_, h4, h5⟩ := accOk_iff.1 ha
  exact accOk_iff.2 ⟨⟨by dsimp only; omega, h2⟩, h4, fun v hv => Int.le_trans (h5 v hv) h⟩
theorem padV_len {vs : List Vote} {n : Nat} : (padV vs n).length = max vs.length n := by simp [padV]; omega
theorem padV_mem {vs : List Vote} {n : Nat} {v : Vote} (h : v ∈ padV vs n) : v ∈ vs ∨ v = default := by
  rcases List.mem_append.1 h with h | h
  · exact .inl h
  · exact .inr (List.eq_of_mem_replicate h)
theorem padV_get {vs : List Vote} {n i : Nat} (h : i < vs.length) : (padV vs n).getD i default = vs.getD i default := by
  simp [padV, List.getD_eq_getElem?_getD, List.getElem?_append_left h]
theorem accOk_vote {a : Acc} {b : Int} {k : Nat} {e : Entry} (ha : accOk a = true) (h1 : 1 ≤ b) (h2 : b ≤ 3000) (h : a.p ≤ b) (hk : k < 40) (he : entryOk e = true) : accOk ⟨b, (padV a.votes (k + 1)).set k ⟨b, e⟩⟩ = true := by
  obtain ⟨_, h4, h5⟩ := accOk_iff.1 ha
  obtain ⟨h6, h7⟩ := votesOk_iff.1 h4
  have hb : voteOk ⟨b, e⟩ = true := by unfold voteOk; rw [if_neg (by dsimp only; omega), inr_iff.2 ⟨h1, h2⟩, he]; rfl
  refine accOk_iff.2 ⟨⟨by dsimp only; omega, h2⟩, votesOk_iff.2 ⟨by rw [List.length_set, padV_len]; omega, fun v hv => ?_⟩, fun v hv => ?_⟩
  · rcases List.mem_or_eq_of_mem_set hv with hv | hv
    · rcases padV_mem hv with hv | hv
      · exact h7 v hv
      · rw [hv]; exact voteOk_default
    · rw [hv]; exact hb
  · rcases List.mem_or_eq_of_mem_set hv with hv | hv
    · rcases padV_mem hv with hv | hv
      · exact Int.le_trans (h5 v hv) h
      · rw [hv]; show (0 : Int) ≤ b; omega
    · rw [hv]; exact Int.le_refl b
theorem accVote_up {a : Acc} {b s : Int} {e : Entry} (ha : accOk a = true) (h1 : 1 ≤ b) (h2 : b ≤ 3000) (h : a.p ≤ b) (hs : 0 ≤ s) (hs2 : s < 40) (he : entryOk e = true) :
    accVote a b s e = (⟨b, (padV a.votes (s.toNat + 1)).set s.toNat ⟨b, e⟩⟩, true) := by
  unfold accVote
  rw [accPromise_up ha h1 h2 h]
  rw [if_pos rfl, if_pos ⟨inr_iff.2 ⟨hs, by omega⟩, he⟩]
theorem accVote_no {a : Acc} {b s : Int} {e : Entry} (ha : accOk a = true) (h : ¬ ((1 ≤ b ∧ b ≤ 3000 ∧ a.p ≤ b) ∧ (0 ≤ s ∧ s < 40) ∧ entryOk e = true)) : accVote a b s e = (a, false) := by
  unfold accVote
  by_cases g : 1 ≤ b ∧ b ≤ 3000 ∧ a.p ≤ b
  · rw [accPromise_up ha g.1 g.2.1 g.2.2, if_pos rfl, if_neg]
    rintro ⟨h3, h4⟩
    have := inr_iff.1 h3
    exact h ⟨g, ⟨by omega, by omega⟩, h4⟩
  · rw [accPromise_no ha g]; rfl
theorem accVote_bad {a : Acc} {b s : Int} {e : Entry} (ha : accOk a = false) : accVote a b s e = (⟨0, []⟩, false) := by
  unfold accVote
  rw [accPromise_bad ha]; rfl
end Mg
