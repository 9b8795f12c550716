/- Parts of the abstract state logic and of the walks, one behind the other: B7, BP, BT, R1R, R1B. No condition. -/
import Derived.Test.YtholjompohimnaaP16
import Derived.Test.YtholjompohimnaaP10
import Derived.Test.YtholjompohimnaaP12
import Derived.Test.YtholjompohimnaaP15
/- The best of votes, with a list of its own. No condition. -/
namespace Mg
open Go Go.RowKit
set_option maxRecDepth 100000
set_option linter.unusedVariables false
set_option linter.unusedSimpArgs false
attribute [local irreducible] W Pure Con
theorem c_votesCopyO (vs : List Vote) (hx : vs.length ≤ lim) (hz : 0 < vs.length) (hv : VsOk lim vs) : Con PP 56 [.one (.fz (vs.map Vote.cells))] [] 0 (fun _ : Unit => True) (fun _ => .one (.ref 0 0 vs.length)) (fun _ => [.arr (vs.map Vote.cells)]) := by
  have hx0 : vs.length ≤ 1048576 := hx
  refine Con.vc [(6, .con false [] [] [] (sCpV vs.length))] TTok hmo Go.Proofs.Try.func56 rfl (by kernel_rfl) rfl (by kernel_rfl) ?_
  repeat' (first | refine And.intro ?_ ?_ | exact tf | exact ft | refine tt ?_ | refine ff ?_ | exact ⟨trivial⟩ | exact sAll rfl | exact sF1 rfl | exact sBld (by repeat' (first | exact trivial | rfl | exact Nat.le_of_ble_eq_true rfl | refine And.intro ?_ ?_)) rfl | exact sBS (by repeat' (first | exact trivial | rfl | exact Nat.le_of_ble_eq_true rfl | refine And.intro ?_ ?_)) rfl rfl rfl rfl | exact sBSF (by repeat' (first | exact trivial | rfl | exact Nat.le_of_ble_eq_true rfl | refine And.intro ?_ ?_)) rfl rfl rfl rfl | exact sLe rfl | exact Chk.mk (by kernel_rfl) | exact ⟨Chk.mk (by kernel_rfl)⟩ | exact sLeEq rfl rfl | refine fun h => ?_)
  · exact ⟨c_copied_Vote vs hx hz⟩
  · exact ⟨fun _ _ => trivial⟩
  · exact ⟨fun _ _ => ⟨allF Vote.frz, trivial⟩⟩
  · refine W.loopC (D := Nat) (fun i => [(18, .res (.agg (vs.getD i default).e.cells)), (19, .res (.agg (vs.getD i default).e.cells))]) TTok hmo (fun i => ⟨24, 1, [(3, .one (.ref 0 0 vs.length)), (8, oi vs.length), (9, oi i)], [(0, .arr (vs.map Vote.cells))]⟩) (fun i => vs.length - i) (fun i => i ≤ vs.length) 0 [] (Nat.zero_le _) ?_ ?_
    · repeat' (first | exact trivial | exact ⟨trivial⟩ | exact Side.mk rfl | exact sF1 rfl | exact Chk.mk (by kernel_rfl) | exact ⟨Chk.mk (by kernel_rfl)⟩ | exact sMapF Vote.flat | refine And.intro ?_ ?_ | rfl)
    · intro i hi
      repeat' (first | refine And.intro ?_ ?_ | exact tf | exact ft | refine tt ?_ | refine ff ?_ | exact ⟨trivial⟩ | exact sAll rfl | exact sF1 rfl | exact sBld (by repeat' (first | exact trivial | rfl | exact Nat.le_of_ble_eq_true rfl | refine And.intro ?_ ?_)) rfl | exact sBS (by repeat' (first | exact trivial | rfl | exact Nat.le_of_ble_eq_true rfl | refine And.intro ?_ ?_)) rfl rfl rfl rfl | exact sBSF (by repeat' (first | exact trivial | rfl | exact Nat.le_of_ble_eq_true rfl | refine And.intro ?_ ?_)) rfl rfl rfl rfl | exact sLe rfl | exact Chk.mk (by kernel_rfl) | exact ⟨Chk.mk (by kernel_rfl)⟩ | exact sLeEq rfl rfl | exact sAnd (by repeat' constructor) (c_entryCopy _ (hv _ (getD_mem (by have := of_decide_eq_true h; omega)))) | refine fun h => ?_)
      all_goals try (have hl := of_decide_eq_true h)
      all_goals try (exact sIxO (c := Vote.cells) (k := (i : Int)) (by omega) (by omega) rfl (fun _ => rfl))
      all_goals try (exact sLdA (c := Vote.cells) (xs := vs) (k := i) (by omega) (Nat.le_of_ble_eq_true rfl) rfl)
      all_goals try (exact sSt (c := Vote.cells) (m := 8) (k := i) (xs := vs) (by omega) (fun _ => rfl) rfl rfl)
      all_goals try (first | exact ⟨trivial, trivial⟩ | exact ⟨Nat.le_of_ble_eq_true rfl, trivial⟩ | exact ⟨trivial, Nat.le_of_ble_eq_true rfl, trivial⟩ | exact ⟨Nat.le_of_ble_eq_true rfl, trivial, trivial⟩)
      · refine ⟨i + 1, [], by omega, by omega, ?_⟩
        repeat' (first | exact trivial | exact ⟨trivial⟩ | exact Side.mk rfl | exact sF1 rfl | exact Chk.mk (by kernel_rfl) | exact ⟨Chk.mk (by kernel_rfl)⟩ | exact sMapF Vote.flat | exact sSame (k := i) (by omega) (by rw [mapGet (by omega)]; rfl) | exact ⟨by rw [wrapi] <;> omega⟩ | exact ⟨by simp⟩ | refine And.intro ?_ ?_ | rfl)
      · apply exU'; refine ⟨[], [], trivial, ?_⟩
        repeat' (first | exact trivial | exact ⟨trivial⟩ | exact Side.mk rfl | exact sF1 rfl | exact Chk.mk (by kernel_rfl) | exact ⟨Chk.mk (by kernel_rfl)⟩ | exact sMapF Vote.flat | refine And.intro ?_ ?_ | rfl)
def sOwnV (ds : List MV) (os : List Ob) : ConT := match ds with
  | [.one (.fz rows)] => ⟨Unit, fun _ => True, fun _ => .one (.ref 0 0 rows.length), fun _ => [.arr rows]⟩
  | _ => noT
set_option maxHeartbeats 8000000 in
theorem c_AccBestO (a b : List Vote) (hk : votesOk a = true ∧ votesOk b = true) (h0 : 0 < max a.length b.length) (hal : a.length ≤ 1000000) (hbl : b.length ≤ 1000000) (ha : VsOk lim a) (hb : VsOk lim b) : Con PP 19 [.one (.fz (a.map Vote.cells)), .one (.fz (b.map Vote.cells))] [] 0
    (fun _ : Unit => True) (fun _ => .one (.ref 0 0 (accBest a b).length)) (fun _ => [.arr ((accBest a b).map Vote.cells)]) := by
  have hal' : a.length ≤ maxLen := Nat.le_trans hal (by decide)
  have hbl' : b.length ≤ maxLen := Nat.le_trans hbl (by decide)
  have hR : accBest a b = upTo (implAt a b) (max a.length b.length) := by rw [← impl_accBest, if_pos (by rw [hk.1, hk.2]; rfl)]
  rw [hR]
  refine Con.vc [(8, .res (ob (votesOk a))), (12, .res (ob (votesOk b))), (72, .con false [] [] [0] sOwnV)] TTok hmo Go.Proofs.Try.func19 rfl (by kernel_rfl) rfl (by kernel_rfl) ?_
  repeat' (first | refine And.intro ?_ ?_ | exact tf | exact ft | refine tt ?_ | refine ff ?_ | exact ⟨trivial⟩ | exact sAll rfl | exact sF1 rfl | exact sBld (by repeat' (first | exact trivial | rfl | exact Nat.le_of_ble_eq_true rfl | refine And.intro ?_ ?_)) rfl | exact sBS (by repeat' (first | exact trivial | rfl | exact Nat.le_of_ble_eq_true rfl | refine And.intro ?_ ?_)) rfl rfl rfl rfl | exact sBSF (by repeat' (first | exact trivial | rfl | exact Nat.le_of_ble_eq_true rfl | refine And.intro ?_ ?_)) rfl rfl rfl rfl | exact sLe rfl | exact Chk.mk (by kernel_rfl) | exact ⟨Chk.mk (by kernel_rfl)⟩ | exact sLeEq rfl rfl | exact sAnd (by repeat' constructor) (c_impl_votesOk a hal' ha) | exact sAnd (by repeat' constructor) (c_impl_votesOk b hbl' hb) | refine fun h => ?_)
  all_goals try (first | exact ⟨trivial, trivial⟩ | exact ⟨Nat.le_of_ble_eq_true rfl, trivial⟩ | exact ⟨trivial, Nat.le_of_ble_eq_true rfl, trivial⟩ | exact ⟨Nat.le_of_ble_eq_true rfl, trivial, trivial⟩)
  · exfalso; simp_all
  · refine W.vslot 5 rfl ?_
    refine W.loopC (D := Nat) (fun i => [(42, .row (b.getD i default).cells), (44, .row []), (54, .row (a.getD i default).cells), (59, .row (b.getD i default).cells), (67, .row (a.getD i default).cells), (69, .row []), (30, .row (b.getD i default).cells), (32, .row [])]) TTok hmo
      (fun i => ⟨73, 1, [(0, .one (.fz (a.map Vote.cells))), (1, .one (.fz (b.map Vote.cells))), (5, .one (.ref 0 0 (upTo (implAt a b) i).length)), (6, oi i)], [(0, .arr ((upTo (implAt a b) i).map Vote.cells))]⟩) (fun i => max a.length b.length - i) (fun i => i ≤ max a.length b.length) 0 [] (Nat.zero_le _) ?_ ?_
    · repeat' (first | exact trivial | exact ⟨trivial⟩ | exact Side.mk rfl | exact sF1 rfl | exact Chk.mk (by kernel_rfl) | exact ⟨Chk.mk (by kernel_rfl)⟩ | exact sMapF Vote.flat | refine And.intro ?_ ?_ | rfl)
    · intro i hi
      repeat' (first | refine And.intro ?_ ?_ | exact tf | exact ft | refine tt ?_ | refine ff ?_ | exact ⟨trivial⟩ | exact sAll rfl | exact sF1 rfl | exact sBld (by repeat' (first | exact trivial | rfl | exact Nat.le_of_ble_eq_true rfl | refine And.intro ?_ ?_)) rfl | exact sBS (by repeat' (first | exact trivial | rfl | exact Nat.le_of_ble_eq_true rfl | refine And.intro ?_ ?_)) rfl rfl rfl rfl | exact sBSF (by repeat' (first | exact trivial | rfl | exact Nat.le_of_ble_eq_true rfl | refine And.intro ?_ ?_)) rfl rfl rfl rfl | exact sLe rfl | exact Chk.mk (by kernel_rfl) | exact ⟨Chk.mk (by kernel_rfl)⟩ | exact sLeEq rfl rfl | refine fun h => ?_)
      all_goals try dsimp only [sOwnV] at *
      all_goals try (exact sApp (xs := upTo (implAt a b) i) (c := Vote.cells) (by simp) (fun _ => rfl) rfl (by rw [upTo_len]; omega) rfl rfl)
      all_goals simp only [decide_eq_true_eq, decide_eq_false_iff_not, List.length_map, Bool.not_eq_true', Bool.not_eq_false', Bool.not_eq_eq_eq_not, Bool.not_true, Bool.not_false, bne_iff_ne, ne_eq, bne_eq_false_iff_eq, beq_iff_eq, beq_eq_false_iff_ne] at *
      all_goals try (exact sRow (by omega) (by rw [Int.toNat_natCast, List.getElem?_map, List.getD_eq_getElem?_getD, List.getElem?_eq_getElem (by omega)]; rfl) rfl)
      all_goals try (exfalso; omega)
      all_goals try (exact ⟨fun _ _ => trivial⟩)
      all_goals try (exact ⟨allF Vote.frz, trivial⟩)
      all_goals try (first | exact ⟨trivial, trivial⟩ | exact ⟨Nat.le_of_ble_eq_true rfl, trivial⟩ | exact ⟨trivial, Nat.le_of_ble_eq_true rfl, trivial⟩ | exact ⟨Nat.le_of_ble_eq_true rfl, trivial, trivial⟩)
      all_goals have e0 := l_all (c := Vote.cells) (xs := upTo (implAt a b) i) rfl
      all_goals try (exact ⟨fun _ _ => ⟨by rw [e0]; exact allF Vote.frz, trivial⟩⟩)
      all_goals try (rw [e0, List.length_map]; exact ⟨c_votesCopyO _ (by rw [upTo_len]; show i ≤ 1048576; omega) (by rw [upTo_len]; omega) (upTo_ok (implAt_ok ha hb) i)⟩)
      all_goals try (have eb : implAt a b i = b.getD i default := by
                       unfold implAt
                       split
                       · rfl
                       · split
                         · exfalso; omega
                         · rfl)
      all_goals try (have ea : implAt a b i = a.getD i default := by
                       unfold implAt
                       split
                       · exfalso; omega
                       · split
                         · rfl
                         · exfalso; omega)
      all_goals try (refine ⟨i + 1, [(0, 1)], by omega, by omega, ?_⟩)
      all_goals first
        | (have hi' : i = max a.length b.length := by omega
           rw [← hi']
           apply exU'; refine ⟨[(0, 1)], [], trivial, ?_⟩
           repeat' (first | exact trivial | exact ⟨trivial⟩ | exact Side.mk rfl | exact sF1 rfl | exact Chk.mk (by kernel_rfl) | exact ⟨Chk.mk (by kernel_rfl)⟩ | exact ⟨e0⟩ | exact ⟨e0.symm⟩ | exact sMapF Vote.flat | exact ⟨by rw [e0, List.length_map]⟩ | refine And.intro ?_ ?_ | rfl))
        | (have e3 := eb
           repeat' (first | exact trivial | exact ⟨trivial⟩ | exact Side.mk rfl | exact sF1 rfl | exact Chk.mk (by kernel_rfl) | exact ⟨Chk.mk (by kernel_rfl)⟩ | exact sMapF Vote.flat | exact sUp eb rfl | exact sUpL rfl rfl | exact sUpL2 rfl rfl | exact ⟨by rw [wrapi] <;> omega⟩ | refine And.intro ?_ ?_ | rfl))
        | (have e3 := ea
           repeat' (first | exact trivial | exact ⟨trivial⟩ | exact Side.mk rfl | exact sF1 rfl | exact Chk.mk (by kernel_rfl) | exact ⟨Chk.mk (by kernel_rfl)⟩ | exact sMapF Vote.flat | exact sUp ea rfl | exact sUpL rfl rfl | exact sUpL2 rfl rfl | exact ⟨by rw [wrapi] <;> omega⟩ | refine And.intro ?_ ?_ | rfl))
  · exfalso; simp_all
end Mg

/- The best of votes where one is of a later ballot, in plain terms. No condition. -/
namespace Mg
open Go Go.RowKit
set_option maxRecDepth 100000
set_option linter.unusedVariables false
set_option linter.unusedSimpArgs false
theorem voteOk_default : voteOk (default : Vote) = true := by decide
theorem votesOk_get {a : List Vote} (h : votesOk a = true) (i : Nat) : voteOk (a.getD i default) = true := by
  by_cases hi : i < a.length
  · exact votesOk_at h hi
  · rw [getD_none hi]; exact voteOk_default
theorem votesOk_mk {a : List Vote} (hl : a.length ≤ 40) (h : ∀ v ∈ a, voteOk v = true) : votesOk a = true := by
  simp only [votesOk, Bool.and_eq_true, decide_eq_true_eq, List.all_eq_true]
  exact ⟨hl, h⟩
theorem best_votesOk {a b : List Vote} (ha : votesOk a = true) (hb : votesOk b = true) : votesOk (bestN a b) = true := by
  refine votesOk_mk (by rw [bestN_len]; exact Nat.max_le.2 ⟨votesOk_len ha, votesOk_len hb⟩) fun v hv => ?_
  obtain ⟨i, _, rfl⟩ := List.mem_map.1 hv
  exact best_all (Q := fun v => voteOk v = true) (fun _ _ _ => votesOk_get hb i) (fun _ _ => votesOk_get ha i) (fun _ _ => voteOk_default)
theorem zeros_ok {n : Nat} (h : n ≤ 40) : votesOk (List.replicate n (default : Vote)) = true :=
  votesOk_mk (by simpa using h) fun v hv => by rw [List.eq_of_mem_replicate hv]; exact voteOk_default
theorem set_votesOk {a : List Vote} {k : Nat} {v : Vote} (ha : votesOk a = true) (hv : voteOk v = true) : votesOk (a.set k v) = true :=
  votesOk_mk (by simpa using votesOk_len ha) fun x hx => by
    rcases List.mem_or_eq_of_mem_set hx with hx | hx
    · have := ha
      simp only [votesOk, Bool.and_eq_true, List.all_eq_true] at this
      exact this.2 x hx
    · rw [hx]; exact hv
theorem top_voteOk {t : Int} (h1 : 1 ≤ t) (h2 : t ≤ 3000) : voteOk ⟨t, zeroE true⟩ = true := by
  unfold voteOk
  rw [if_neg (by simp only; omega)]
  simp only [Bool.and_eq_true]
  exact ⟨inr_iff.2 ⟨h1, h2⟩, by decide⟩
theorem accBest_of {u v : List Vote} (hu : votesOk u = true) (hv : votesOk v = true) : accBest u v = bestN u v := by unfold accBest; rw [if_pos (by rw [hu, hv]; rfl)]
theorem set_get {x : List Vote} {k : Nat} {v : Vote} (h : k < x.length) : (x.set k v).getD k default = v := by
  simp [List.getD_eq_getElem?_getD, h]
/-- The later vote is what both see. -/
theorem two_see {x b : List Vote} {k : Nat} {v : Vote} (hx : votesOk x = true) (hb : votesOk b = true) (hv : voteOk v = true) (hk : k < x.length) (hlt : (b.getD k default).bal < v.bal) (hp : 0 < v.bal) :
    (accBest (x.set k v) b).getD k default = v ∧ (accBest b (x.set k v)).getD k default = v ∧ (accBest (x.set k v) b).length = (accBest b (x.set k v)).length ∧ k < (accBest (x.set k v) b).length := by
  have hs := set_votesOk (k := k) hx hv
  have hl : (x.set k v).length = x.length := List.length_set
  rw [accBest_of hs hb, accBest_of hb hs]
  have l1 := bestN_len (x.set k v) b
  have l2 := bestN_len b (x.set k v)
  refine ⟨?_, ?_, by omega, by omega⟩
  · rw [bestN_at (by omega), best_a2 (by omega) (by rw [set_get hk]; omega), set_get hk]
  · rw [bestN_at (by omega)]
    by_cases h : k < b.length
    · rw [best_b2 h (by omega) (by rw [set_get hk]; exact hlt), set_get hk]
    · rw [best_b1 h (by omega) (by rw [set_get hk]; exact hp), set_get hk]
end Mg

/- The law of AccTwo, walked. No condition. -/
namespace Mg
open Go Go.RowKit
set_option maxRecDepth 100000
set_option linter.unusedVariables false
set_option linter.unusedSimpArgs false
attribute [local irreducible] W Pure Con
def sOwnAB (ds : List MV) (os : List Ob) : ConT := match ds with
  | [.one (.fz ra), .one (.fz rb)] => ⟨Unit, fun _ => True, fun _ => .one (.ref 0 0 (accBest (ra.map Vote.of) (rb.map Vote.of)).length), fun _ => [.arr ((accBest (ra.map Vote.of) (rb.map Vote.of)).map Vote.cells)]⟩
  | _ => noT
theorem getD_step {a : List Vote} {i : Nat} {top : Int} (h : ∀ j, j < i → (a.getD j default).bal ≤ top) (hi : (a.getD i default).bal ≤ top) : ∀ j, j < i + 1 → (a.getD j default).bal ≤ top := fun j hj => by
  rcases Nat.lt_succ_iff_lt_or_eq.1 hj with h1 | h1
  · exact h j h1
  · subst h1; exact hi
theorem getD_all {a : List Vote} {top : Int} (h0 : 0 ≤ top) (h : ∀ j, j < a.length → (a.getD j default).bal ≤ top) (j : Nat) : (a.getD j default).bal ≤ top := by
  by_cases hj : j < a.length
  · exact h j hj
  · rw [getD_none hj]; exact h0
theorem bal3000 {a : List Vote} (h : votesOk a = true) (i : Nat) : (a.getD i default).bal ≤ 3000 := by
  have := votesOk_get h i
  unfold voteOk at this
  split at this
  · omega
  · simp only [inr, Bool.and_eq_true, decide_eq_true_eq] at this; omega
theorem nfVote {h : Option Hint} {r z : List MC} (n : Nat) (hh : h = some (.row r)) (hz : z.map MC.nf = Vote.cells default) : nfH h (List.replicate n z) = (List.replicate n (default : Vote)).map Vote.cells := by
  subst hh
  simp only [nfH, nfR, List.map_replicate, hz]
theorem con_arg {f : Nat} {xs ys : List MV} {os : List Ob} {k : Nat} {D : Type} {p : D → Prop} {r : D → MV} {os' : D → List Ob} (h : Con PP f xs os k p r os') (e : ys = xs) : Con PP f ys os k p r os' := e ▸ h
set_option maxHeartbeats 16000000 in
theorem c_FnAccTwo (bs ms : List Int) (hb : Code8 bs) (hm : Code8 ms) : Con PP 5 [.one (.fz (bs.map u8)), .one (.fz (ms.map u8))] [] 0 (fun _ : Unit => True) (fun _ => ob true) (fun _ => []) := by
  refine Con.vc [(27, .con false [] [] [] sBestD), (32, .con false [] [] [] sBestD), (74, .con false [] [] [] sAB), (78, .con false [] [] [] sAB), (84, .con false [] [] [] sAB), (95, .con false [] [] [] sAB), (99, .con false [] [] [] sAB), (800019, .row [])] TTok hmo Go.Proofs.Try.func5 rfl (by kernel_rfl) rfl (by kernel_rfl) ?_
  repeat' (first | refine And.intro ?_ ?_ | exact tf | exact ft | refine tt ?_ | refine ff ?_ | exact ⟨trivial⟩ | exact sAll rfl | exact sF1 rfl | exact sBld (by repeat' (first | exact trivial | rfl | exact Nat.le_of_ble_eq_true rfl | refine And.intro ?_ ?_)) rfl | exact sBS (by repeat' (first | exact trivial | rfl | exact Nat.le_of_ble_eq_true rfl | refine And.intro ?_ ?_)) rfl rfl rfl rfl | exact sBSF (by repeat' (first | exact trivial | rfl | exact Nat.le_of_ble_eq_true rfl | refine And.intro ?_ ?_)) rfl rfl rfl rfl | exact sLe rfl | exact Chk.mk (by kernel_rfl) | exact ⟨Chk.mk (by kernel_rfl)⟩ | exact sLeEq rfl rfl | refine fun h => ?_)
  all_goals try dsimp only [sBestD, sAB] at *
  all_goals try (exact ⟨fun _ _ => trivial⟩)
  all_goals try (exact ⟨c_DrawAccBest bs hb⟩)
  all_goals try (exact ⟨c_DrawAccBest ms hm⟩)
  all_goals try (first | exact ⟨trivial, trivial⟩ | exact ⟨Nat.le_of_ble_eq_true rfl, trivial⟩ | exact ⟨trivial, Nat.le_of_ble_eq_true rfl, trivial⟩ | exact ⟨Nat.le_of_ble_eq_true rfl, trivial, trivial⟩)
  all_goals try (apply exU'; refine ⟨[], [], trivial, ?_⟩; focus (repeat' (first | exact trivial | exact ⟨trivial⟩ | exact Side.mk rfl | exact sF1 rfl | exact Chk.mk (by kernel_rfl) | exact ⟨Chk.mk (by kernel_rfl)⟩ | refine And.intro ?_ ?_ | rfl)))
  · rename_i d1 hd1 d2
    have hd2 := h
    clear h
    rcases d1 with ⟨a, a2⟩
    rcases d2 with ⟨b, b2⟩
    dsimp only at *
    have Va : V40 a := v1 (d := (a, a2)) hd1
    have Vb : V40 b := v1 (d := (b, b2)) hd2
    have la := Va.1
    have lb := Vb.1
    refine W.loopC (D := Nat × Int) (fun d => [(44, .row (a.getD d.1 default).cells), (51, .row (a.getD d.1 default).cells)]) TTok hmo
      (fun d => ⟨168, 1, [(1, .one (.fz (ms.map u8))), (5, .one (.fz (a.map Vote.cells))), (7, .one (.fz (b.map Vote.cells))), (9, .one (.ptr 0 0 0)), (10, oi d.2), (11, oi d.1)], [(0, .box [bo true, i6 0, i6 0, .nil, .nil, i6 0, i6 0])]⟩) (fun d => a.length - d.1)
      (fun d => d.1 ≤ a.length ∧ 0 ≤ d.2 ∧ (∀ j, j < d.1 → (a.getD j default).bal ≤ d.2) ∧ (votesOk a = true → d.2 ≤ 3000)) (0, 0) [] ⟨Nat.zero_le _, Int.le_refl _, fun j hj => absurd hj (Nat.not_lt_zero _), fun _ => by decide⟩ ?_ ?_
    · repeat' (first | exact trivial | exact ⟨trivial⟩ | exact Side.mk rfl | exact sF1 rfl | exact Chk.mk (by kernel_rfl) | exact ⟨Chk.mk (by kernel_rfl)⟩ | refine And.intro ?_ ?_ | rfl)
    · intro ⟨i, top⟩ ⟨hi, ht, hu, ho⟩
      dsimp only at hi ht hu ho
      repeat' (first | refine And.intro ?_ ?_ | exact tf | exact ft | refine tt ?_ | refine ff ?_ | exact ⟨trivial⟩ | exact sAll rfl | exact sF1 rfl | exact sBld (by repeat' (first | exact trivial | rfl | exact Nat.le_of_ble_eq_true rfl | refine And.intro ?_ ?_)) rfl | exact sBS (by repeat' (first | exact trivial | rfl | exact Nat.le_of_ble_eq_true rfl | refine And.intro ?_ ?_)) rfl rfl rfl rfl | exact sBSF (by repeat' (first | exact trivial | rfl | exact Nat.le_of_ble_eq_true rfl | refine And.intro ?_ ?_)) rfl rfl rfl rfl | exact sLe rfl | exact Chk.mk (by kernel_rfl) | exact ⟨Chk.mk (by kernel_rfl)⟩ | exact sLeEq rfl rfl | refine fun h => ?_)
      all_goals simp only [decide_eq_true_eq, decide_eq_false_iff_not, List.length_map, Bool.not_eq_true', Bool.not_eq_false', Bool.not_eq_eq_eq_not, Bool.not_true, Bool.not_false, bne_iff_ne, ne_eq, bne_eq_false_iff_eq, beq_iff_eq, beq_eq_false_iff_ne] at *
      all_goals try (exact sRow (by omega) (by rw [Int.toNat_natCast, List.getElem?_map, List.getD_eq_getElem?_getD, List.getElem?_eq_getElem (by omega)]; rfl) rfl)
      all_goals try (first | exact ⟨trivial, trivial⟩ | exact ⟨Nat.le_of_ble_eq_true rfl, trivial⟩ | exact ⟨trivial, Nat.le_of_ble_eq_true rfl, trivial⟩ | exact ⟨Nat.le_of_ble_eq_true rfl, trivial, trivial⟩)
      · refine ⟨(i + 1, (a.getD i default).bal), [], by dsimp only; omega, ⟨by dsimp only; omega, by dsimp only; omega, getD_step (fun j hj => Int.le_trans (hu j hj) (by dsimp only; omega)) (Int.le_refl _), fun hv => bal3000 hv i⟩, ?_⟩
        repeat' (first | exact trivial | exact ⟨trivial⟩ | exact Side.mk rfl | exact sF1 rfl | exact Chk.mk (by kernel_rfl) | exact ⟨Chk.mk (by kernel_rfl)⟩ | exact ⟨by rw [wrapi] <;> omega⟩ | exact ⟨by dsimp only; rw [wrapi] <;> omega⟩ | refine And.intro ?_ ?_ | rfl)
      · refine ⟨(i + 1, top), [], by dsimp only; omega, ⟨by dsimp only; omega, ht, getD_step hu (by dsimp only; omega), ho⟩, ?_⟩
        repeat' (first | exact trivial | exact ⟨trivial⟩ | exact Side.mk rfl | exact sF1 rfl | exact Chk.mk (by kernel_rfl) | exact ⟨Chk.mk (by kernel_rfl)⟩ | exact ⟨by rw [wrapi] <;> omega⟩ | exact ⟨by dsimp only; rw [wrapi] <;> omega⟩ | refine And.intro ?_ ?_ | rfl)
      · have hu' := getD_all ht (fun j hj => hu j (by omega))
        clear hu hi
        refine W.loopC (D := Nat × Int) (fun d => [(62, .row (b.getD d.1 default).cells), (69, .row (b.getD d.1 default).cells)]) TTok hmo
          (fun d => ⟨168, 1, [(1, .one (.fz (ms.map u8))), (5, .one (.fz (a.map Vote.cells))), (7, .one (.fz (b.map Vote.cells))), (9, .one (.ptr 0 0 0)), (10, oi d.2), (12, oi d.1)], [(0, .box [bo true, i6 0, i6 0, .nil, .nil, i6 0, i6 0])]⟩) (fun d => b.length - d.1)
          (fun d => d.1 ≤ b.length ∧ 0 ≤ d.2 ∧ (∀ j, (a.getD j default).bal ≤ d.2) ∧ (∀ j, j < d.1 → (b.getD j default).bal ≤ d.2) ∧ (votesOk a = true → votesOk b = true → d.2 ≤ 3000)) (0, top) [] ⟨Nat.zero_le _, ht, hu', fun j hj => absurd hj (Nat.not_lt_zero _), fun h _ => ho h⟩ ?_ ?_
        · repeat' (first | exact trivial | exact ⟨trivial⟩ | exact Side.mk rfl | exact sF1 rfl | exact Chk.mk (by kernel_rfl) | exact ⟨Chk.mk (by kernel_rfl)⟩ | refine And.intro ?_ ?_ | rfl)
        · intro ⟨i, top⟩ ⟨hi, ht, hua, hu, ho⟩
          dsimp only at hi ht hua hu ho
          repeat' (first | refine And.intro ?_ ?_ | exact tf | exact ft | refine tt ?_ | refine ff ?_ | exact ⟨trivial⟩ | exact sAll rfl | exact sF1 rfl | exact sBld (by repeat' (first | exact trivial | rfl | exact Nat.le_of_ble_eq_true rfl | refine And.intro ?_ ?_)) rfl | exact sBS (by repeat' (first | exact trivial | rfl | exact Nat.le_of_ble_eq_true rfl | refine And.intro ?_ ?_)) rfl rfl rfl rfl | exact sBSF (by repeat' (first | exact trivial | rfl | exact Nat.le_of_ble_eq_true rfl | refine And.intro ?_ ?_)) rfl rfl rfl rfl | exact sLe rfl | exact Chk.mk (by kernel_rfl) | exact ⟨Chk.mk (by kernel_rfl)⟩ | exact sLeEq rfl rfl | refine fun h => ?_)
          all_goals simp only [decide_eq_true_eq, decide_eq_false_iff_not, List.length_map, Bool.not_eq_true', Bool.not_eq_false', Bool.not_eq_eq_eq_not, Bool.not_true, Bool.not_false, bne_iff_ne, ne_eq, bne_eq_false_iff_eq, beq_iff_eq, beq_eq_false_iff_ne] at *
          all_goals try (exact sRow (by omega) (by rw [Int.toNat_natCast, List.getElem?_map, List.getD_eq_getElem?_getD, List.getElem?_eq_getElem (by omega)]; rfl) rfl)
          all_goals try (first | exact ⟨trivial, trivial⟩ | exact ⟨Nat.le_of_ble_eq_true rfl, trivial⟩ | exact ⟨trivial, Nat.le_of_ble_eq_true rfl, trivial⟩ | exact ⟨Nat.le_of_ble_eq_true rfl, trivial, trivial⟩)
          · refine ⟨(i + 1, (b.getD i default).bal), [], by dsimp only; omega, ⟨by dsimp only; omega, by dsimp only; omega, fun j => Int.le_trans (hua j) (by dsimp only; omega), getD_step (fun j hj => Int.le_trans (hu j hj) (by dsimp only; omega)) (Int.le_refl _), fun _ hv => bal3000 hv i⟩, ?_⟩
            repeat' (first | exact trivial | exact ⟨trivial⟩ | exact Side.mk rfl | exact sF1 rfl | exact Chk.mk (by kernel_rfl) | exact ⟨Chk.mk (by kernel_rfl)⟩ | exact ⟨by rw [wrapi] <;> omega⟩ | exact ⟨by dsimp only; rw [wrapi] <;> omega⟩ | refine And.intro ?_ ?_ | rfl)
          · refine ⟨(i + 1, top), [], by dsimp only; omega, ⟨by dsimp only; omega, ht, hua, getD_step hu (by dsimp only; omega), ho⟩, ?_⟩
            repeat' (first | exact trivial | exact ⟨trivial⟩ | exact Side.mk rfl | exact sF1 rfl | exact Chk.mk (by kernel_rfl) | exact ⟨Chk.mk (by kernel_rfl)⟩ | exact ⟨by rw [wrapi] <;> omega⟩ | exact ⟨by dsimp only; rw [wrapi] <;> omega⟩ | refine And.intro ?_ ?_ | rfl)
          all_goals try dsimp only [sAB] at *
          all_goals try simp only [Vote.of_cells] at *
          all_goals try (exact ⟨fun _ _ => trivial⟩)
          all_goals try (exact ⟨c_abI _ _ (by assumption) (by assumption)⟩)
          all_goals try (exact ⟨c_abS _ _ (by assumption) (by assumption)⟩)
          all_goals try (exact ⟨trivial, trivial, trivial⟩)
          all_goals try (exact absurd trivial ‹¬ True›)
          all_goals try (apply exU'; refine ⟨[], [], trivial, ?_⟩; focus ((repeat' (first | exact trivial | exact ⟨trivial⟩ | exact Side.mk rfl | exact sF1 rfl | exact Chk.mk (by kernel_rfl) | exact ⟨Chk.mk (by kernel_rfl)⟩ | exact ⟨by simp⟩ | refine And.intro ?_ ?_ | rfl)); done))
          · have hpos : 0 < (accBest a b).length := by omega
            obtain ⟨va, vb, _⟩ := accBest_nil hpos
            have hw : IntKind.i64.wrap (top + 1) = top + 1 := by have := ho va vb; rw [wrapi] <;> omega
            have hL : (accBest a b).length ≤ 40 := (V40.best Va Vb).1
            have h30 : top + 1 ≤ 3000 := by have : ¬ IntKind.i64.wrap (top + 1) > 3000 := by assumption
                                            rw [hw] at this; omega
            obtain ⟨k, hk⟩ : ∃ k, k = ms.length % (accBest a b).length := ⟨_, rfl⟩
            have hkL : k < (accBest a b).length := hk ▸ Nat.mod_lt _ hpos
            have hkm : ((ms.length : Int)).tmod ((accBest a b).length : Int) = (k : Int) := by rw [hk]; exact (Int.ofNat_tmod _ _).symm
            obtain ⟨z, hz⟩ : ∃ z, z = List.replicate (k + 1) (default : Vote) := ⟨_, rfl⟩
            have hzl : z.length = k + 1 := by rw [hz]; simp
            have Vz : V40 z := ⟨by omega, by rw [hz]; intro v hv; rw [List.eq_of_mem_replicate hv]; exact ⟨Nat.zero_le _, Nat.zero_le _⟩⟩
            have oz : votesOk z = true := hz ▸ zeros_ok (by omega)
            obtain ⟨x, hx⟩ : ∃ x, x = accBest a z := ⟨_, rfl⟩
            obtain ⟨v, hv⟩ : ∃ v, v = (⟨top + 1, zeroE true⟩ : Vote) := ⟨_, rfl⟩
            have xl : k < x.length := by rw [hx, accBest_of va oz]; have := bestN_len a z; omega
            have ox : votesOk x = true := by rw [hx, accBest_of va oz]; exact best_votesOk va oz
            have Vx : V40 x := hx ▸ V40.best Va Vz
            have ov : voteOk v = true := hv ▸ top_voteOk (t := top + 1) (by omega) (by omega)
            obtain ⟨s1, s2, s3, s4⟩ := two_see (v := v) ox vb ov xl (by rw [hv]; have := hu k; dsimp only; have := getD_all ht (fun j hj => hu j (by omega)) k; omega) (by rw [hv]; dsimp only; omega)
            have hw1 : IntKind.i64.wrap ((k : Int) + 1) = (k : Int) + 1 := by rw [wrapi] <;> omega
            have hn1 : ((k : Int) + 1).toNat = k + 1 := by omega
            have cx : Con PP 19 [.one (.fz (a.map Vote.cells)), .one (.fz (z.map Vote.cells))] [] 0 (fun _ : Unit => True) (fun _ => .one (.ref 0 0 x.length)) (fun _ => [.arr (x.map Vote.cells)]) := by
              rw [hx]; exact c_AccBestO a z ⟨va, oz⟩ (by omega) (by omega) (by omega) Va.2 Vz.2
            have hrow : ∀ r, r = v.cells → (x.map Vote.cells).set k r = (x.set k v).map Vote.cells := fun r hr => by
              rw [hr]; have := setMap (c := Vote.cells) (xs := x) (k := k) (y := v) rfl; rw [Nat.zero_add] at this; exact this.symm
            have Vs : V40 (x.set k v) := ⟨by rw [List.length_set]; exact Vx.1, VsOk.set Vx.2 (by rw [hv]; exact ⟨Nat.zero_le _, Nat.zero_le _⟩)⟩
            refine W.go [(106, .con false [] [] [] sAB), (112, .row []), (113, .con false [] [] [1] (fun _ _ => ⟨Unit, fun _ => True, fun _ => .one (.ref 0 0 x.length), fun _ => [.arr (x.map Vote.cells)]⟩)), (118, .row []), (800022, .row [])] TTok hmo ?_
            repeat' (first | refine And.intro ?_ ?_ | exact tf | exact ft | refine tt ?_ | refine ff ?_ | exact ⟨trivial⟩ | exact sAll rfl | exact sF1 rfl | exact sBld (by repeat' (first | exact trivial | rfl | exact Nat.le_of_ble_eq_true rfl | refine And.intro ?_ ?_)) rfl | exact sBS (by repeat' (first | exact trivial | rfl | exact Nat.le_of_ble_eq_true rfl | refine And.intro ?_ ?_)) rfl rfl rfl rfl | exact sBSF (by repeat' (first | exact trivial | rfl | exact Nat.le_of_ble_eq_true rfl | refine And.intro ?_ ?_)) rfl rfl rfl rfl | exact sLe rfl | exact Chk.mk (by kernel_rfl) | exact ⟨Chk.mk (by kernel_rfl)⟩ | exact sLeEq rfl rfl | refine fun h => ?_)
            all_goals try dsimp only [sAB] at *
            all_goals try simp only [Vote.of_cells] at *
            all_goals try (exact ⟨fun _ _ => trivial⟩)
            all_goals try (exact ⟨c_abI _ _ (by assumption) (by assumption)⟩)
            all_goals try (exact ⟨trivial, trivial, trivial⟩)
            all_goals try (exact ⟨fun _ _ => ⟨allF Vote.frz, trivial⟩⟩)
            all_goals try simp only [decide_eq_true_eq, decide_eq_false_iff_not, List.length_map, Bool.not_eq_true', Bool.not_eq_false', Bool.not_eq_eq_eq_not, Bool.not_true, Bool.not_false, bne_iff_ne, ne_eq, bne_eq_false_iff_eq, beq_iff_eq, beq_eq_false_iff_ne] at *
            all_goals try simp only [hkm, hw, hw1, hn1]
            · exact ⟨by omega⟩
            · exact ⟨by omega, by omega, by omega⟩
            · exact ⟨Eq.mpr (congrArg AllF (nfVote (k + 1) rfl rfl)) (allF Vote.frz), trivial⟩
            · exact ⟨con_arg cx (congrArg (fun r => [MV.one (MC.fz (a.map Vote.cells)), MV.one (MC.fz (List.take (k + 1) (List.drop 0 r)))]) (nfVote (k + 1) rfl rfl) |>.trans (by rw [hz, l_all (by simp)]))⟩
            · exact ⟨⟨by omega, by omega⟩, by omega, by rw [Int.toNat_natCast, mapGet xl]; rfl⟩
            · exact ⟨⟨by omega, by rw [Int.toNat_natCast, mapGet xl]; exact Nat.le_of_ble_eq_true rfl⟩, rfl⟩
            · refine W.frz 2 rfl ?_ ?_
              · rw [Int.toNat_natCast, Nat.zero_add, hrow _ (by have := mapGet (c := Vote.cells) xl; rw [Nat.zero_add] at this; rw [this, hv]; rfl)]
                exact allF Vote.frz
              · have hrw : (x.map Vote.cells).set k (putAt ((x.map Vote.cells).getD k []) 0 [i6 (top + 1), bo true, i6 0, i6 0, .fz [], .fz [], i6 0, i6 0]) = (x.set k v).map Vote.cells :=
                  hrow _ (by have := mapGet (c := Vote.cells) xl; rw [Nat.zero_add] at this; rw [this, hv]; rfl)
                have hla : List.take x.length (List.drop 0 ((x.set k v).map Vote.cells)) = (x.set k v).map Vote.cells := l_all (by simp)
                refine W.go [(123, .con false [] [] [] (fun _ _ => ⟨Unit, fun _ => True, fun _ => .one (.fz ((accBest (x.set k v) b).map Vote.cells)), fun _ => []⟩)), (126, .con false [] [] [] (fun _ _ => ⟨Unit, fun _ => True, fun _ => .one (.fz ((accBest b (x.set k v)).map Vote.cells)), fun _ => []⟩)), (129, .row v.cells), (138, .row v.cells), (146, .row v.cells), (156, .row v.cells)] TTok hmo ?_
                repeat' (first | refine And.intro ?_ ?_ | exact tf | exact ft | refine tt ?_ | refine ff ?_ | exact ⟨trivial⟩ | exact sAll rfl | exact sF1 rfl | exact sBld (by repeat' (first | exact trivial | rfl | exact Nat.le_of_ble_eq_true rfl | refine And.intro ?_ ?_)) rfl | exact sBS (by repeat' (first | exact trivial | rfl | exact Nat.le_of_ble_eq_true rfl | refine And.intro ?_ ?_)) rfl rfl rfl rfl | exact sBSF (by repeat' (first | exact trivial | rfl | exact Nat.le_of_ble_eq_true rfl | refine And.intro ?_ ?_)) rfl rfl rfl rfl | exact sLe rfl | exact Chk.mk (by kernel_rfl) | exact ⟨Chk.mk (by kernel_rfl)⟩ | exact sLeEq rfl rfl | refine fun h => ?_)
                all_goals try (exact ⟨fun _ _ => trivial⟩)
                all_goals try simp only [decide_eq_true_eq, decide_eq_false_iff_not, List.length_map, Bool.not_eq_true', Bool.not_eq_false', Bool.not_eq_eq_eq_not, Bool.not_true, Bool.not_false, bne_iff_ne, ne_eq, bne_eq_false_iff_eq, beq_iff_eq, beq_eq_false_iff_ne] at *
                all_goals try simp only [Int.toNat_natCast, Nat.zero_add, hw]
                all_goals try (exact ⟨con_arg (c_abI _ _ Vs Vb) (by simp only [i6, bo] at hrw; rw [hrw, hla])⟩)
                all_goals try (exact ⟨con_arg (c_abI _ _ Vb Vs) (by simp only [i6, bo] at hrw; rw [hrw, hla])⟩)
                all_goals try (exact sRow (by omega) (by rw [Int.toNat_natCast, List.getElem?_map, List.getElem?_eq_getElem (by omega), ← getD_get (by omega), s1]; rfl) rfl)
                all_goals try (exact sRow (by omega) (by rw [Int.toNat_natCast, List.getElem?_map, List.getElem?_eq_getElem (by omega), ← getD_get (by omega), s2]; rfl) rfl)
                all_goals try (first | exact ⟨trivial, trivial⟩ | exact ⟨Nat.le_of_ble_eq_true rfl, trivial⟩ | exact ⟨trivial, Nat.le_of_ble_eq_true rfl, trivial⟩ | exact ⟨Nat.le_of_ble_eq_true rfl, trivial, trivial⟩)
                all_goals try (exfalso; rw [hv] at h; cases h; done)
                all_goals try (exfalso; refine absurd ?_ ‹¬ v.bal = IntKind.i64.wrap (top + 1)›; rw [hv, hw]; done)
                · apply exU'; refine ⟨[], [], trivial, ?_⟩
                  repeat' (first | exact trivial | exact ⟨trivial⟩ | exact Side.mk rfl | exact sF1 rfl | exact Chk.mk (by kernel_rfl) | exact ⟨Chk.mk (by kernel_rfl)⟩ | exact ⟨by simp [s3]⟩ | refine And.intro ?_ ?_ | rfl)
end Mg

/- What the row's arguments read as. No condition. -/
namespace Mg
open Go Go.RowKit
set_option maxRecDepth 100000
set_option linter.unusedVariables false

theorem TTlay : LOk TT := fun t i h => by
  have h1 : (tyL.all fun q => q.2.lay TT) = true := by kernel_rfl
  have h2 : (t, i) ∈ tyL := look_mem h
  exact List.all_eq_true.1 h1 _ h2

theorem fit_two {n t : Nat} {cs : List MC} {i : TI} (h : fit TT n t cs) (ht : TT t = some i) (hk : i.k = .struct [(0, 3), (1, 3)]) : ∃ x : Two, cs = x.cells := by
  obtain ⟨n, a, r, rfl, ha, b, r', rfl, hb, rfl⟩ := fit_struct h ht hk
  obtain ⟨x, rfl, _⟩ := fit_int ha (i := ⟨1, 8, .int .i64, [.int .i64]⟩) rfl rfl
  obtain ⟨y, rfl, _⟩ := fit_int hb (i := ⟨1, 8, .int .i64, [.int .i64]⟩) rfl rfl
  exact ⟨⟨x, y⟩, rfl⟩
theorem fit_twos {n t e : Nat} {cs : List MC} {i ie : TI} (h : fit TT n t cs) (ht : TT t = some i) (hk : i.k = .slice e) (he : TT e = some ie) (hke : ie.k = .struct [(0, 3), (1, 3)]) : ∃ xs : List Two, cs = [.fz (xs.map Two.cells)] ∧ xs.length ≤ maxLen := by
  obtain ⟨rows, rfl, hl, hr⟩ := fit_slice h ht hk
  obtain ⟨xs, rfl, _⟩ := rows_data (c := Two.cells) (p := fun _ => True) fun r hr' => by
    obtain ⟨n, hn⟩ := hr r hr'
    obtain ⟨x, hx⟩ := fit_two hn he hke
    exact ⟨x, hx, trivial⟩
  exact ⟨xs, rfl, by simpa using hl⟩
theorem fit_run {n : Nat} {cs : List MC} (h : fit TT n 57 cs) : ∃ x : Run, cs = x.cells ∧ x.ok maxLen := by
  obtain ⟨n, a, r, rfl, ha, b, r', rfl, hb, c, r'', rfl, hc, d, r3, rfl, hd, rfl⟩ := fit_struct h (i := ⟨4, 64, .struct [(0, 54), (1, 55), (2, 3), (3, 3)], [.nil, .nil, .int .i64, .int .i64]⟩) rfl rfl
  obtain ⟨xs, rfl, hx⟩ := fit_twos ha (i := ⟨1, 24, .slice 144, [.nil]⟩) (ie := ⟨2, 16, .struct [(0, 3), (1, 3)], [.int .i64, .int .i64]⟩) rfl rfl rfl rfl
  obtain ⟨ys, rfl, hy⟩ := fit_twos hb (i := ⟨1, 24, .slice 146, [.nil]⟩) (ie := ⟨2, 16, .struct [(0, 3), (1, 3)], [.int .i64, .int .i64]⟩) rfl rfl rfl rfl
  obtain ⟨x, rfl, _⟩ := fit_int hc (i := ⟨1, 8, .int .i64, [.int .i64]⟩) rfl rfl
  obtain ⟨y, rfl, _⟩ := fit_int hd (i := ⟨1, 8, .int .i64, [.int .i64]⟩) rfl rfl
  exact ⟨⟨xs, ys, x, y⟩, rfl, hx, hy⟩
theorem fit_entry {n : Nat} {cs : List MC} (h : fit TT n 59 cs) : ∃ x : Entry, cs = x.cells ∧ x.ok maxLen := by
  obtain ⟨n, a, r, rfl, ha, b, r', rfl, hb, c, r'', rfl, hc, rfl⟩ := fit_struct h (i := ⟨7, 88, .struct [(0, 4), (1, 53), (3, 57)], [.bool, .int .i64, .int .i64, .nil, .nil, .int .i64, .int .i64]⟩) rfl rfl
  obtain ⟨x, rfl⟩ := fit_bool ha (i := ⟨1, 1, .bool, [.bool]⟩) rfl rfl
  obtain ⟨q, rfl⟩ := fit_two hb (i := ⟨2, 16, .struct [(0, 3), (1, 3)], [.int .i64, .int .i64]⟩) rfl rfl
  obtain ⟨y, rfl, hy⟩ := fit_run hc
  exact ⟨⟨x, q, y⟩, by simp [Entry.cells], hy⟩
theorem fit_vote {n : Nat} {cs : List MC} (h : fit TT n 105 cs) : ∃ x : Vote, cs = x.cells ∧ x.ok maxLen := by
  obtain ⟨n, a, r, rfl, ha, b, r', rfl, hb, rfl⟩ := fit_struct h (i := ⟨8, 96, .struct [(0, 3), (1, 59)], [.int .i64, .bool, .int .i64, .int .i64, .nil, .nil, .int .i64, .int .i64]⟩) rfl rfl
  obtain ⟨x, rfl, _⟩ := fit_int ha (i := ⟨1, 8, .int .i64, [.int .i64]⟩) rfl rfl
  obtain ⟨y, rfl, hy⟩ := fit_entry hb
  exact ⟨⟨x, y⟩, by simp [Vote.cells], hy⟩
theorem fit_votes {n : Nat} {cs : List MC} (h : fit TT n 22 cs) : ∃ xs : List Vote, cs = [.fz (xs.map Vote.cells)] ∧ VotesOk maxLen xs := by
  obtain ⟨rows, rfl, hl, hr⟩ := fit_slice h (i := ⟨1, 24, .slice 105, [.nil]⟩) rfl rfl
  obtain ⟨xs, rfl, hv⟩ := rows_data (c := Vote.cells) (p := fun v => v.ok maxLen) fun r hr' => by
    obtain ⟨n, hn⟩ := hr r hr'
    exact fit_vote hn
  exact ⟨xs, rfl, by simpa using hl, hv⟩
theorem fit_acc {n : Nat} {cs : List MC} (h : fit TT n 24 cs) : ∃ x : Acc, cs = x.cells ∧ x.ok maxLen := by
  obtain ⟨n, a, r, rfl, ha, b, r', rfl, hb, rfl⟩ := fit_struct h (i := ⟨2, 32, .struct [(0, 3), (1, 22)], [.int .i64, .nil]⟩) rfl rfl
  obtain ⟨x, rfl, _⟩ := fit_int ha (i := ⟨1, 8, .int .i64, [.int .i64]⟩) rfl rfl
  obtain ⟨xs, rfl, hx⟩ := fit_votes hb
  exact ⟨⟨x, xs⟩, rfl, hx⟩
end Mg

/- What a row's text of bytes reads as. No condition. -/
namespace Mg
open Go Go.RowKit
set_option maxRecDepth 100000
set_option linter.unusedVariables false
theorem fit_code {n : Nat} {c : MC} (h : fit TT n 33 [c]) : ∃ bs : List Int, c = .fz (bs.map u8) ∧ Code8 bs := by
  obtain ⟨rows, e, hl, hr⟩ := fit_slice h (i := ⟨1, 24, .slice 5, [.nil]⟩) rfl rfl
  obtain ⟨bs, rfl, hb⟩ := rows_data (c := u8) (p := fun b : Int => 0 ≤ b ∧ b ≤ 255) fun r hr' => by
    obtain ⟨n, hn⟩ := hr r hr'
    obtain ⟨m, rfl, h1, h2⟩ := fit_int hn (i := ⟨1, 1, .int .u8, [.int .u8]⟩) rfl rfl
    exact ⟨m, rfl, h1, h2⟩
  simp only [List.cons.injEq, and_true] at e
  exact ⟨bs, e, by simpa using hl, hb⟩
end Mg
