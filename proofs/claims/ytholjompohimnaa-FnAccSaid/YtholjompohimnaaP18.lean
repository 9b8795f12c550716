/- Parts of the abstract state logic and of the walks, one behind the other: BC, B9, R1R, R1B, BD. No condition. -/
import Derived.Test.YtholjompohimnaaP17
import Derived.Test.YtholjompohimnaaP10
import Derived.Test.YtholjompohimnaaP12
import Derived.Test.YtholjompohimnaaP15
/- Copies with nothing of the argument in them. No condition. -/
namespace Mg
open Go Go.RowKit
set_option maxRecDepth 100000
set_option linter.unusedVariables false
set_option linter.unusedSimpArgs false
attribute [local irreducible] W Pure Con
section
variable {α : Type} {c cA : α → List MC} {xs : List α} {i m : Nat}
/-- A list of which the first ones are one's own already. -/
def rowsG (c cA : α → List MC) (xs : List α) (i : Nat) : List (List MC) := (xs.take i).map c ++ (xs.drop i).map cA
theorem rowsG_len : (rowsG c cA xs i).length = xs.length := by simp [rowsG]; omega
theorem rowsG_all (h : xs.length ≤ i) : rowsG c cA xs i = xs.map c := by
  unfold rowsG; rw [List.take_of_length_le h, List.drop_of_length_le h]; simp
theorem rowsG_row (h1 : ∀ x, (c x).length = m) (h2 : ∀ x, (cA x).length = m) : ∀ r ∈ rowsG c cA xs i, r.length = m := fun r hr => by
  rcases List.mem_append.1 hr with hr | hr
  · obtain ⟨x, _, rfl⟩ := List.mem_map.1 hr; exact h1 x
  · obtain ⟨x, _, rfl⟩ := List.mem_map.1 hr; exact h2 x
theorem sFlG (h1 : ∀ x, (c x).all MC.flat = true) (h2 : ∀ x, (cA x).all MC.flat = true) : Side (∀ r ∈ rowsG c cA xs i, ∀ x ∈ r, x.flat = true) := ⟨fun r hr => by
  rcases List.mem_append.1 hr with hr | hr
  · obtain ⟨x, _, rfl⟩ := List.mem_map.1 hr; exact List.all_eq_true.1 (h1 x)
  · obtain ⟨x, _, rfl⟩ := List.mem_map.1 hr; exact List.all_eq_true.1 (h2 x)⟩
end
section
variable {α : Type} [Inhabited α] {c cA : α → List MC} {xs : List α} {i m : Nat}
theorem rowsG_get (h : i < xs.length) : (rowsG c cA xs i)[i]? = some (cA (xs.getD i default)) := by
  unfold rowsG
  have hl : ((xs.take i).map c).length = i := by simp; omega
  rw [List.getElem?_append_right (by omega), hl, Nat.sub_self, List.getElem?_map, List.getElem?_drop, Nat.add_zero, List.getElem?_eq_getElem h, getD_get h]; rfl
theorem rowsG_getD (h : i < xs.length) : (rowsG c cA xs i).getD (0 + i) [] = cA (xs.getD i default) := by
  rw [Nat.zero_add, List.getD_eq_getElem?_getD, rowsG_get h]; rfl
theorem rowsG_set {r : List MC} (h : i < xs.length) (hr : r = c (xs.getD i default)) : (rowsG c cA xs i).set (0 + i) r = rowsG c cA xs (i + 1) := by
  subst hr
  unfold rowsG
  have hl : ((xs.take i).map c).length = i := by simp; omega
  rw [Nat.zero_add, List.set_append, if_neg (by omega), hl, Nat.sub_self]
  rw [List.drop_eq_getElem_cons h, List.map_cons, List.set_cons_zero]
  rw [List.take_succ_eq_append_getElem h, List.map_append, getD_get h]
  simp
theorem sIxG {k : Int} {n : Nat} (h0 : k = i) (h : i < xs.length) (hn : n = xs.length) (h2 : ∀ x, (cA x).length = m) :
    Side ((0 ≤ k ∧ k < n) ∧ 0 + k.toNat < (rowsG c cA xs i).length ∧ ((rowsG c cA xs i).getD (0 + k.toNat) []).length = m) := by
  subst h0
  rw [Int.toNat_natCast, rowsG_len, rowsG_getD h, hn]
  exact ⟨⟨by omega, by omega⟩, by omega, h2 _⟩
theorem sLdG {off n : Nat} {cs : List MC} (h : i < xs.length) (hc : n ≤ ((cA (xs.getD i default)).drop off).length) (he : ((cA (xs.getD i default)).drop off).take n = cs) :
    Side (n ≤ (List.drop off ((rowsG c cA xs i).getD (0 + i) [])).length ∧ MV.agg (List.take n (List.drop off ((rowsG c cA xs i).getD (0 + i) []))) = MV.agg cs) := by
  rw [rowsG_getD h, he]; exact ⟨⟨hc, rfl⟩⟩
theorem sStG {off n z : Nat} (h : i < xs.length) (h2 : ∀ x, (cA x).length = m) (hb : Nat.ble (off + n) m = true) (hz : n = z) :
    Side ((0 + i < (rowsG c cA xs i).length ∧ off + n ≤ ((rowsG c cA xs i).getD (0 + i) []).length) ∧ n = z) :=
  ⟨⟨by rw [rowsG_len]; omega, by rw [rowsG_getD h, h2]; exact Nat.le_of_ble_eq_true hb⟩, hz⟩
theorem sSetG {k : Nat} {r : List MC} (h : i < xs.length) (hk : k = i) (hr : c (xs.getD i default) = r) : Side (rowsG c cA xs (i + 1) = (rowsG c cA xs i).set (0 + k) r) := ⟨by rw [hk, rowsG_set h hr.symm]⟩
end
def Vote.cellsA (v : Vote) : List MC := v.cells.map MC.toA
def Entry.cellsA (v : Entry) : List MC := v.cells.map MC.toA
theorem c_votesCopyP (vs : List Vote) (hx : vs.length ≤ lim) (hv : VsOk lim vs) : Pure PP false 56 [.one (.fz (vs.map Vote.cells))] (.one (.own (vs.map Vote.cells))) := by
  have hx0 : vs.length ≤ 1048576 := hx
  refine Pure.vc [(6, .con true [] [] [] (sCpV vs.length))] TTok hmo Go.Proofs.Try.func56 (by kernel_rfl) rfl (by kernel_rfl) ?_
  repeat' (first | refine And.intro ?_ ?_ | exact tf | exact ft | refine tt ?_ | refine ff ?_ | exact ⟨trivial⟩ | exact sAll rfl | exact sF1 rfl | exact sBld (by repeat' (first | exact trivial | rfl | exact Nat.le_of_ble_eq_true rfl | refine And.intro ?_ ?_)) rfl | exact sBS (by repeat' (first | exact trivial | rfl | exact Nat.le_of_ble_eq_true rfl | refine And.intro ?_ ?_)) rfl rfl rfl rfl | exact sBSF (by repeat' (first | exact trivial | rfl | exact Nat.le_of_ble_eq_true rfl | refine And.intro ?_ ?_)) rfl rfl rfl rfl | exact sLe rfl | exact Chk.mk (by kernel_rfl) | exact ⟨Chk.mk (by kernel_rfl)⟩ | exact sLeEq rfl rfl | refine fun h => ?_)
  · exact ⟨c_copied_VoteU vs hx⟩
  · exact ⟨fun _ _ => trivial⟩
  · exact ⟨fun _ _ => ⟨trivial, trivial⟩⟩
  · refine W.loopC (D := Nat) (fun i => [(18, .res (.agg (vs.getD i default).e.cellsA)), (19, .res (.agg (vs.getD i default).e.cells))]) TTok hmo (fun i => ⟨24, 1, [(3, .one (.ref 0 0 vs.length)), (8, oi vs.length), (9, oi i)], [(0, .arr (rowsG Vote.cells Vote.cellsA vs i))]⟩) (fun i => vs.length - i) (fun i => i ≤ vs.length) 0 [] (Nat.zero_le _) ?_ ?_
    · repeat' (first | exact trivial | exact ⟨trivial⟩ | exact Side.mk rfl | exact sF1 rfl | exact Chk.mk (by kernel_rfl) | exact ⟨Chk.mk (by kernel_rfl)⟩ | exact sFlG Vote.flat (fun _ => rfl) | refine And.intro ?_ ?_ | rfl)
      exact ⟨by unfold rowsG; rw [List.map_map]; rfl⟩
    · intro i hi
      repeat' (first | refine And.intro ?_ ?_ | exact tf | exact ft | refine tt ?_ | refine ff ?_ | exact ⟨trivial⟩ | exact sAll rfl | exact sF1 rfl | exact sBld (by repeat' (first | exact trivial | rfl | exact Nat.le_of_ble_eq_true rfl | refine And.intro ?_ ?_)) rfl | exact sBS (by repeat' (first | exact trivial | rfl | exact Nat.le_of_ble_eq_true rfl | refine And.intro ?_ ?_)) rfl rfl rfl rfl | exact sBSF (by repeat' (first | exact trivial | rfl | exact Nat.le_of_ble_eq_true rfl | refine And.intro ?_ ?_)) rfl rfl rfl rfl | exact sLe rfl | exact Chk.mk (by kernel_rfl) | exact ⟨Chk.mk (by kernel_rfl)⟩ | exact sLeEq rfl rfl | exact sAnd (by repeat' constructor) (c_entryCopy _ (hv _ (getD_mem (by have := of_decide_eq_true h; omega)))) | refine fun h => ?_)
      all_goals try (have hl := of_decide_eq_true h)
      all_goals try (exact sIxG rfl (by omega) rfl (fun _ => rfl))
      all_goals try (exact sLdG (xs := vs) (i := i) (by omega) (Nat.le_of_ble_eq_true rfl) rfl)
      all_goals try (exact sStG (m := 8) (i := i) (xs := vs) (by omega) (fun _ => rfl) rfl rfl)
      all_goals try (first | exact ⟨trivial, trivial⟩ | exact ⟨Nat.le_of_ble_eq_true rfl, trivial⟩ | exact ⟨trivial, Nat.le_of_ble_eq_true rfl, trivial⟩ | exact ⟨Nat.le_of_ble_eq_true rfl, trivial, trivial⟩)
      · refine ⟨i + 1, [], by omega, by omega, ?_⟩
        repeat' (first | exact trivial | exact ⟨trivial⟩ | exact Side.mk rfl | exact sF1 rfl | exact Chk.mk (by kernel_rfl) | exact ⟨Chk.mk (by kernel_rfl)⟩ | exact sFlG Vote.flat (fun _ => rfl) | exact sSetG (by omega) rfl (by rw [Int.toNat_natCast, rowsG_getD (by omega)]; rfl) | exact ⟨by rw [wrapi] <;> omega⟩ | refine And.intro ?_ ?_ | rfl)
      · have hi' := of_decide_eq_false h
        refine ⟨⟨trivial, trivial⟩, ⟨rfl, ?_, rowsG_all (by omega), ?_⟩, trivial⟩
        · rw [rowsG_len]
        · rw [rowsG_all (by omega)]; exact allF Vote.frz
theorem map_unA (d : List Vote) : ((d.map Vote.cells).map fun r => r.map MC.unA) = d.map Vote.cells := by
  rw [List.map_map]; exact List.map_congr_left fun v _ => rfl
theorem set_unA {d : List Vote} {k n : Nat} {r : List MC} {v : Vote} (hr : (r.map MC.unA) = v.cells) (hn : n = d.length) : (((((d.map Vote.cells).set k r).drop 0).take n).map fun r => r.map MC.unA) = (d.set k v).map Vote.cells := by
  rw [List.drop_zero, List.take_of_length_le (by simp [hn]), List.map_set, map_unA, hr, List.map_set]
theorem set_allA {d : List Vote} {k : Nat} {r : List MC} (hr : r.all MC.fa = true) : AllA ((d.map Vote.cells).set k r) := ⟨fun x hx => by
  rcases List.mem_or_eq_of_mem_set hx with hx | rfl
  · obtain ⟨v, _, rfl⟩ := List.mem_map.1 hx
    exact List.all_eq_true.1 (show v.cells.all MC.fa = true from rfl)
  · exact List.all_eq_true.1 hr⟩
theorem c_accCopyP (a : Acc) (ha : a.ok lim) : Pure PP false 59 [.agg a.cells] (.agg [i6 a.p, .own (a.votes.map Vote.cells)]) := by
  refine Pure.vc [(7, .res (.one (.own (a.votes.map Vote.cells)))), (900001, .row [i6 0, i6 1, i6 2, i6 3, i6 4, i6 5, i6 6])] TTok hmo Go.Proofs.Try.func59 (by kernel_rfl) rfl (by kernel_rfl) ?_
  repeat' (first | refine And.intro ?_ ?_ | exact tf | exact ft | refine tt ?_ | refine ff ?_ | exact ⟨trivial⟩ | exact sAll rfl | exact sF1 rfl | exact sBld (by repeat' (first | exact trivial | rfl | exact Nat.le_of_ble_eq_true rfl | refine And.intro ?_ ?_)) rfl | exact sBS (by repeat' (first | exact trivial | rfl | exact Nat.le_of_ble_eq_true rfl | refine And.intro ?_ ?_)) rfl rfl rfl rfl | exact sBSF (by repeat' (first | exact trivial | rfl | exact Nat.le_of_ble_eq_true rfl | refine And.intro ?_ ?_)) rfl rfl rfl rfl | exact sLe rfl | exact Chk.mk (by kernel_rfl) | exact ⟨Chk.mk (by kernel_rfl)⟩ | exact sLeEq rfl rfl | exact sAnd (by repeat' constructor) (c_votesCopyP _ ha.1 ha.2) | refine fun h => ?_)
  all_goals try (exact ⟨rfl⟩)
  all_goals try (exact trivial)
  exact ⟨⟨Nat.le_of_ble_eq_true rfl, trivial⟩, rfl, ⟨rfl, by simp, rfl, allF Vote.frz⟩, trivial⟩
theorem c_accCopyQ (a : Acc) (ha : a.ok lim) : Pure PP false 59 [.agg a.cells] (.agg a.cells) := (c_accCopyP a ha).to rfl
def pAcc (q : Acc × Bool) : MV := .tup [.agg [i6 q.1.p, .own (q.1.votes.map Vote.cells)], ob q.2]
def qAcc (q : Acc × Bool) : MV := .tup [.agg q.1.cells, ob q.2]
theorem c_AccPromiseP (a : Acc) (ha : a.ok lim) (bal : Int) : Pure PP false 22 [.agg a.cells, oi bal] (pAcc (accPromise a bal)) := by
  generalize hq : accPromise a bal = q
  unfold accPromise at hq
  refine Pure.vc [(8, .res (ob (accOk a))), (12, .res (.agg [i6 a.p, .own (a.votes.map Vote.cells)])), (14, .res (ob (inr bal 1 3000)))] TTok hmo Go.Proofs.Try.func22 (by kernel_rfl) rfl (by kernel_rfl) ?_
  repeat' (first | refine And.intro ?_ ?_ | exact tf | exact ft | refine tt ?_ | refine ff ?_ | exact ⟨trivial⟩ | exact sAll rfl | exact sF1 rfl | exact sBld (by repeat' (first | exact trivial | rfl | exact Nat.le_of_ble_eq_true rfl | refine And.intro ?_ ?_)) rfl | exact sBS (by repeat' (first | exact trivial | rfl | exact Nat.le_of_ble_eq_true rfl | refine And.intro ?_ ?_)) rfl rfl rfl rfl | exact sBSF (by repeat' (first | exact trivial | rfl | exact Nat.le_of_ble_eq_true rfl | refine And.intro ?_ ?_)) rfl rfl rfl rfl | exact sLe rfl | exact Chk.mk (by kernel_rfl) | exact ⟨Chk.mk (by kernel_rfl)⟩ | exact sLeEq rfl rfl | exact sAnd (by repeat' constructor) (c_impl_AccOk a ha) | exact sAnd (by repeat' constructor) (c_accCopyP a ha) | exact sAnd (by repeat' constructor) (c_impl_in _ _ _) | refine fun h => ?_)
  · obtain rfl : (⟨0, []⟩, false) = q := by rw [← hq, if_neg (by simp_all)]
    exact ⟨⟨Nat.le_of_ble_eq_true rfl, trivial, trivial⟩, ⟨rfl, rfl, trivial⟩, ⟨rfl, trivial⟩, trivial⟩
  · obtain rfl : (a, false) = q := by rw [← hq, if_pos (by simp_all), if_neg (by simp_all)]
    exact ⟨⟨Nat.le_of_ble_eq_true rfl, trivial, trivial⟩, ⟨rfl, ⟨rfl, by simp, rfl, allF Vote.frz⟩, trivial⟩, ⟨rfl, trivial⟩, trivial⟩
  · obtain rfl : (⟨bal, a.votes⟩, true) = q := by rw [← hq, if_pos (by simp_all), if_pos (by simp_all)]
    exact ⟨⟨Nat.le_of_ble_eq_true rfl, trivial, trivial⟩, ⟨rfl, ⟨rfl, by simp, rfl, allF Vote.frz⟩, trivial⟩, ⟨rfl, trivial⟩, trivial⟩
  · obtain rfl : (a, false) = q := by rw [← hq, if_pos (by simp_all), if_neg (by simp_all)]
    exact ⟨⟨Nat.le_of_ble_eq_true rfl, trivial, trivial⟩, ⟨rfl, ⟨rfl, by simp, rfl, allF Vote.frz⟩, trivial⟩, ⟨rfl, trivial⟩, trivial⟩
theorem c_AccPromiseQ (a : Acc) (ha : a.ok lim) (bal : Int) : Pure PP false 22 [.agg a.cells, oi bal] (qAcc (accPromise a bal)) := (c_AccPromiseP a ha bal).to rfl
set_option maxHeartbeats 4000000 in
theorem c_AccVoteP (a : Acc) (ha : a.ok lim) (bal slot : Int) (e : Entry) (he : e.ok lim) : Pure PP false 23 [.agg a.cells, oi bal, oi slot, .agg e.cells] (pAcc (accVote a bal slot e)) := by
  generalize hq : accVote a bal slot e = q
  unfold accVote at hq
  have cP := c_AccPromiseP a ha bal
  have hT := accPromise_t (a := a) (bal := bal)
  have hL := accPromise_l (a := a) (bal := bal)
  generalize accPromise a bal = pr at *
  obtain ⟨⟨p1, vs⟩, b1⟩ := pr
  dsimp only at hq cP hT hL
  have hal : a.votes.length ≤ 1048576 := ha.1
  refine Pure.vc [(15, .res (pAcc (⟨p1, vs⟩, b1))), (22, .res (ob (inr slot 0 39))), (26, .res (ob (entryOk e))), (30, .res (.agg [i6 a.p, .own (a.votes.map Vote.cells)])), (800008, .row [])] TTok hmo Go.Proofs.Try.func23 (by kernel_rfl) rfl (by kernel_rfl) ?_
  repeat' (first | refine And.intro ?_ ?_ | exact tf | exact ft | refine tt ?_ | refine ff ?_ | exact ⟨trivial⟩ | exact sAll rfl | exact sF1 rfl | exact sBld (by repeat' (first | exact trivial | rfl | exact Nat.le_of_ble_eq_true rfl | refine And.intro ?_ ?_)) rfl | exact sBS (by repeat' (first | exact trivial | rfl | exact Nat.le_of_ble_eq_true rfl | refine And.intro ?_ ?_)) rfl rfl rfl rfl | exact sBSF (by repeat' (first | exact trivial | rfl | exact Nat.le_of_ble_eq_true rfl | refine And.intro ?_ ?_)) rfl rfl rfl rfl | exact sLe rfl | exact Chk.mk (by kernel_rfl) | exact ⟨Chk.mk (by kernel_rfl)⟩ | exact sLeEq rfl rfl | exact sAnd (by repeat' constructor) (cP) | exact sAnd (by repeat' constructor) (c_impl_in _ _ _) | exact sAnd (by repeat' constructor) (c_impl_CertEntry e he) | exact sAnd (by repeat' constructor) (c_accCopyP a ha) | refine fun h => ?_)
  · have hb : b1 = false := by cases b1 <;> simp_all
    subst hb
    obtain rfl : (⟨p1, vs⟩, false) = q := by rw [← hq, if_neg (by decide)]
    exact ⟨⟨Nat.le_of_ble_eq_true rfl, trivial, trivial⟩, ⟨rfl, ⟨rfl, by simp, rfl, allF Vote.frz⟩, trivial⟩, ⟨rfl, trivial⟩, trivial⟩
  · have hb : b1 = true := by cases b1 <;> simp_all
    subst hb
    obtain rfl : (a, false) = q := by rw [← hq, if_pos rfl, if_neg (by simp_all)]
    exact ⟨⟨Nat.le_of_ble_eq_true rfl, trivial, trivial⟩, ⟨rfl, ⟨rfl, by simp, rfl, allF Vote.frz⟩, trivial⟩, ⟨rfl, trivial⟩, trivial⟩
  · have hb : b1 = true := by cases b1 <;> simp_all
    subst hb
    have hs : 0 ≤ slot ∧ slot ≤ 39 := inr_iff.1 (by simp_all)
    obtain rfl : (⟨bal, (padV a.votes (slot.toNat + 1)).set slot.toNat ⟨bal, e⟩⟩, true) = q := by rw [← hq, if_pos rfl, if_pos ⟨by simp_all, by simp_all⟩]
    obtain ⟨hp1, hvs⟩ := Acc.mk.inj (hT rfl)
    obtain rfl := hp1.symm
    have hL := hL rfl
    obtain rfl := hvs.symm
    refine W.loopC (D := List Vote) (fun d => [(39, .row [])]) TTok hmo
      (fun d => ⟨51, 6, [(1, oi bal), (2, oi slot), (7, .one (.ptr 1 0 0)), (8, .one (.ptr 2 0 0)), (10, .one (.ptr 4 0 0))],
        [(5, .arr (d.map Vote.cells)), (1, .box e.cellsA), (2, .box [i6 0, .nil]), (4, .box [i6 bal, .ref 5 0 d.length])]⟩) (fun d => slot.toNat + 1 - d.length)
      (fun d => d.length ≤ max a.votes.length (slot.toNat + 1) ∧ VsOk lim d ∧ padV d (slot.toNat + 1) = padV a.votes (slot.toNat + 1)) a.votes [(5, 3)] ⟨by omega, ha.2, rfl⟩ ?_ ?_
    · repeat' (first | exact trivial | exact ⟨trivial⟩ | exact Side.mk rfl | exact sF1 rfl | exact Chk.mk (by kernel_rfl) | exact ⟨Chk.mk (by kernel_rfl)⟩ | exact sMapF Vote.flat | refine And.intro ?_ ?_ | rfl)
      all_goals exact ⟨by simp⟩
    · intro d ⟨h1, h2, h3⟩
      repeat' (first | refine And.intro ?_ ?_ | exact tf | exact ft | refine tt ?_ | refine ff ?_ | exact ⟨trivial⟩ | exact sAll rfl | exact sF1 rfl | exact sBld (by repeat' (first | exact trivial | rfl | exact Nat.le_of_ble_eq_true rfl | refine And.intro ?_ ?_)) rfl | exact sBS (by repeat' (first | exact trivial | rfl | exact Nat.le_of_ble_eq_true rfl | refine And.intro ?_ ?_)) rfl rfl rfl rfl | exact sBSF (by repeat' (first | exact trivial | rfl | exact Nat.le_of_ble_eq_true rfl | refine And.intro ?_ ?_)) rfl rfl rfl rfl | exact sLe rfl | exact Chk.mk (by kernel_rfl) | exact ⟨Chk.mk (by kernel_rfl)⟩ | exact sLeEq rfl rfl | refine fun h => ?_)
      all_goals try (exact sApp (xs := d) (c := Vote.cells) (by simp) (fun _ => rfl) rfl (by omega) rfl rfl)
      all_goals try (first | exact ⟨trivial, trivial⟩ | exact ⟨Nat.le_of_ble_eq_true rfl, trivial⟩ | exact ⟨trivial, Nat.le_of_ble_eq_true rfl, trivial⟩ | exact ⟨Nat.le_of_ble_eq_true rfl, trivial, trivial⟩)
      all_goals simp only [decide_eq_true_eq, decide_eq_false_iff_not, List.length_map, Bool.not_eq_true', Bool.not_eq_false', Bool.not_eq_eq_eq_not, Bool.not_true, Bool.not_false, bne_iff_ne, ne_eq, bne_eq_false_iff_eq, beq_iff_eq, beq_eq_false_iff_ne] at *
      · refine ⟨d ++ [default], [(5, 6)], by simp; omega, ⟨by simp; omega, VsOk.app h2 ⟨Nat.zero_le _, Nat.zero_le _⟩, padV_step h3 (by omega)⟩, ?_⟩
        repeat' (first | exact trivial | exact ⟨trivial⟩ | exact Side.mk rfl | exact sF1 rfl | exact Chk.mk (by kernel_rfl) | exact ⟨Chk.mk (by kernel_rfl)⟩ | exact sAppR rfl | exact sAppL rfl rfl | exact sAppL2 rfl rfl | exact sMapF Vote.flat | refine And.intro ?_ ?_ | rfl)
      · have hd : padV a.votes (slot.toNat + 1) = d := h3.symm.trans (padV_end (by omega))
        rw [hd]
        have Vs : VsOk lim (d.set slot.toNat ⟨bal, e⟩) := VsOk.set h2 he
        have hdl : (d.set slot.toNat ⟨bal, e⟩).length ≤ 1048576 := by simp; omega
        refine W.go [(800009, .row [])] TTok hmo ?_
        repeat' (first | refine And.intro ?_ ?_ | exact tf | exact ft | refine tt ?_ | refine ff ?_ | exact ⟨trivial⟩ | exact sAll rfl | exact sF1 rfl | exact sBld (by repeat' (first | exact trivial | rfl | exact Nat.le_of_ble_eq_true rfl | refine And.intro ?_ ?_)) rfl | exact sBS (by repeat' (first | exact trivial | rfl | exact Nat.le_of_ble_eq_true rfl | refine And.intro ?_ ?_)) rfl rfl rfl rfl | exact sBSF (by repeat' (first | exact trivial | rfl | exact Nat.le_of_ble_eq_true rfl | refine And.intro ?_ ?_)) rfl rfl rfl rfl | exact sLe rfl | exact Chk.mk (by kernel_rfl) | exact ⟨Chk.mk (by kernel_rfl)⟩ | exact sLeEq rfl rfl | refine fun h => ?_)
        · exact sIxO (c := Vote.cells) (by omega) (by omega) rfl (fun _ => rfl)
        · exact sSt (c := Vote.cells) (m := 8) (xs := d) (by omega) (fun _ => rfl) rfl rfl
        · refine W.frzA 4 1 rfl (set_allA (by rw [mapGet (by omega)]; rfl)) ?_
          refine W.go [(50, .res (.agg [i6 bal, .own ((d.set slot.toNat ⟨bal, e⟩).map Vote.cells)]))] TTok hmo ?_
          have hset : ∀ r, (r.map MC.unA) = (⟨bal, e⟩ : Vote).cells → (((((d.map Vote.cells).set (0 + slot.toNat) r).drop 0).take d.length).map fun r => r.map MC.unA) = (d.set slot.toNat ⟨bal, e⟩).map Vote.cells := fun r hr => by
            rw [Nat.zero_add]; exact set_unA hr rfl
          repeat' (first | refine And.intro ?_ ?_ | exact tf | exact ft | refine tt ?_ | refine ff ?_ | exact ⟨trivial⟩ | exact sAll rfl | exact sF1 rfl | exact sBld (by repeat' (first | exact trivial | rfl | exact Nat.le_of_ble_eq_true rfl | refine And.intro ?_ ?_)) rfl | exact sBS (by repeat' (first | exact trivial | rfl | exact Nat.le_of_ble_eq_true rfl | refine And.intro ?_ ?_)) rfl rfl rfl rfl | exact sBSF (by repeat' (first | exact trivial | rfl | exact Nat.le_of_ble_eq_true rfl | refine And.intro ?_ ?_)) rfl rfl rfl rfl | exact sLe rfl | exact Chk.mk (by kernel_rfl) | exact ⟨Chk.mk (by kernel_rfl)⟩ | exact sLeEq rfl rfl | refine fun h => ?_)
          · exact sLend ⟨⟨trivial, trivial, trivial⟩, trivial⟩ (c_accCopyP ⟨bal, d.set slot.toNat ⟨bal, e⟩⟩ ⟨hdl, Vs⟩) (congrArg (fun r => [MV.agg [i6 bal, .fz r]]) (hset _ (by rw [mapGet (by omega)]; rfl)))
          · exact ⟨⟨Nat.le_of_ble_eq_true rfl, trivial, trivial⟩, ⟨rfl, ⟨rfl, by simp, rfl, allF Vote.frz⟩, trivial⟩, ⟨rfl, trivial⟩, trivial⟩
  · have hb : b1 = true := by cases b1 <;> simp_all
    subst hb
    obtain rfl : (a, false) = q := by rw [← hq, if_pos rfl, if_neg (by simp_all)]
    exact ⟨⟨Nat.le_of_ble_eq_true rfl, trivial, trivial⟩, ⟨rfl, ⟨rfl, by simp, rfl, allF Vote.frz⟩, trivial⟩, ⟨rfl, trivial⟩, trivial⟩
theorem c_AccVoteQ (a : Acc) (ha : a.ok lim) (bal slot : Int) (e : Entry) (he : e.ok lim) : Pure PP false 23 [.agg a.cells, oi bal, oi slot, .agg e.cells] (qAcc (accVote a bal slot e)) := (c_AccVoteP a ha bal slot e he).to rfl
end Mg

/- The law of AccKeep, walked. No condition. -/
namespace Mg
open Go Go.RowKit
set_option maxRecDepth 100000
set_option linter.unusedVariables false
set_option linter.unusedSimpArgs false
attribute [local irreducible] W Pure Con
structure KeepI (a : Acc) (top : Int) : Prop where
  ok : accOk a = true
  p : a.p = top
  r : 0 ≤ top ∧ top ≤ 3000
  sz : a.ok lim
theorem accOk_len {a : Acc} (h : accOk a = true) : a.votes.length ≤ 40 := (votesOk_iff.1 (accOk_iff.1 h).2.1).1
theorem KeepI.prom {a : Acc} {top b : Int} (h : KeepI a top) (h1 : 1 ≤ b) (h2 : b ≤ 3000) : KeepI (accPromise a b).1 (if b > top then b else top) ∧ (accPromise a b).2 = decide (b ≥ top) := by
  obtain ⟨ho, rfl, hr, hs⟩ := h
  by_cases g : a.p ≤ b
  · rw [accPromise_up ho h1 h2 g]
    have : (if b > a.p then b else a.p) = b := by split <;> omega
    rw [this]
    exact ⟨⟨accOk_up ho h1 h2 g, rfl, ⟨by omega, h2⟩, hs⟩, (decide_eq_true g).symm⟩
  · rw [accPromise_no ho (by omega), if_neg (by omega)]
    exact ⟨⟨ho, rfl, hr, hs⟩, (decide_eq_false g).symm⟩
theorem KeepI.vote {a : Acc} {top b s : Int} (h : KeepI a top) (h1 : 1 ≤ b) (h2 : b ≤ 3000) (hs0 : 0 ≤ s) (hs1 : s < 5) : KeepI (accVote a b s (zeroE true)).1 (if b > top then b else top) ∧ (accVote a b s (zeroE true)).2 = decide (b ≥ top) := by
  obtain ⟨ho, rfl, hr, hs⟩ := h
  by_cases g : a.p ≤ b
  · rw [accVote_up ho h1 h2 g hs0 (by omega) (by decide)]
    have : (if b > a.p then b else a.p) = b := by split <;> omega
    rw [this]
    have hk := accOk_vote (k := s.toNat) (e := zeroE true) ho h1 h2 g (by omega) (by decide)
    refine ⟨⟨hk, rfl, ⟨by omega, h2⟩, Nat.le_trans (accOk_len hk) (by decide), ?_⟩, (decide_eq_true g).symm⟩
    refine VsOk.set (fun v hv => ?_) ⟨Nat.zero_le _, Nat.zero_le _⟩
    rcases padV_mem hv with hv | hv
    · exact hs.2 v hv
    · rw [hv]; exact ⟨Nat.zero_le _, Nat.zero_le _⟩
  · rw [accVote_no ho (by omega), if_neg (by omega)]
    exact ⟨⟨ho, rfl, hr, hs⟩, (decide_eq_false g).symm⟩
def kb (ms : List Int) (i : Nat) : Int := (ms.getD i default).tmod 40 + 1
def ks (ms : List Int) (i : Nat) : Int := (ms.getD i default).tmod 5
theorem ms_rng {ms : List Int} (hm : Code8 ms) (i : Nat) : 0 ≤ ms.getD i default ∧ ms.getD i default ≤ 255 := by
  by_cases h : i < ms.length
  · exact hm.rng _ (getD_mem h)
  · rw [List.getD_eq_getElem?_getD, List.getElem?_eq_none (by omega)]; exact ⟨Int.le_refl _, by decide⟩
theorem kb_eq {ms : List Int} (hm : Code8 ms) (i : Nat) : IntKind.i64.wrap ((IntKind.i64.wrap (ms.getD i default)).tmod 40 + 1) = kb ms i := by
  have := ms_rng hm i
  rw [wrapi (n := ms.getD i default) (by omega) (by omega), wrapi] <;> first | rfl | (have := Int.tmod_eq_emod_of_nonneg this.1 (b := 40); omega)
theorem ks_eq {ms : List Int} (hm : Code8 ms) (i : Nat) : (IntKind.i64.wrap (ms.getD i default)).tmod 5 = ks ms i := by
  have := ms_rng hm i
  rw [wrapi (n := ms.getD i default) (by omega) (by omega)]; rfl
theorem kb_rng {ms : List Int} (hm : Code8 ms) (i : Nat) : 1 ≤ kb ms i ∧ kb ms i ≤ 3000 := by
  have := ms_rng hm i
  unfold kb
  have := Int.tmod_eq_emod_of_nonneg this.1 (b := 40); omega
theorem ks_rng {ms : List Int} (hm : Code8 ms) (i : Nat) : 0 ≤ ks ms i ∧ ks ms i < 5 := by
  have := ms_rng hm i
  unfold ks
  have := Int.tmod_eq_emod_of_nonneg this.1 (b := 5); omega
def sAc (ds : List MV) (os : List Ob) : ConT := ⟨Acc, fun d => DAcc d, fun d => .agg d.cells, fun _ => []⟩
set_option maxHeartbeats 16000000 in
theorem c_FnAccKeep (bs ms : List Int) (hb : Code8 bs) (hm : Code8 ms) : Con PP 6 [.one (.fz (bs.map u8)), .one (.fz (ms.map u8))] [] 0 (fun _ : Unit => True) (fun _ => ob true) (fun _ => []) := by
  refine Con.vc [(23, .row []), (99, .con false [] [] [] sAc), (800020, .row [])] TTok hmo Go.Proofs.Try.func6 rfl (by kernel_rfl) rfl (by kernel_rfl) ?_
  repeat' (first | refine And.intro ?_ ?_ | exact tf | exact ft | refine tt ?_ | refine ff ?_ | exact ⟨trivial⟩ | exact sAll rfl | exact sF1 rfl | exact sBld (by repeat' (first | exact trivial | rfl | exact Nat.le_of_ble_eq_true rfl | refine And.intro ?_ ?_)) rfl | exact sBS (by repeat' (first | exact trivial | rfl | exact Nat.le_of_ble_eq_true rfl | refine And.intro ?_ ?_)) rfl rfl rfl rfl | exact sBSF (by repeat' (first | exact trivial | rfl | exact Nat.le_of_ble_eq_true rfl | refine And.intro ?_ ?_)) rfl rfl rfl rfl | exact sLe rfl | exact Chk.mk (by kernel_rfl) | exact ⟨Chk.mk (by kernel_rfl)⟩ | exact sLeEq rfl rfl | refine fun h => ?_)
  all_goals try (exact ⟨trivial, trivial⟩)
  all_goals try (apply exU'; refine ⟨[], [], trivial, ?_⟩; focus (repeat' (first | exact trivial | exact ⟨trivial⟩ | exact Side.mk rfl | exact sF1 rfl | exact Chk.mk (by kernel_rfl) | exact ⟨Chk.mk (by kernel_rfl)⟩ | refine And.intro ?_ ?_ | rfl)))
  · refine W.nfb 0 rfl ?_
    refine W.loopC (D := Nat × Acc × Int) (fun d => [(36, .row (u8 (ms.getD d.1 default))), (43, .row (u8 (ms.getD d.1 default))), (64, .row (u8 (ms.getD d.1 default))),
      (50, .res (qAcc (accPromise d.2.1 (kb ms d.1)))), (69, .res (qAcc (accVote d.2.1 (kb ms d.1) (ks ms d.1) (zeroE true)))), (900014, .row [i6 0, i6 1, i6 2, i6 3, i6 4, i6 5, i6 6, i6 7, i6 8, i6 9, i6 10, i6 11, i6 12, i6 13, i6 14, i6 15])]) TTok hmo
      (fun d => ⟨120, 1, [(0, .one (.fz (bs.map u8))), (1, .one (.fz (ms.map u8))), (5, .one (.ptr 0 0 0)), (6, oi d.2.2), (7, oi d.1)], [(0, .box d.2.1.cells)]⟩) (fun d => 30 - d.1)
      (fun d => d.1 ≤ 30 ∧ KeepI d.2.1 d.2.2) (0, ⟨0, []⟩, 0) [] ⟨by decide, ⟨by decide, rfl, by decide, ⟨by decide, fun v hv => by cases hv⟩⟩⟩ ?_ ?_
    · repeat' (first | exact trivial | exact ⟨trivial⟩ | exact Side.mk rfl | exact sF1 rfl | exact Chk.mk (by kernel_rfl) | exact ⟨Chk.mk (by kernel_rfl)⟩ | refine And.intro ?_ ?_ | rfl)
    · intro ⟨i, a, top⟩ ⟨hi, hK⟩
      dsimp only at hi hK
      have hkb := kb_eq hm i
      have hks := ks_eq hm i
      have rb := kb_rng hm i
      have rs := ks_rng hm i
      obtain ⟨kP, eP⟩ := hK.prom rb.1 rb.2
      obtain ⟨kV, eV⟩ := hK.vote rb.1 rb.2 rs.1 rs.2
      have cP := c_AccPromiseQ a hK.sz (kb ms i)
      have cV := c_AccVoteQ a hK.sz (kb ms i) (ks ms i) (zeroE true) ⟨Nat.zero_le _, Nat.zero_le _⟩
      repeat' (first | refine And.intro ?_ ?_ | exact tf | exact ft | refine tt ?_ | refine ff ?_ | exact ⟨trivial⟩ | exact sAll rfl | exact sF1 rfl | exact sBld (by repeat' (first | exact trivial | rfl | exact Nat.le_of_ble_eq_true rfl | refine And.intro ?_ ?_)) rfl | exact sBS (by repeat' (first | exact trivial | rfl | exact Nat.le_of_ble_eq_true rfl | refine And.intro ?_ ?_)) rfl rfl rfl rfl | exact sBSF (by repeat' (first | exact trivial | rfl | exact Nat.le_of_ble_eq_true rfl | refine And.intro ?_ ?_)) rfl rfl rfl rfl | exact sLe rfl | exact Chk.mk (by kernel_rfl) | exact ⟨Chk.mk (by kernel_rfl)⟩ | exact sLeEq rfl rfl | refine fun h => ?_)
      all_goals dsimp only at *
      all_goals try (exact ⟨rfl⟩)
      all_goals try (exact trivial)
      all_goals try (exact ⟨by decide⟩)
      all_goals try (exact ⟨fun _ _ => trivial⟩)
      all_goals try (exact ⟨trivial, trivial⟩)
      all_goals try (exact sLend (by repeat' constructor) cP (by rw [hkb]; rfl))
      all_goals try (exact sLend (by repeat' constructor) cV (by rw [hkb, hks]; rfl))
      all_goals simp only [decide_eq_true_eq, decide_eq_false_iff_not, List.length_map, Bool.not_eq_true', Bool.not_eq_false', Bool.not_eq_eq_eq_not, Bool.not_true, Bool.not_false, bne_iff_ne, ne_eq, bne_eq_false_iff_eq, beq_iff_eq, beq_eq_false_iff_ne] at *
      all_goals try (exact sRow (by omega) (by rw [Int.toNat_natCast, List.getElem?_map, List.getD_eq_getElem?_getD, List.getElem?_eq_getElem (by omega)]; rfl) rfl)
      all_goals try (exfalso; rw [hkb, eP] at h; simp at h; done)
      all_goals try (exfalso; rw [hkb, eV] at h; simp at h; done)
      all_goals try simp only [hkb] at *
      · refine ⟨(i + 1, (accPromise a (kb ms i)).1, kb ms i), [], by dsimp only; omega, ⟨by dsimp only; omega, by rw [if_pos (by assumption)] at kP; exact kP⟩, ?_⟩
        repeat' (first | exact trivial | exact ⟨trivial⟩ | exact Side.mk rfl | exact sF1 rfl | exact Chk.mk (by kernel_rfl) | exact ⟨Chk.mk (by kernel_rfl)⟩ | exact ⟨by rw [wrapi] <;> omega⟩ | refine And.intro ?_ ?_ | rfl)
      · refine ⟨(i + 1, (accPromise a (kb ms i)).1, top), [], by dsimp only; omega, ⟨by dsimp only; omega, by rw [if_neg (by assumption)] at kP; exact kP⟩, ?_⟩
        repeat' (first | exact trivial | exact ⟨trivial⟩ | exact Side.mk rfl | exact sF1 rfl | exact Chk.mk (by kernel_rfl) | exact ⟨Chk.mk (by kernel_rfl)⟩ | exact ⟨by rw [wrapi] <;> omega⟩ | refine And.intro ?_ ?_ | rfl)
      · refine ⟨(i + 1, (accVote a (kb ms i) (ks ms i) (zeroE true)).1, kb ms i), [], by dsimp only; omega, ⟨by dsimp only; omega, by rw [if_pos (by assumption)] at kV; exact kV⟩, ?_⟩
        repeat' (first | exact trivial | exact ⟨trivial⟩ | exact Side.mk rfl | exact sF1 rfl | exact Chk.mk (by kernel_rfl) | exact ⟨Chk.mk (by kernel_rfl)⟩ | exact ⟨by rw [wrapi] <;> omega⟩ | refine And.intro ?_ ?_ | rfl)
      · refine ⟨(i + 1, (accVote a (kb ms i) (ks ms i) (zeroE true)).1, top), [], by dsimp only; omega, ⟨by dsimp only; omega, by rw [if_neg (by assumption)] at kV; exact kV⟩, ?_⟩
        repeat' (first | exact trivial | exact ⟨trivial⟩ | exact Side.mk rfl | exact sF1 rfl | exact Chk.mk (by kernel_rfl) | exact ⟨Chk.mk (by kernel_rfl)⟩ | exact ⟨by rw [wrapi] <;> omega⟩ | refine And.intro ?_ ?_ | rfl)
      all_goals
        clear cP cV kP kV eP eV h
        have hvl := accOk_len hK.ok
        refine W.go [(99, .con false [] [] [] sAc), (800026, .row [])] TTok hmo ?_
        repeat' (first | refine And.intro ?_ ?_ | exact tf | exact ft | refine tt ?_ | refine ff ?_ | exact ⟨trivial⟩ | exact sAll rfl | exact sF1 rfl | exact sBld (by repeat' (first | exact trivial | rfl | exact Nat.le_of_ble_eq_true rfl | refine And.intro ?_ ?_)) rfl | exact sBS (by repeat' (first | exact trivial | rfl | exact Nat.le_of_ble_eq_true rfl | refine And.intro ?_ ?_)) rfl rfl rfl rfl | exact sBSF (by repeat' (first | exact trivial | rfl | exact Nat.le_of_ble_eq_true rfl | refine And.intro ?_ ?_)) rfl rfl rfl rfl | exact sLe rfl | exact Chk.mk (by kernel_rfl) | exact ⟨Chk.mk (by kernel_rfl)⟩ | exact sLeEq rfl rfl | refine fun h => ?_)
      all_goals
        refine W.loopC (D := Nat) (fun d => [(92, .row (a.votes.getD d default).cells)]) TTok hmo
          (fun d => ⟨120, 1, [(0, .one (.fz (bs.map u8))), (5, .one (.ptr 0 0 0)), (6, oi top), (13, oi d)], [(0, .box a.cells)]⟩) (fun d => a.votes.length - d) (fun d => d ≤ a.votes.length) 0 [] (Nat.zero_le _) ?_ ?_
      all_goals first
        | (focus (repeat' (first | exact trivial | exact ⟨trivial⟩ | exact Side.mk rfl | exact sF1 rfl | exact Chk.mk (by kernel_rfl) | exact ⟨Chk.mk (by kernel_rfl)⟩ | refine And.intro ?_ ?_ | rfl)); done)
        | (intro k hk
           repeat' (first | refine And.intro ?_ ?_ | exact tf | exact ft | refine tt ?_ | refine ff ?_ | exact ⟨trivial⟩ | exact sAll rfl | exact sF1 rfl | exact sBld (by repeat' (first | exact trivial | rfl | exact Nat.le_of_ble_eq_true rfl | refine And.intro ?_ ?_)) rfl | exact sBS (by repeat' (first | exact trivial | rfl | exact Nat.le_of_ble_eq_true rfl | refine And.intro ?_ ?_)) rfl rfl rfl rfl | exact sBSF (by repeat' (first | exact trivial | rfl | exact Nat.le_of_ble_eq_true rfl | refine And.intro ?_ ?_)) rfl rfl rfl rfl | exact sLe rfl | exact Chk.mk (by kernel_rfl) | exact ⟨Chk.mk (by kernel_rfl)⟩ | exact sLeEq rfl rfl | refine fun h => ?_)
           all_goals simp only [decide_eq_true_eq, decide_eq_false_iff_not, List.length_map, Bool.not_eq_true', Bool.not_eq_false', Bool.not_eq_eq_eq_not, Bool.not_true, Bool.not_false, bne_iff_ne, ne_eq, bne_eq_false_iff_eq, beq_iff_eq, beq_eq_false_iff_ne] at *
           all_goals try (exact sRow (by omega) (by rw [Int.toNat_natCast, List.getElem?_map, List.getD_eq_getElem?_getD, List.getElem?_eq_getElem (by omega)]; rfl) rfl)
           all_goals try (first | exact ⟨trivial, trivial⟩ | exact ⟨Nat.le_of_ble_eq_true rfl, trivial⟩ | exact ⟨trivial, Nat.le_of_ble_eq_true rfl, trivial⟩ | exact ⟨Nat.le_of_ble_eq_true rfl, trivial, trivial⟩)
           all_goals try (exfalso; revert h; refine Int.not_lt.2 ?_; refine (accOk_iff.1 hK.ok).2.2 _ (getD_mem (xs := a.votes) (i := k) ?_); omega)
           all_goals try (refine ⟨k + 1, [], by omega, by omega, ?_⟩; focus (repeat' (first | exact trivial | exact ⟨trivial⟩ | exact Side.mk rfl | exact sF1 rfl | exact Chk.mk (by kernel_rfl) | exact ⟨Chk.mk (by kernel_rfl)⟩ | exact ⟨by rw [wrapi] <;> omega⟩ | refine And.intro ?_ ?_ | rfl)))
           all_goals dsimp only [sAc] at *
           all_goals try (exact ⟨c_DrawAccOk bs hb⟩)
           all_goals try (exact ⟨fun _ _ => trivial⟩)
           all_goals
             rename_i o ho
             obtain ⟨o, rfl⟩ : ∃ o2 : Acc, o2 = o := ⟨o, rfl⟩
             have so : o.ok lim := ⟨Nat.le_trans ho.1 (by decide), ho.2.lim⟩
             have hp : (a.p == top) = true := by rw [hK.p]; simp
             have hko := hK.ok
             refine W.go [(106, .res (ob (accOk a))), (110, .res (ob (accOk o))), (112, .res (ob (accOk o))), (118, .res (ob (decide (o = o))))] TTok hmo ?_
             repeat' (first | refine And.intro ?_ ?_ | exact tf | exact ft | refine tt ?_ | refine ff ?_ | exact ⟨trivial⟩ | exact sAll rfl | exact sF1 rfl | exact sBld (by repeat' (first | exact trivial | rfl | exact Nat.le_of_ble_eq_true rfl | refine And.intro ?_ ?_)) rfl | exact sBS (by repeat' (first | exact trivial | rfl | exact Nat.le_of_ble_eq_true rfl | refine And.intro ?_ ?_)) rfl rfl rfl rfl | exact sBSF (by repeat' (first | exact trivial | rfl | exact Nat.le_of_ble_eq_true rfl | refine And.intro ?_ ?_)) rfl rfl rfl rfl | exact sLe rfl | exact Chk.mk (by kernel_rfl) | exact ⟨Chk.mk (by kernel_rfl)⟩ | exact sLeEq rfl rfl | exact sAnd (by repeat' constructor) (c_impl_AccOk a hK.sz) | exact sAnd (by repeat' constructor) (c_impl_AccOk o so) | exact sAnd (by repeat' constructor) (c_spec_AccOk o so) | exact sAnd (by repeat' constructor) (c_impl_AccSame o o so so) | refine fun h => ?_)
           all_goals try (exfalso; simp_all; done)
           all_goals try (exact ⟨trivial, trivial⟩)
           all_goals try (apply exU'; refine ⟨[], [], trivial, ?_⟩; focus (repeat' (first | exact trivial | exact ⟨trivial⟩ | exact Side.mk rfl | exact sF1 rfl | exact Chk.mk (by kernel_rfl) | exact ⟨Chk.mk (by kernel_rfl)⟩ | exact ⟨by simp⟩ | refine And.intro ?_ ?_ | rfl)))
           all_goals skip)
end Mg

/- What the row's arguments read as. No condition. -/
namespace Mg
open Go Go.RowKit
set_option maxRecDepth 100000
set_option linter.unusedVariables false

theorem TTlay : LOk TT := fun t i h => by
  have h1 : (tyL.all fun q => q.2.lay TT) = true := by kernel_rfl
  have h2 : (t, i) ∈ tyL := look_mem h
  exact List.all_eq_true.1 h1 _ h2

theorem fit_two {n t : Nat} {cs : List MC} {i : TI} (h : fit TT n t cs) (ht : TT t = some i) (hk : i.k = .struct [(0, 3), (1, 3)]) : ∃ x : Two, cs = x.cells := by
  obtain ⟨n, a, r, rfl, ha, b, r', rfl, hb, rfl⟩ := fit_struct h ht hk
  obtain ⟨x, rfl, _⟩ := fit_int ha (i := ⟨1, 8, .int .i64, [.int .i64]⟩) rfl rfl
  obtain ⟨y, rfl, _⟩ := fit_int hb (i := ⟨1, 8, .int .i64, [.int .i64]⟩) rfl rfl
  exact ⟨⟨x, y⟩, rfl⟩
theorem fit_twos {n t e : Nat} {cs : List MC} {i ie : TI} (h : fit TT n t cs) (ht : TT t = some i) (hk : i.k = .slice e) (he : TT e = some ie) (hke : ie.k = .struct [(0, 3), (1, 3)]) : ∃ xs : List Two, cs = [.fz (xs.map Two.cells)] ∧ xs.length ≤ maxLen := by
  obtain ⟨rows, rfl, hl, hr⟩ := fit_slice h ht hk
  obtain ⟨xs, rfl, _⟩ := rows_data (c := Two.cells) (p := fun _ => True) fun r hr' => by
    obtain ⟨n, hn⟩ := hr r hr'
    obtain ⟨x, hx⟩ := fit_two hn he hke
    exact ⟨x, hx, trivial⟩
  exact ⟨xs, rfl, by simpa using hl⟩
theorem fit_run {n : Nat} {cs : List MC} (h : fit TT n 57 cs) : ∃ x : Run, cs = x.cells ∧ x.ok maxLen := by
  obtain ⟨n, a, r, rfl, ha, b, r', rfl, hb, c, r'', rfl, hc, d, r3, rfl, hd, rfl⟩ := fit_struct h (i := ⟨4, 64, .struct [(0, 54), (1, 55), (2, 3), (3, 3)], [.nil, .nil, .int .i64, .int .i64]⟩) rfl rfl
  obtain ⟨xs, rfl, hx⟩ := fit_twos ha (i := ⟨1, 24, .slice 144, [.nil]⟩) (ie := ⟨2, 16, .struct [(0, 3), (1, 3)], [.int .i64, .int .i64]⟩) rfl rfl rfl rfl
  obtain ⟨ys, rfl, hy⟩ := fit_twos hb (i := ⟨1, 24, .slice 146, [.nil]⟩) (ie := ⟨2, 16, .struct [(0, 3), (1, 3)], [.int .i64, .int .i64]⟩) rfl rfl rfl rfl
  obtain ⟨x, rfl, _⟩ := fit_int hc (i := ⟨1, 8, .int .i64, [.int .i64]⟩) rfl rfl
  obtain ⟨y, rfl, _⟩ := fit_int hd (i := ⟨1, 8, .int .i64, [.int .i64]⟩) rfl rfl
  exact ⟨⟨xs, ys, x, y⟩, rfl, hx, hy⟩
theorem fit_entry {n : Nat} {cs : List MC} (h : fit TT n 59 cs) : ∃ x : Entry, cs = x.cells ∧ x.ok maxLen := by
  obtain ⟨n, a, r, rfl, ha, b, r', rfl, hb, c, r'', rfl, hc, rfl⟩ := fit_struct h (i := ⟨7, 88, .struct [(0, 4), (1, 53), (3, 57)], [.bool, .int .i64, .int .i64, .nil, .nil, .int .i64, .int .i64]⟩) rfl rfl
  obtain ⟨x, rfl⟩ := fit_bool ha (i := ⟨1, 1, .bool, [.bool]⟩) rfl rfl
  obtain ⟨q, rfl⟩ := fit_two hb (i := ⟨2, 16, .struct [(0, 3), (1, 3)], [.int .i64, .int .i64]⟩) rfl rfl
  obtain ⟨y, rfl, hy⟩ := fit_run hc
  exact ⟨⟨x, q, y⟩, by simp [Entry.cells], hy⟩
theorem fit_vote {n : Nat} {cs : List MC} (h : fit TT n 105 cs) : ∃ x : Vote, cs = x.cells ∧ x.ok maxLen := by
  obtain ⟨n, a, r, rfl, ha, b, r', rfl, hb, rfl⟩ := fit_struct h (i := ⟨8, 96, .struct [(0, 3), (1, 59)], [.int .i64, .bool, .int .i64, .int .i64, .nil, .nil, .int .i64, .int .i64]⟩) rfl rfl
  obtain ⟨x, rfl, _⟩ := fit_int ha (i := ⟨1, 8, .int .i64, [.int .i64]⟩) rfl rfl
  obtain ⟨y, rfl, hy⟩ := fit_entry hb
  exact ⟨⟨x, y⟩, by simp [Vote.cells], hy⟩
theorem fit_votes {n : Nat} {cs : List MC} (h : fit TT n 22 cs) : ∃ xs : List Vote, cs = [.fz (xs.map Vote.cells)] ∧ VotesOk maxLen xs := by
  obtain ⟨rows, rfl, hl, hr⟩ := fit_slice h (i := ⟨1, 24, .slice 105, [.nil]⟩) rfl rfl
  obtain ⟨xs, rfl, hv⟩ := rows_data (c := Vote.cells) (p := fun v => v.ok maxLen) fun r hr' => by
    obtain ⟨n, hn⟩ := hr r hr'
    exact fit_vote hn
  exact ⟨xs, rfl, by simpa using hl, hv⟩
theorem fit_acc {n : Nat} {cs : List MC} (h : fit TT n 24 cs) : ∃ x : Acc, cs = x.cells ∧ x.ok maxLen := by
  obtain ⟨n, a, r, rfl, ha, b, r', rfl, hb, rfl⟩ := fit_struct h (i := ⟨2, 32, .struct [(0, 3), (1, 22)], [.int .i64, .nil]⟩) rfl rfl
  obtain ⟨x, rfl, _⟩ := fit_int ha (i := ⟨1, 8, .int .i64, [.int .i64]⟩) rfl rfl
  obtain ⟨xs, rfl, hx⟩ := fit_votes hb
  exact ⟨⟨x, xs⟩, rfl, hx⟩
end Mg

/- What a row's text of bytes reads as. No condition. -/
namespace Mg
open Go Go.RowKit
set_option maxRecDepth 100000
set_option linter.unusedVariables false
theorem fit_code {n : Nat} {c : MC} (h : fit TT n 33 [c]) : ∃ bs : List Int, c = .fz (bs.map u8) ∧ Code8 bs := by
  obtain ⟨rows, e, hl, hr⟩ := fit_slice h (i := ⟨1, 24, .slice 5, [.nil]⟩) rfl rfl
  obtain ⟨bs, rfl, hb⟩ := rows_data (c := u8) (p := fun b : Int => 0 ≤ b ∧ b ≤ 255) fun r hr' => by
    obtain ⟨n, hn⟩ := hr r hr'
    obtain ⟨m, rfl, h1, h2⟩ := fit_int hn (i := ⟨1, 1, .int .u8, [.int .u8]⟩) rfl rfl
    exact ⟨m, rfl, h1, h2⟩
  simp only [List.cons.injEq, and_true] at e
  exact ⟨bs, e, by simpa using hl, hb⟩
end Mg

/- Promises and votes of the other side, by what they come to. No condition. -/
namespace Mg
open Go Go.RowKit
set_option maxRecDepth 100000
set_option linter.unusedVariables false
set_option linter.unusedSimpArgs false
attribute [local irreducible] W Pure Con
theorem take_step {vs : List Vote} {i : Nat} (h : i < vs.length) : vs.take (i + 1) = vs.take i ++ [vs.getD i default] := by
  rw [List.take_succ_eq_append_getElem h, getD_get h]
theorem sTkR {α : Type} [Inhabited α] {c : α → List MC} {xs : List α} {i : Nat} {rows2 : List (List MC)} (h : i < xs.length) (hr : rows2 = [c (xs.getD i default)]) : Side ((xs.take (i + 1)).map c = (xs.take i).map c ++ rows2) :=
  ⟨by rw [List.take_succ_eq_append_getElem h, List.map_append, hr, getD_get h]; rfl⟩
theorem sTkL {α : Type} {xs : List α} {i m n : Nat} (h : i < xs.length) (hm : m = (xs.take i).length) (hn : n = 1) : Side ((xs.take (i + 1)).length = m + n) := ⟨by subst hm hn; simp; omega⟩
theorem sTkL2 {α : Type} {xs : List α} {i m n : Nat} (h : i < xs.length) (hm : m = (xs.take i).length) (hn : n = 1) : Side (m + n = (xs.take (i + 1)).length) := ⟨by subst hm hn; simp; omega⟩
set_option maxHeartbeats 4000000 in
theorem c_l6ListP (vs : List Vote) (hx : vs.length ≤ 1000000) (hv : VsOk lim vs) : Pure PP false 99 [.one (.fz (vs.map Vote.cells))] (.one (.own (vs.map Vote.cells))) := by
  refine Pure.vc [] TTok hmo Go.Proofs.Try.func99 (by kernel_rfl) rfl (by kernel_rfl) ?_
  repeat' (first | refine And.intro ?_ ?_ | exact tf | exact ft | refine tt ?_ | refine ff ?_ | exact ⟨trivial⟩ | exact sAll rfl | exact sF1 rfl | exact sBld (by repeat' (first | exact trivial | rfl | exact Nat.le_of_ble_eq_true rfl | refine And.intro ?_ ?_)) rfl | exact sBS (by repeat' (first | exact trivial | rfl | exact Nat.le_of_ble_eq_true rfl | refine And.intro ?_ ?_)) rfl rfl rfl rfl | exact sBSF (by repeat' (first | exact trivial | rfl | exact Nat.le_of_ble_eq_true rfl | refine And.intro ?_ ?_)) rfl rfl rfl rfl | exact sLe rfl | exact Chk.mk (by kernel_rfl) | exact ⟨Chk.mk (by kernel_rfl)⟩ | exact sLeEq rfl rfl | refine fun h => ?_)
  · refine W.vslot 3 rfl ?_
    refine W.loopC (D := Nat) (fun i => [(15, .row (vs.getD i default).cells), (20, .row (vs.getD i default).cells), (23, .res (.agg (vs.getD i default).e.cells)), (25, .row [])]) TTok hmo
      (fun i => ⟨28, 1, [(0, .one (.ag (vs.map Vote.cells))), (3, .one (.ref 0 0 (vs.take i).length)), (4, oi i)], [(0, .arr ((vs.take i).map Vote.cells))]⟩) (fun i => vs.length - i) (fun i => i ≤ vs.length) 0 [] (Nat.zero_le _) ?_ ?_
    · repeat' (first | exact trivial | exact ⟨trivial⟩ | exact Side.mk rfl | exact sF1 rfl | exact Chk.mk (by kernel_rfl) | exact ⟨Chk.mk (by kernel_rfl)⟩ | exact sMapF Vote.flat | refine And.intro ?_ ?_ | rfl)
    · intro i hi
      repeat' (first | refine And.intro ?_ ?_ | exact tf | exact ft | refine tt ?_ | refine ff ?_ | exact ⟨trivial⟩ | exact sAll rfl | exact sF1 rfl | exact sBld (by repeat' (first | exact trivial | rfl | exact Nat.le_of_ble_eq_true rfl | refine And.intro ?_ ?_)) rfl | exact sBS (by repeat' (first | exact trivial | rfl | exact Nat.le_of_ble_eq_true rfl | refine And.intro ?_ ?_)) rfl rfl rfl rfl | exact sBSF (by repeat' (first | exact trivial | rfl | exact Nat.le_of_ble_eq_true rfl | refine And.intro ?_ ?_)) rfl rfl rfl rfl | exact sLe rfl | exact Chk.mk (by kernel_rfl) | exact ⟨Chk.mk (by kernel_rfl)⟩ | exact sLeEq rfl rfl | refine fun h => ?_)
      all_goals try (exact ⟨rfl⟩)
      all_goals try (exact trivial)
      all_goals try (exact ⟨⟨⟨trivial, trivial, trivial, trivial, trivial, trivial, trivial, trivial⟩, trivial⟩, c_l5Entry (vs.getD i default).e (hv.get i)⟩)
      all_goals try (exact sApp (xs := vs.take i) (c := Vote.cells) (by simp) (fun _ => rfl) rfl (by simp; omega) rfl rfl)
      all_goals simp only [decide_eq_true_eq, decide_eq_false_iff_not, List.length_map, Bool.not_eq_true', Bool.not_eq_false', Bool.not_eq_eq_eq_not, Bool.not_true, Bool.not_false, bne_iff_ne, ne_eq, bne_eq_false_iff_eq, beq_iff_eq, beq_eq_false_iff_ne] at *
      all_goals try (exact sRow (by omega) (by rw [Int.toNat_natCast, List.getElem?_map, List.getD_eq_getElem?_getD, List.getElem?_eq_getElem (by omega)]; rfl) rfl)
      all_goals try (first | exact ⟨trivial, trivial⟩ | exact ⟨Nat.le_of_ble_eq_true rfl, trivial⟩ | exact ⟨trivial, Nat.le_of_ble_eq_true rfl, trivial⟩ | exact ⟨Nat.le_of_ble_eq_true rfl, trivial, trivial⟩)
      · refine ⟨i + 1, [(0, 1)], by omega, by omega, ?_⟩
        repeat' (first | exact trivial | exact ⟨trivial⟩ | exact Side.mk rfl | exact sF1 rfl | exact Chk.mk (by kernel_rfl) | exact ⟨Chk.mk (by kernel_rfl)⟩ | exact sTkR (by omega) rfl | exact sTkL (by omega) rfl rfl | exact sTkL2 (by omega) rfl rfl | exact sMapF Vote.flat | exact ⟨by rw [wrapi] <;> omega⟩ | refine And.intro ?_ ?_ | rfl)
      · exact ⟨⟨trivial, trivial⟩, ⟨trivial, trivial, by rw [List.take_of_length_le (by omega)], allF Vote.frz⟩, trivial⟩
theorem c_l6CopyP (a : Acc) (ha : a.ok 1000000) : Pure PP false 70 [.agg a.cells] (.agg [i6 a.p, .own (a.votes.map Vote.cells)]) := by
  have hv : VsOk lim a.votes := fun v hv => ⟨Nat.le_trans (ha.2 v hv).1 (by decide), Nat.le_trans (ha.2 v hv).2 (by decide)⟩
  refine Pure.vc [(7, .res (.one (.own (a.votes.map Vote.cells)))), (900001, .row [i6 0, i6 1, i6 2, i6 3, i6 4, i6 5, i6 6])] TTok hmo Go.Proofs.Try.func70 (by kernel_rfl) rfl (by kernel_rfl) ?_
  repeat' (first | refine And.intro ?_ ?_ | exact tf | exact ft | refine tt ?_ | refine ff ?_ | exact ⟨trivial⟩ | exact sAll rfl | exact sF1 rfl | exact sBld (by repeat' (first | exact trivial | rfl | exact Nat.le_of_ble_eq_true rfl | refine And.intro ?_ ?_)) rfl | exact sBS (by repeat' (first | exact trivial | rfl | exact Nat.le_of_ble_eq_true rfl | refine And.intro ?_ ?_)) rfl rfl rfl rfl | exact sBSF (by repeat' (first | exact trivial | rfl | exact Nat.le_of_ble_eq_true rfl | refine And.intro ?_ ?_)) rfl rfl rfl rfl | exact sLe rfl | exact Chk.mk (by kernel_rfl) | exact ⟨Chk.mk (by kernel_rfl)⟩ | exact sLeEq rfl rfl | exact sAnd (by repeat' constructor) (c_l6ListP _ ha.1 hv) | refine fun h => ?_)
  all_goals try (exact ⟨rfl⟩)
  all_goals try (exact trivial)
  exact ⟨⟨Nat.le_of_ble_eq_true rfl, trivial⟩, rfl, ⟨rfl, by simp, rfl, allF Vote.frz⟩, trivial⟩
def promP (p b : Int) : Int × Bool := if inr b 1 3000 = true ∧ ¬ b < p then (b, true) else (p, false)
def tProX (vs : List Vote) (q : Int × Bool) : ConT := ⟨Unit, fun _ => True, fun _ => .tup [.agg [i6 q.1, .ref 0 0 vs.length], ob q.2], fun _ => [.arr (vs.map Vote.cells)]⟩
theorem c_l6PromiseX (vs : List Vote) (p b : Int) : Con PP 71 [.agg [i6 p, .ref 0 0 vs.length], oi b] [.arr (vs.map Vote.cells)] 1
    (tProX vs (promP p b)).p (tProX vs (promP p b)).r (tProX vs (promP p b)).os := by
  generalize hq : promP p b = q
  unfold promP at hq
  refine Con.vc [(7, .res (ob (inr b 1 3000)))] TTok hmo Go.Proofs.Try.func71 rfl (by kernel_rfl) rfl (by kernel_rfl) ?_
  repeat' (first | refine And.intro ?_ ?_ | exact tf | exact ft | refine tt ?_ | refine ff ?_ | exact ⟨trivial⟩ | exact sAll rfl | exact sF1 rfl | exact sBld (by repeat' (first | exact trivial | rfl | exact Nat.le_of_ble_eq_true rfl | refine And.intro ?_ ?_)) rfl | exact sBS (by repeat' (first | exact trivial | rfl | exact Nat.le_of_ble_eq_true rfl | refine And.intro ?_ ?_)) rfl rfl rfl rfl | exact sBSF (by repeat' (first | exact trivial | rfl | exact Nat.le_of_ble_eq_true rfl | refine And.intro ?_ ?_)) rfl rfl rfl rfl | exact sLe rfl | exact Chk.mk (by kernel_rfl) | exact ⟨Chk.mk (by kernel_rfl)⟩ | exact sLeEq rfl rfl | exact sAnd (by repeat' constructor) (c_l6Bal _) | refine fun h => ?_)
  all_goals try (first | exact ⟨trivial, trivial⟩ | exact ⟨Nat.le_of_ble_eq_true rfl, trivial⟩ | exact ⟨trivial, Nat.le_of_ble_eq_true rfl, trivial⟩ | exact ⟨Nat.le_of_ble_eq_true rfl, trivial, trivial⟩)
  · obtain rfl : (p, false) = q := by rw [← hq, if_neg (by simp_all)]
    apply exU'; refine ⟨[], [], trivial, ?_⟩
    repeat' (first | exact trivial | exact ⟨trivial⟩ | exact Side.mk rfl | exact sF1 rfl | exact Chk.mk (by kernel_rfl) | exact ⟨Chk.mk (by kernel_rfl)⟩ | exact sMapF Vote.flat | refine And.intro ?_ ?_ | rfl)
  · obtain rfl : (b, true) = q := by rw [← hq, if_pos (by simp_all)]
    apply exU'; refine ⟨[], [], trivial, ?_⟩
    repeat' (first | exact trivial | exact ⟨trivial⟩ | exact Side.mk rfl | exact sF1 rfl | exact Chk.mk (by kernel_rfl) | exact ⟨Chk.mk (by kernel_rfl)⟩ | exact sMapF Vote.flat | refine And.intro ?_ ?_ | rfl)
  · obtain rfl : (p, false) = q := by rw [← hq, if_neg (by simp_all)]
    apply exU'; refine ⟨[], [], trivial, ?_⟩
    repeat' (first | exact trivial | exact ⟨trivial⟩ | exact Side.mk rfl | exact sF1 rfl | exact Chk.mk (by kernel_rfl) | exact ⟨Chk.mk (by kernel_rfl)⟩ | exact sMapF Vote.flat | refine And.intro ?_ ?_ | rfl)
/-- What is cast, of what is right. -/
def castA (a : Acc) (b slot : Int) (e : Entry) : Acc × Bool :=
  if (inr slot 0 39 = true ∧ entryOk e = true) ∧ (promP a.p b).2 = true then (⟨b, (padV a.votes (slot.toNat + 1)).set slot.toNat ⟨b, e⟩⟩, true) else (a, false)
def tCaX (q : Acc × Bool) : ConT := ⟨Unit, fun _ => True, fun _ => .tup [.agg [i6 q.1.p, .ref 0 0 q.1.votes.length], ob q.2], fun _ => [.arr (q.1.votes.map Vote.cells)]⟩
set_option maxHeartbeats 4000000 in
theorem c_l6CastX (vs : List Vote) (p b slot : Int) (e : Entry) (hl : vs.length ≤ 1000) (he : e.ok lim) : Con PP 69 [.agg [i6 p, .ref 0 0 vs.length], oi b, oi slot, .agg e.cells] [.arr (vs.map Vote.cells)] 0
    (tCaX (castA ⟨p, vs⟩ b slot e)).p (tCaX (castA ⟨p, vs⟩ b slot e)).r (tCaX (castA ⟨p, vs⟩ b slot e)).os := by
  generalize hq : castA ⟨p, vs⟩ b slot e = q
  unfold castA at hq
  have hT : (promP p b).2 = true → (promP p b).1 = b := fun h => by unfold promP at h ⊢; split at h <;> simp_all
  have cP := c_l6PromiseX vs p b
  dsimp only at hq
  generalize promP p b = pr at *
  obtain ⟨p1, b1⟩ := pr
  dsimp only at hq hT
  refine Con.vc [(20, .res (ob (entryOk e))), (27, .con false [0] [] [] (fun _ _ => tProX vs (p1, b1))), (49, .res (.agg e.cells))] TTok hmo Go.Proofs.Try.func69 rfl (by kernel_rfl) rfl (by kernel_rfl) ?_
  repeat' (first | refine And.intro ?_ ?_ | exact tf | exact ft | refine tt ?_ | refine ff ?_ | exact ⟨trivial⟩ | exact sAll rfl | exact sF1 rfl | exact sBld (by repeat' (first | exact trivial | rfl | exact Nat.le_of_ble_eq_true rfl | refine And.intro ?_ ?_)) rfl | exact sBS (by repeat' (first | exact trivial | rfl | exact Nat.le_of_ble_eq_true rfl | refine And.intro ?_ ?_)) rfl rfl rfl rfl | exact sBSF (by repeat' (first | exact trivial | rfl | exact Nat.le_of_ble_eq_true rfl | refine And.intro ?_ ?_)) rfl rfl rfl rfl | exact sLe rfl | exact Chk.mk (by kernel_rfl) | exact ⟨Chk.mk (by kernel_rfl)⟩ | exact sLeEq rfl rfl | exact sAnd (by repeat' constructor) (c_spec_CertEntry e he) | exact sAnd (by repeat' constructor) (c_l5Entry e he) | refine fun h => ?_)
  all_goals try dsimp only [tProX] at *
  all_goals try (exact ⟨fun _ _ => trivial⟩)
  all_goals try (exact ⟨fun _ _ => ⟨Nat.le_refl _, trivial⟩⟩)
  all_goals try (exact ⟨cP⟩)
  all_goals try (exact ⟨allF Vote.frz, trivial⟩)
  all_goals try (first | exact ⟨trivial, trivial⟩ | exact ⟨Nat.le_of_ble_eq_true rfl, trivial⟩ | exact ⟨trivial, Nat.le_of_ble_eq_true rfl, trivial⟩ | exact ⟨Nat.le_of_ble_eq_true rfl, trivial, trivial⟩)
  all_goals try (exact ⟨fun _ _ => ⟨allF Vote.frz, trivial⟩⟩)
  · obtain rfl : (⟨p, vs⟩, false) = q := by rw [← hq, if_neg (by simp_all)]
    apply exU'; refine ⟨[], [], trivial, ?_⟩
    repeat' (first | exact trivial | exact ⟨trivial⟩ | exact Side.mk rfl | exact sF1 rfl | exact Chk.mk (by kernel_rfl) | exact ⟨Chk.mk (by kernel_rfl)⟩ | exact sMapF Vote.flat | refine And.intro ?_ ?_ | rfl)
  · obtain rfl : (⟨p, vs⟩, false) = q := by rw [← hq, if_neg (by simp_all)]
    apply exU'; refine ⟨[], [], trivial, ?_⟩
    repeat' (first | exact trivial | exact ⟨trivial⟩ | exact Side.mk rfl | exact sF1 rfl | exact Chk.mk (by kernel_rfl) | exact ⟨Chk.mk (by kernel_rfl)⟩ | exact sMapF Vote.flat | refine And.intro ?_ ?_ | rfl)
  · have hs0 : 0 ≤ slot ∧ slot < 40 := by
      have g1 := of_decide_eq_false ‹decide (slot < 0) = false›
      have g2 := of_decide_eq_false ‹decide (slot ≥ 40) = false›
      omega
    have hb : b1 = true := by cases b1 <;> simp_all
    subst hb
    obtain rfl := hT rfl
    obtain rfl : (⟨p1, (padV vs (slot.toNat + 1)).set slot.toNat ⟨p1, e⟩⟩, true) = q := by rw [← hq, if_pos ⟨⟨inr_iff.2 ⟨hs0.1, by omega⟩, by simp_all⟩, rfl⟩]
    refine W.loopC (D := List Vote) (fun d => [(41, .row [])]) TTok hmo
      (fun d => ⟨53, 6, [(1, oi p1), (2, oi slot), (7, .one (.ptr 2 0 0)), (8, .one (.ptr 3 0 0)), (9, ob false), (10, .one (.ptr 4 0 0))],
        [(5, .arr (d.map Vote.cells)), (2, .box e.cells), (3, .box [i6 0, .nil]), (4, .box [i6 p1, .ref 5 0 d.length])]⟩) (fun d => slot.toNat + 1 - d.length)
      (fun d => d.length ≤ max vs.length (slot.toNat + 1) ∧ padV d (slot.toNat + 1) = padV vs (slot.toNat + 1)) vs [(5, 0)] ⟨by omega, rfl⟩ ?_ ?_
    · repeat' (first | exact trivial | exact ⟨trivial⟩ | exact Side.mk rfl | exact sF1 rfl | exact Chk.mk (by kernel_rfl) | exact ⟨Chk.mk (by kernel_rfl)⟩ | exact sMapF Vote.flat | refine And.intro ?_ ?_ | rfl)
    · intro d ⟨h1, h2⟩
      repeat' (first | refine And.intro ?_ ?_ | exact tf | exact ft | refine tt ?_ | refine ff ?_ | exact ⟨trivial⟩ | exact sAll rfl | exact sF1 rfl | exact sBld (by repeat' (first | exact trivial | rfl | exact Nat.le_of_ble_eq_true rfl | refine And.intro ?_ ?_)) rfl | exact sBS (by repeat' (first | exact trivial | rfl | exact Nat.le_of_ble_eq_true rfl | refine And.intro ?_ ?_)) rfl rfl rfl rfl | exact sBSF (by repeat' (first | exact trivial | rfl | exact Nat.le_of_ble_eq_true rfl | refine And.intro ?_ ?_)) rfl rfl rfl rfl | exact sLe rfl | exact Chk.mk (by kernel_rfl) | exact ⟨Chk.mk (by kernel_rfl)⟩ | exact sLeEq rfl rfl | exact sAnd (by repeat' constructor) (c_l5Entry e he) | refine fun h => ?_)
      all_goals try (exact sApp (xs := d) (c := Vote.cells) (by simp) (fun _ => rfl) rfl (by omega) rfl rfl)
      all_goals try (have hd := of_decide_eq_false ‹decide ((d.length : Int) ≤ slot) = false›)
      all_goals try (exact sIxO (c := Vote.cells) (by omega) (by omega) rfl (fun _ => rfl))
      all_goals try (exact sSt (c := Vote.cells) (m := 8) (xs := d) (by omega) (fun _ => rfl) rfl rfl)
      all_goals try (first | exact ⟨trivial, trivial⟩ | exact ⟨Nat.le_of_ble_eq_true rfl, trivial⟩ | exact ⟨trivial, Nat.le_of_ble_eq_true rfl, trivial⟩ | exact ⟨Nat.le_of_ble_eq_true rfl, trivial, trivial⟩)
      all_goals simp only [decide_eq_true_eq, decide_eq_false_iff_not, List.length_map, Bool.not_eq_true', Bool.not_eq_false', Bool.not_eq_eq_eq_not, Bool.not_true, Bool.not_false, bne_iff_ne, ne_eq, bne_eq_false_iff_eq, beq_iff_eq, beq_eq_false_iff_ne] at *
      · refine ⟨d ++ [default], [(5, 6)], by simp; omega, ⟨by simp; omega, padV_step h2 (by omega)⟩, ?_⟩
        repeat' (first | exact trivial | exact ⟨trivial⟩ | exact Side.mk rfl | exact sF1 rfl | exact Chk.mk (by kernel_rfl) | exact ⟨Chk.mk (by kernel_rfl)⟩ | exact sAppR rfl | exact sAppL rfl rfl | exact sAppL2 rfl rfl | exact sMapF Vote.flat | refine And.intro ?_ ?_ | rfl)
      · have he : padV vs (slot.toNat + 1) = d := h2.symm.trans (padV_end (by omega))
        rw [he]
        apply exU'; refine ⟨[(0, 5)], [], trivial, ?_⟩
        repeat' (first | exact trivial | exact ⟨trivial⟩ | exact Side.mk rfl | exact sF1 rfl | exact Chk.mk (by kernel_rfl) | exact ⟨Chk.mk (by kernel_rfl)⟩ | exact sMapF Vote.flat | exact ⟨setMap (xs := d) (by rw [mapGet (by omega)]; rfl)⟩ | exact sSetL rfl | refine And.intro ?_ ?_ | rfl)
  · obtain rfl : (⟨p, vs⟩, false) = q := by rw [← hq, if_neg (fun hh => by have g := (inr_iff.1 hh.1.1); simp_all; omega)]
    apply exU'; refine ⟨[], [], trivial, ?_⟩
    repeat' (first | exact trivial | exact ⟨trivial⟩ | exact Side.mk rfl | exact sF1 rfl | exact Chk.mk (by kernel_rfl) | exact ⟨Chk.mk (by kernel_rfl)⟩ | exact sMapF Vote.flat | refine And.intro ?_ ?_ | rfl)
  · obtain rfl : (⟨p, vs⟩, false) = q := by rw [← hq, if_neg (fun hh => by have g := (inr_iff.1 hh.1.1); simp_all; omega)]
    apply exU'; refine ⟨[], [], trivial, ?_⟩
    repeat' (first | exact trivial | exact ⟨trivial⟩ | exact Side.mk rfl | exact sF1 rfl | exact Chk.mk (by kernel_rfl) | exact ⟨Chk.mk (by kernel_rfl)⟩ | exact sMapF Vote.flat | refine And.intro ?_ ?_ | rfl)
end Mg
