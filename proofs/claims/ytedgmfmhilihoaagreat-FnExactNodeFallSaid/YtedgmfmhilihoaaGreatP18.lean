/- Parts of the abstract state logic and of the walks, one behind the other: BC, BD, E8, BP, BQ, E9. No condition. -/
import Derived.Test.YtedgmfmhilihoaaGreatP17
import Derived.Test.YtedgmfmhilihoaaGreatP11
import Derived.Test.YtedgmfmhilihoaaGreatP13
import Derived.Test.YtedgmfmhilihoaaGreatP15
/- Copies with nothing of the argument in them. No condition. -/
namespace Mg
open Go Go.RowKit
set_option maxRecDepth 100000
set_option linter.unusedVariables false
set_option linter.unusedSimpArgs false
attribute [local irreducible] W Pure Con
section
variable {α : Type} {c cA : α → List MC} {xs : List α} {i m : Nat}
/-- A list of which the first ones are one's own already. -/
def rowsG (c cA : α → List MC) (xs : List α) (i : Nat) : List (List MC) := (xs.take i).map c ++ (xs.drop i).map cA
theorem rowsG_len : (rowsG c cA xs i).length = xs.length := by simp [rowsG]; omega
theorem rowsG_all (h : xs.length ≤ i) : rowsG c cA xs i = xs.map c := by
  unfold rowsG; rw [List.take_of_length_le h, List.drop_of_length_le h]; simp
theorem rowsG_row (h1 : ∀ x, (c x).length = m) (h2 : ∀ x, (cA x).length = m) : ∀ r ∈ rowsG c cA xs i, r.length = m := fun r hr => by
  rcases List.mem_append.1 hr with hr | hr
  · obtain ⟨x, _, rfl⟩ := List.mem_map.1 hr; exact h1 x
  · obtain ⟨x, _, rfl⟩ := List.mem_map.1 hr; exact h2 x
theorem sFlG (h1 : ∀ x, (c x).all MC.flat = true) (h2 : ∀ x, (cA x).all MC.flat = true) : Side (∀ r ∈ rowsG c cA xs i, ∀ x ∈ r, x.flat = true) := ⟨fun r hr => by
  rcases List.mem_append.1 hr with hr | hr
  · obtain ⟨x, _, rfl⟩ := List.mem_map.1 hr; exact List.all_eq_true.1 (h1 x)
  · obtain ⟨x, _, rfl⟩ := List.mem_map.1 hr; exact List.all_eq_true.1 (h2 x)⟩
end
section
variable {α : Type} [Inhabited α] {c cA : α → List MC} {xs : List α} {i m : Nat}
theorem rowsG_get (h : i < xs.length) : (rowsG c cA xs i)[i]? = some (cA (xs.getD i default)) := by
  unfold rowsG
  have hl : ((xs.take i).map c).length = i := by simp; omega
  rw [List.getElem?_append_right (by omega), hl, Nat.sub_self, List.getElem?_map, List.getElem?_drop, Nat.add_zero, List.getElem?_eq_getElem h, getD_get h]; rfl
theorem rowsG_getD (h : i < xs.length) : (rowsG c cA xs i).getD (0 + i) [] = cA (xs.getD i default) := by
  rw [Nat.zero_add, List.getD_eq_getElem?_getD, rowsG_get h]; rfl
theorem rowsG_set {r : List MC} (h : i < xs.length) (hr : r = c (xs.getD i default)) : (rowsG c cA xs i).set (0 + i) r = rowsG c cA xs (i + 1) := by
  subst hr
  unfold rowsG
  have hl : ((xs.take i).map c).length = i := by simp; omega
  rw [Nat.zero_add, List.set_append, if_neg (by omega), hl, Nat.sub_self]
  rw [List.drop_eq_getElem_cons h, List.map_cons, List.set_cons_zero]
  rw [List.take_succ_eq_append_getElem h, List.map_append, getD_get h]
  simp
theorem sIxG {k : Int} {n : Nat} (h0 : k = i) (h : i < xs.length) (hn : n = xs.length) (h2 : ∀ x, (cA x).length = m) :
    Side ((0 ≤ k ∧ k < n) ∧ 0 + k.toNat < (rowsG c cA xs i).length ∧ ((rowsG c cA xs i).getD (0 + k.toNat) []).length = m) := by
  subst h0
  rw [Int.toNat_natCast, rowsG_len, rowsG_getD h, hn]
  exact ⟨⟨by omega, by omega⟩, by omega, h2 _⟩
theorem sLdG {off n : Nat} {cs : List MC} (h : i < xs.length) (hc : n ≤ ((cA (xs.getD i default)).drop off).length) (he : ((cA (xs.getD i default)).drop off).take n = cs) :
    Side (n ≤ (List.drop off ((rowsG c cA xs i).getD (0 + i) [])).length ∧ MV.agg (List.take n (List.drop off ((rowsG c cA xs i).getD (0 + i) []))) = MV.agg cs) := by
  rw [rowsG_getD h, he]; exact ⟨⟨hc, rfl⟩⟩
theorem sStG {off n z : Nat} (h : i < xs.length) (h2 : ∀ x, (cA x).length = m) (hb : Nat.ble (off + n) m = true) (hz : n = z) :
    Side ((0 + i < (rowsG c cA xs i).length ∧ off + n ≤ ((rowsG c cA xs i).getD (0 + i) []).length) ∧ n = z) :=
  ⟨⟨by rw [rowsG_len]; omega, by rw [rowsG_getD h, h2]; exact Nat.le_of_ble_eq_true hb⟩, hz⟩
theorem sSetG {k : Nat} {r : List MC} (h : i < xs.length) (hk : k = i) (hr : c (xs.getD i default) = r) : Side (rowsG c cA xs (i + 1) = (rowsG c cA xs i).set (0 + k) r) := ⟨by rw [hk, rowsG_set h hr.symm]⟩
end
def Vote.cellsA (v : Vote) : List MC := v.cells.map MC.toA
def Entry.cellsA (v : Entry) : List MC := v.cells.map MC.toA
theorem c_votesCopyP (vs : List Vote) (hx : vs.length ≤ lim) (hv : VsOk lim vs) : Pure PP false 106 [.one (.fz (vs.map Vote.cells))] (.one (.own (vs.map Vote.cells))) := by
  have hx0 : vs.length ≤ 1048576 := hx
  refine Pure.vc [(6, .con true [] [] [] (sCpV vs.length))] TTok hmo Go.Proofs.Tryz.func106 (by kernel_rfl) rfl (by kernel_rfl) ?_
  repeat' (first | refine And.intro ?_ ?_ | exact tf | exact ft | refine tt ?_ | refine ff ?_ | exact ⟨trivial⟩ | exact sAll rfl | exact sF1 rfl | exact sBld (by repeat' (first | exact trivial | rfl | exact Nat.le_of_ble_eq_true rfl | refine And.intro ?_ ?_)) rfl | exact sBS (by repeat' (first | exact trivial | rfl | exact Nat.le_of_ble_eq_true rfl | refine And.intro ?_ ?_)) rfl rfl rfl rfl | exact sBSF (by repeat' (first | exact trivial | rfl | exact Nat.le_of_ble_eq_true rfl | refine And.intro ?_ ?_)) rfl rfl rfl rfl | exact sLe rfl | exact Chk.mk (by kernel_rfl) | exact ⟨Chk.mk (by kernel_rfl)⟩ | exact sLeEq rfl rfl | refine fun h => ?_)
  · exact ⟨c_copied_VoteU vs hx⟩
  · exact ⟨fun _ _ => trivial⟩
  · exact ⟨fun _ _ => ⟨trivial, trivial⟩⟩
  · refine W.loopC (D := Nat) (fun i => [(18, .res (.agg (vs.getD i default).e.cellsA)), (19, .res (.agg (vs.getD i default).e.cells))]) TTok hmo (fun i => ⟨24, 1, [(3, .one (.ref 0 0 vs.length)), (8, oi vs.length), (9, oi i)], [(0, .arr (rowsG Vote.cells Vote.cellsA vs i))]⟩) (fun i => vs.length - i) (fun i => i ≤ vs.length) 0 [] (Nat.zero_le _) ?_ ?_
    · repeat' (first | exact trivial | exact ⟨trivial⟩ | exact Side.mk rfl | exact sF1 rfl | exact Chk.mk (by kernel_rfl) | exact ⟨Chk.mk (by kernel_rfl)⟩ | exact sFlG Vote.flat (fun _ => rfl) | refine And.intro ?_ ?_ | rfl)
      exact ⟨by unfold rowsG; rw [List.map_map]; rfl⟩
    · intro i hi
      repeat' (first | refine And.intro ?_ ?_ | exact tf | exact ft | refine tt ?_ | refine ff ?_ | exact ⟨trivial⟩ | exact sAll rfl | exact sF1 rfl | exact sBld (by repeat' (first | exact trivial | rfl | exact Nat.le_of_ble_eq_true rfl | refine And.intro ?_ ?_)) rfl | exact sBS (by repeat' (first | exact trivial | rfl | exact Nat.le_of_ble_eq_true rfl | refine And.intro ?_ ?_)) rfl rfl rfl rfl | exact sBSF (by repeat' (first | exact trivial | rfl | exact Nat.le_of_ble_eq_true rfl | refine And.intro ?_ ?_)) rfl rfl rfl rfl | exact sLe rfl | exact Chk.mk (by kernel_rfl) | exact ⟨Chk.mk (by kernel_rfl)⟩ | exact sLeEq rfl rfl | exact sAnd (by repeat' constructor) (c_entryCopy _ (hv _ (getD_mem (by have := of_decide_eq_true h; omega)))) | refine fun h => ?_)
      all_goals try (have hl := of_decide_eq_true h)
      all_goals try (exact sIxG rfl (by omega) rfl (fun _ => rfl))
      all_goals try (exact sLdG (xs := vs) (i := i) (by omega) (Nat.le_of_ble_eq_true rfl) rfl)
      all_goals try (exact sStG (m := 8) (i := i) (xs := vs) (by omega) (fun _ => rfl) rfl rfl)
      all_goals try (first | exact ⟨trivial, trivial⟩ | exact ⟨Nat.le_of_ble_eq_true rfl, trivial⟩ | exact ⟨trivial, Nat.le_of_ble_eq_true rfl, trivial⟩ | exact ⟨Nat.le_of_ble_eq_true rfl, trivial, trivial⟩)
      · refine ⟨i + 1, [], by omega, by omega, ?_⟩
        repeat' (first | exact trivial | exact ⟨trivial⟩ | exact Side.mk rfl | exact sF1 rfl | exact Chk.mk (by kernel_rfl) | exact ⟨Chk.mk (by kernel_rfl)⟩ | exact sFlG Vote.flat (fun _ => rfl) | exact sSetG (by omega) rfl (by rw [Int.toNat_natCast, rowsG_getD (by omega)]; rfl) | exact ⟨by rw [wrapi] <;> omega⟩ | refine And.intro ?_ ?_ | rfl)
      · have hi' := of_decide_eq_false h
        refine ⟨⟨trivial, trivial⟩, ⟨rfl, ?_, rowsG_all (by omega), ?_⟩, trivial⟩
        · rw [rowsG_len]
        · rw [rowsG_all (by omega)]; exact allF Vote.frz
theorem map_unA (d : List Vote) : ((d.map Vote.cells).map fun r => r.map MC.unA) = d.map Vote.cells := by
  rw [List.map_map]; exact List.map_congr_left fun v _ => rfl
theorem set_unA {d : List Vote} {k n : Nat} {r : List MC} {v : Vote} (hr : (r.map MC.unA) = v.cells) (hn : n = d.length) : (((((d.map Vote.cells).set k r).drop 0).take n).map fun r => r.map MC.unA) = (d.set k v).map Vote.cells := by
  rw [List.drop_zero, List.take_of_length_le (by simp [hn]), List.map_set, map_unA, hr, List.map_set]
theorem set_allA {d : List Vote} {k : Nat} {r : List MC} (hr : r.all MC.fa = true) : AllA ((d.map Vote.cells).set k r) := ⟨fun x hx => by
  rcases List.mem_or_eq_of_mem_set hx with hx | rfl
  · obtain ⟨v, _, rfl⟩ := List.mem_map.1 hx
    exact List.all_eq_true.1 (show v.cells.all MC.fa = true from rfl)
  · exact List.all_eq_true.1 hr⟩
theorem c_accCopyP (a : Acc) (ha : a.ok lim) : Pure PP false 103 [.agg a.cells] (.agg [i6 a.p, .own (a.votes.map Vote.cells)]) := by
  refine Pure.vc [(7, .res (.one (.own (a.votes.map Vote.cells)))), (900001, .row [i6 0, i6 1, i6 2, i6 3, i6 4, i6 5, i6 6])] TTok hmo Go.Proofs.Tryz.func103 (by kernel_rfl) rfl (by kernel_rfl) ?_
  repeat' (first | refine And.intro ?_ ?_ | exact tf | exact ft | refine tt ?_ | refine ff ?_ | exact ⟨trivial⟩ | exact sAll rfl | exact sF1 rfl | exact sBld (by repeat' (first | exact trivial | rfl | exact Nat.le_of_ble_eq_true rfl | refine And.intro ?_ ?_)) rfl | exact sBS (by repeat' (first | exact trivial | rfl | exact Nat.le_of_ble_eq_true rfl | refine And.intro ?_ ?_)) rfl rfl rfl rfl | exact sBSF (by repeat' (first | exact trivial | rfl | exact Nat.le_of_ble_eq_true rfl | refine And.intro ?_ ?_)) rfl rfl rfl rfl | exact sLe rfl | exact Chk.mk (by kernel_rfl) | exact ⟨Chk.mk (by kernel_rfl)⟩ | exact sLeEq rfl rfl | exact sAnd (by repeat' constructor) (c_votesCopyP _ ha.1 ha.2) | refine fun h => ?_)
  all_goals try (exact ⟨rfl⟩)
  all_goals try (exact trivial)
  exact ⟨⟨Nat.le_of_ble_eq_true rfl, trivial⟩, rfl, ⟨rfl, by simp, rfl, allF Vote.frz⟩, trivial⟩
theorem c_accCopyQ (a : Acc) (ha : a.ok lim) : Pure PP false 103 [.agg a.cells] (.agg a.cells) := (c_accCopyP a ha).to rfl
def pAcc (q : Acc × Bool) : MV := .tup [.agg [i6 q.1.p, .own (q.1.votes.map Vote.cells)], ob q.2]
def qAcc (q : Acc × Bool) : MV := .tup [.agg q.1.cells, ob q.2]
theorem c_AccPromiseP (a : Acc) (ha : a.ok lim) (bal : Int) : Pure PP false 73 [.agg a.cells, oi bal] (pAcc (accPromise a bal)) := by
  generalize hq : accPromise a bal = q
  unfold accPromise at hq
  refine Pure.vc [(8, .res (ob (accOk a))), (12, .res (.agg [i6 a.p, .own (a.votes.map Vote.cells)])), (14, .res (ob (inr bal 1 3000)))] TTok hmo Go.Proofs.Tryz.func73 (by kernel_rfl) rfl (by kernel_rfl) ?_
  repeat' (first | refine And.intro ?_ ?_ | exact tf | exact ft | refine tt ?_ | refine ff ?_ | exact ⟨trivial⟩ | exact sAll rfl | exact sF1 rfl | exact sBld (by repeat' (first | exact trivial | rfl | exact Nat.le_of_ble_eq_true rfl | refine And.intro ?_ ?_)) rfl | exact sBS (by repeat' (first | exact trivial | rfl | exact Nat.le_of_ble_eq_true rfl | refine And.intro ?_ ?_)) rfl rfl rfl rfl | exact sBSF (by repeat' (first | exact trivial | rfl | exact Nat.le_of_ble_eq_true rfl | refine And.intro ?_ ?_)) rfl rfl rfl rfl | exact sLe rfl | exact Chk.mk (by kernel_rfl) | exact ⟨Chk.mk (by kernel_rfl)⟩ | exact sLeEq rfl rfl | exact sAnd (by repeat' constructor) (c_impl_AccOk a ha) | exact sAnd (by repeat' constructor) (c_accCopyP a ha) | exact sAnd (by repeat' constructor) (c_impl_in _ _ _) | refine fun h => ?_)
  · obtain rfl : (⟨0, []⟩, false) = q := by rw [← hq, if_neg (by simp_all)]
    exact ⟨⟨Nat.le_of_ble_eq_true rfl, trivial, trivial⟩, ⟨rfl, rfl, trivial⟩, ⟨rfl, trivial⟩, trivial⟩
  · obtain rfl : (a, false) = q := by rw [← hq, if_pos (by simp_all), if_neg (by simp_all)]
    exact ⟨⟨Nat.le_of_ble_eq_true rfl, trivial, trivial⟩, ⟨rfl, ⟨rfl, by simp, rfl, allF Vote.frz⟩, trivial⟩, ⟨rfl, trivial⟩, trivial⟩
  · obtain rfl : (⟨bal, a.votes⟩, true) = q := by rw [← hq, if_pos (by simp_all), if_pos (by simp_all)]
    exact ⟨⟨Nat.le_of_ble_eq_true rfl, trivial, trivial⟩, ⟨rfl, ⟨rfl, by simp, rfl, allF Vote.frz⟩, trivial⟩, ⟨rfl, trivial⟩, trivial⟩
  · obtain rfl : (a, false) = q := by rw [← hq, if_pos (by simp_all), if_neg (by simp_all)]
    exact ⟨⟨Nat.le_of_ble_eq_true rfl, trivial, trivial⟩, ⟨rfl, ⟨rfl, by simp, rfl, allF Vote.frz⟩, trivial⟩, ⟨rfl, trivial⟩, trivial⟩
theorem c_AccPromiseQ (a : Acc) (ha : a.ok lim) (bal : Int) : Pure PP false 73 [.agg a.cells, oi bal] (qAcc (accPromise a bal)) := (c_AccPromiseP a ha bal).to rfl
end Mg

/- Promises and votes of the other side, by what they come to. No condition. -/
namespace Mg
open Go Go.RowKit
set_option maxRecDepth 100000
set_option linter.unusedVariables false
set_option linter.unusedSimpArgs false
attribute [local irreducible] W Pure Con
theorem take_step {vs : List Vote} {i : Nat} (h : i < vs.length) : vs.take (i + 1) = vs.take i ++ [vs.getD i default] := by
  rw [List.take_succ_eq_append_getElem h, getD_get h]
theorem sTkR {α : Type} [Inhabited α] {c : α → List MC} {xs : List α} {i : Nat} {rows2 : List (List MC)} (h : i < xs.length) (hr : rows2 = [c (xs.getD i default)]) : Side ((xs.take (i + 1)).map c = (xs.take i).map c ++ rows2) :=
  ⟨by rw [List.take_succ_eq_append_getElem h, List.map_append, hr, getD_get h]; rfl⟩
theorem sTkL {α : Type} {xs : List α} {i m n : Nat} (h : i < xs.length) (hm : m = (xs.take i).length) (hn : n = 1) : Side ((xs.take (i + 1)).length = m + n) := ⟨by subst hm hn; simp; omega⟩
theorem sTkL2 {α : Type} {xs : List α} {i m n : Nat} (h : i < xs.length) (hm : m = (xs.take i).length) (hn : n = 1) : Side (m + n = (xs.take (i + 1)).length) := ⟨by subst hm hn; simp; omega⟩
set_option maxHeartbeats 4000000 in
theorem c_l6ListP (vs : List Vote) (hx : vs.length ≤ 1000000) (hv : VsOk lim vs) : Pure PP false 68 [.one (.fz (vs.map Vote.cells))] (.one (.own (vs.map Vote.cells))) := by
  refine Pure.vc [] TTok hmo Go.Proofs.Tryz.func68 (by kernel_rfl) rfl (by kernel_rfl) ?_
  repeat' (first | refine And.intro ?_ ?_ | exact tf | exact ft | refine tt ?_ | refine ff ?_ | exact ⟨trivial⟩ | exact sAll rfl | exact sF1 rfl | exact sBld (by repeat' (first | exact trivial | rfl | exact Nat.le_of_ble_eq_true rfl | refine And.intro ?_ ?_)) rfl | exact sBS (by repeat' (first | exact trivial | rfl | exact Nat.le_of_ble_eq_true rfl | refine And.intro ?_ ?_)) rfl rfl rfl rfl | exact sBSF (by repeat' (first | exact trivial | rfl | exact Nat.le_of_ble_eq_true rfl | refine And.intro ?_ ?_)) rfl rfl rfl rfl | exact sLe rfl | exact Chk.mk (by kernel_rfl) | exact ⟨Chk.mk (by kernel_rfl)⟩ | exact sLeEq rfl rfl | refine fun h => ?_)
  · refine W.vslot 3 rfl ?_
    refine W.loopC (D := Nat) (fun i => [(15, .row (vs.getD i default).cells), (20, .row (vs.getD i default).cells), (23, .res (.agg (vs.getD i default).e.cells)), (25, .row [])]) TTok hmo
      (fun i => ⟨28, 1, [(0, .one (.ag (vs.map Vote.cells))), (3, .one (.ref 0 0 (vs.take i).length)), (4, oi i)], [(0, .arr ((vs.take i).map Vote.cells))]⟩) (fun i => vs.length - i) (fun i => i ≤ vs.length) 0 [] (Nat.zero_le _) ?_ ?_
    · repeat' (first | exact trivial | exact ⟨trivial⟩ | exact Side.mk rfl | exact sF1 rfl | exact Chk.mk (by kernel_rfl) | exact ⟨Chk.mk (by kernel_rfl)⟩ | exact sMapF Vote.flat | refine And.intro ?_ ?_ | rfl)
    · intro i hi
      repeat' (first | refine And.intro ?_ ?_ | exact tf | exact ft | refine tt ?_ | refine ff ?_ | exact ⟨trivial⟩ | exact sAll rfl | exact sF1 rfl | exact sBld (by repeat' (first | exact trivial | rfl | exact Nat.le_of_ble_eq_true rfl | refine And.intro ?_ ?_)) rfl | exact sBS (by repeat' (first | exact trivial | rfl | exact Nat.le_of_ble_eq_true rfl | refine And.intro ?_ ?_)) rfl rfl rfl rfl | exact sBSF (by repeat' (first | exact trivial | rfl | exact Nat.le_of_ble_eq_true rfl | refine And.intro ?_ ?_)) rfl rfl rfl rfl | exact sLe rfl | exact Chk.mk (by kernel_rfl) | exact ⟨Chk.mk (by kernel_rfl)⟩ | exact sLeEq rfl rfl | refine fun h => ?_)
      all_goals try (exact ⟨rfl⟩)
      all_goals try (exact trivial)
      all_goals try (exact ⟨⟨⟨trivial, trivial, trivial, trivial, trivial, trivial, trivial, trivial⟩, trivial⟩, c_l5Entry (vs.getD i default).e (hv.get i)⟩)
      all_goals try (exact sApp (xs := vs.take i) (c := Vote.cells) (by simp) (fun _ => rfl) rfl (by simp; omega) rfl rfl)
      all_goals simp only [decide_eq_true_eq, decide_eq_false_iff_not, List.length_map, Bool.not_eq_true', Bool.not_eq_false', Bool.not_eq_eq_eq_not, Bool.not_true, Bool.not_false, bne_iff_ne, ne_eq, bne_eq_false_iff_eq, beq_iff_eq, beq_eq_false_iff_ne] at *
      all_goals try (exact sRow (by omega) (by rw [Int.toNat_natCast, List.getElem?_map, List.getD_eq_getElem?_getD, List.getElem?_eq_getElem (by omega)]; rfl) rfl)
      all_goals try (first | exact ⟨trivial, trivial⟩ | exact ⟨Nat.le_of_ble_eq_true rfl, trivial⟩ | exact ⟨trivial, Nat.le_of_ble_eq_true rfl, trivial⟩ | exact ⟨Nat.le_of_ble_eq_true rfl, trivial, trivial⟩)
      · refine ⟨i + 1, [(0, 1)], by omega, by omega, ?_⟩
        repeat' (first | exact trivial | exact ⟨trivial⟩ | exact Side.mk rfl | exact sF1 rfl | exact Chk.mk (by kernel_rfl) | exact ⟨Chk.mk (by kernel_rfl)⟩ | exact sTkR (by omega) rfl | exact sTkL (by omega) rfl rfl | exact sTkL2 (by omega) rfl rfl | exact sMapF Vote.flat | exact ⟨by rw [wrapi] <;> omega⟩ | refine And.intro ?_ ?_ | rfl)
      · exact ⟨⟨trivial, trivial⟩, ⟨trivial, trivial, by rw [List.take_of_length_le (by omega)], allF Vote.frz⟩, trivial⟩
theorem c_l6CopyP (a : Acc) (ha : a.ok 1000000) : Pure PP false 89 [.agg a.cells] (.agg [i6 a.p, .own (a.votes.map Vote.cells)]) := by
  have hv : VsOk lim a.votes := fun v hv => ⟨Nat.le_trans (ha.2 v hv).1 (by decide), Nat.le_trans (ha.2 v hv).2 (by decide)⟩
  refine Pure.vc [(7, .res (.one (.own (a.votes.map Vote.cells)))), (900001, .row [i6 0, i6 1, i6 2, i6 3, i6 4, i6 5, i6 6])] TTok hmo Go.Proofs.Tryz.func89 (by kernel_rfl) rfl (by kernel_rfl) ?_
  repeat' (first | refine And.intro ?_ ?_ | exact tf | exact ft | refine tt ?_ | refine ff ?_ | exact ⟨trivial⟩ | exact sAll rfl | exact sF1 rfl | exact sBld (by repeat' (first | exact trivial | rfl | exact Nat.le_of_ble_eq_true rfl | refine And.intro ?_ ?_)) rfl | exact sBS (by repeat' (first | exact trivial | rfl | exact Nat.le_of_ble_eq_true rfl | refine And.intro ?_ ?_)) rfl rfl rfl rfl | exact sBSF (by repeat' (first | exact trivial | rfl | exact Nat.le_of_ble_eq_true rfl | refine And.intro ?_ ?_)) rfl rfl rfl rfl | exact sLe rfl | exact Chk.mk (by kernel_rfl) | exact ⟨Chk.mk (by kernel_rfl)⟩ | exact sLeEq rfl rfl | exact sAnd (by repeat' constructor) (c_l6ListP _ ha.1 hv) | refine fun h => ?_)
  all_goals try (exact ⟨rfl⟩)
  all_goals try (exact trivial)
  exact ⟨⟨Nat.le_of_ble_eq_true rfl, trivial⟩, rfl, ⟨rfl, by simp, rfl, allF Vote.frz⟩, trivial⟩
def promP (p b : Int) : Int × Bool := if inr b 1 3000 = true ∧ ¬ b < p then (b, true) else (p, false)
def tProX (vs : List Vote) (q : Int × Bool) : ConT := ⟨Unit, fun _ => True, fun _ => .tup [.agg [i6 q.1, .ref 0 0 vs.length], ob q.2], fun _ => [.arr (vs.map Vote.cells)]⟩
theorem c_l6PromiseX (vs : List Vote) (p b : Int) : Con PP 67 [.agg [i6 p, .ref 0 0 vs.length], oi b] [.arr (vs.map Vote.cells)] 1
    (tProX vs (promP p b)).p (tProX vs (promP p b)).r (tProX vs (promP p b)).os := by
  generalize hq : promP p b = q
  unfold promP at hq
  refine Con.vc [(7, .res (ob (inr b 1 3000)))] TTok hmo Go.Proofs.Tryz.func67 rfl (by kernel_rfl) rfl (by kernel_rfl) ?_
  repeat' (first | refine And.intro ?_ ?_ | exact tf | exact ft | refine tt ?_ | refine ff ?_ | exact ⟨trivial⟩ | exact sAll rfl | exact sF1 rfl | exact sBld (by repeat' (first | exact trivial | rfl | exact Nat.le_of_ble_eq_true rfl | refine And.intro ?_ ?_)) rfl | exact sBS (by repeat' (first | exact trivial | rfl | exact Nat.le_of_ble_eq_true rfl | refine And.intro ?_ ?_)) rfl rfl rfl rfl | exact sBSF (by repeat' (first | exact trivial | rfl | exact Nat.le_of_ble_eq_true rfl | refine And.intro ?_ ?_)) rfl rfl rfl rfl | exact sLe rfl | exact Chk.mk (by kernel_rfl) | exact ⟨Chk.mk (by kernel_rfl)⟩ | exact sLeEq rfl rfl | exact sAnd (by repeat' constructor) (c_l6Bal _) | refine fun h => ?_)
  all_goals try (first | exact ⟨trivial, trivial⟩ | exact ⟨Nat.le_of_ble_eq_true rfl, trivial⟩ | exact ⟨trivial, Nat.le_of_ble_eq_true rfl, trivial⟩ | exact ⟨Nat.le_of_ble_eq_true rfl, trivial, trivial⟩)
  · obtain rfl : (p, false) = q := by rw [← hq, if_neg (by simp_all)]
    apply exU'; refine ⟨[], [], trivial, ?_⟩
    repeat' (first | exact trivial | exact ⟨trivial⟩ | exact Side.mk rfl | exact sF1 rfl | exact Chk.mk (by kernel_rfl) | exact ⟨Chk.mk (by kernel_rfl)⟩ | exact sMapF Vote.flat | refine And.intro ?_ ?_ | rfl)
  · obtain rfl : (b, true) = q := by rw [← hq, if_pos (by simp_all)]
    apply exU'; refine ⟨[], [], trivial, ?_⟩
    repeat' (first | exact trivial | exact ⟨trivial⟩ | exact Side.mk rfl | exact sF1 rfl | exact Chk.mk (by kernel_rfl) | exact ⟨Chk.mk (by kernel_rfl)⟩ | exact sMapF Vote.flat | refine And.intro ?_ ?_ | rfl)
  · obtain rfl : (p, false) = q := by rw [← hq, if_neg (by simp_all)]
    apply exU'; refine ⟨[], [], trivial, ?_⟩
    repeat' (first | exact trivial | exact ⟨trivial⟩ | exact Side.mk rfl | exact sF1 rfl | exact Chk.mk (by kernel_rfl) | exact ⟨Chk.mk (by kernel_rfl)⟩ | exact sMapF Vote.flat | refine And.intro ?_ ?_ | rfl)
/-- What is cast, of what is right. -/
def castA (a : Acc) (b slot : Int) (e : Entry) : Acc × Bool :=
  if (inr slot 0 39 = true ∧ entryOk e = true) ∧ (promP a.p b).2 = true then (⟨b, (padV a.votes (slot.toNat + 1)).set slot.toNat ⟨b, e⟩⟩, true) else (a, false)
def tCaX (q : Acc × Bool) : ConT := ⟨Unit, fun _ => True, fun _ => .tup [.agg [i6 q.1.p, .ref 0 0 q.1.votes.length], ob q.2], fun _ => [.arr (q.1.votes.map Vote.cells)]⟩
end Mg

/- Copies of the program's own way, as trees. No condition. -/
namespace Mg
open Go Go.RowKit
set_option maxRecDepth 100000
set_option linter.unusedVariables false
set_option linter.unusedSimpArgs false
attribute [local irreducible] W Pure Con TPure
theorem p_copied_Read (xs : List Two) (hx : xs.length ≤ lim) : Pure PP false 171 [.one (.fz (xs.map Two.cells))] (.one (.own (xs.map Two.cells))) := by
  have hx0 : xs.length ≤ 1048576 := hx
  refine Pure.vc [] TTok hmo Go.Proofs.Tryz.func171 (by kernel_rfl) rfl (by kernel_rfl) ?_
  repeat' (first | refine And.intro ?_ ?_ | exact tf | exact ft | refine tt ?_ | refine ff ?_ | exact ⟨trivial⟩ | exact sAll rfl | exact sF1 rfl | exact sBld (by repeat' (first | exact trivial | rfl | exact Nat.le_of_ble_eq_true rfl | refine And.intro ?_ ?_)) rfl | exact sBS (by repeat' (first | exact trivial | rfl | exact Nat.le_of_ble_eq_true rfl | refine And.intro ?_ ?_)) rfl rfl rfl rfl | exact sBSF (by repeat' (first | exact trivial | rfl | exact Nat.le_of_ble_eq_true rfl | refine And.intro ?_ ?_)) rfl rfl rfl rfl | exact sLe rfl | exact Chk.mk (by kernel_rfl) | exact ⟨Chk.mk (by kernel_rfl)⟩ | exact sLeEq rfl rfl | refine fun h => ?_)
  · have h0 : xs = [] := by simp at h; exact h
    subst h0
    exact ⟨⟨trivial, trivial⟩, rfl, trivial⟩
  · exact sMk hx0 rfl
  · have h0 : 0 < xs.length := Nat.pos_of_ne_zero (fun e => by rw [List.length_map, e] at h; revert h; decide)
    exact sCp (toA_map fun _ => rfl) (by simp) (by simp) h0 rfl (fun _ => rfl)
  · have e := toA_map (c := Two.cells) (xs := xs) fun _ => rfl
    exact ⟨⟨trivial, trivial⟩, ⟨rfl, by rw [e]; exact Int.toNat_natCast _, e, by rw [e]; exact allF Two.frz⟩, trivial⟩
theorem p_copied_Put (xs : List Two) (hx : xs.length ≤ lim) : Pure PP false 172 [.one (.fz (xs.map Two.cells))] (.one (.own (xs.map Two.cells))) := by
  have hx0 : xs.length ≤ 1048576 := hx
  refine Pure.vc [] TTok hmo Go.Proofs.Tryz.func172 (by kernel_rfl) rfl (by kernel_rfl) ?_
  repeat' (first | refine And.intro ?_ ?_ | exact tf | exact ft | refine tt ?_ | refine ff ?_ | exact ⟨trivial⟩ | exact sAll rfl | exact sF1 rfl | exact sBld (by repeat' (first | exact trivial | rfl | exact Nat.le_of_ble_eq_true rfl | refine And.intro ?_ ?_)) rfl | exact sBS (by repeat' (first | exact trivial | rfl | exact Nat.le_of_ble_eq_true rfl | refine And.intro ?_ ?_)) rfl rfl rfl rfl | exact sBSF (by repeat' (first | exact trivial | rfl | exact Nat.le_of_ble_eq_true rfl | refine And.intro ?_ ?_)) rfl rfl rfl rfl | exact sLe rfl | exact Chk.mk (by kernel_rfl) | exact ⟨Chk.mk (by kernel_rfl)⟩ | exact sLeEq rfl rfl | refine fun h => ?_)
  · have h0 : xs = [] := by simp at h; exact h
    subst h0
    exact ⟨⟨trivial, trivial⟩, rfl, trivial⟩
  · exact sMk hx0 rfl
  · have h0 : 0 < xs.length := Nat.pos_of_ne_zero (fun e => by rw [List.length_map, e] at h; revert h; decide)
    exact sCp (toA_map fun _ => rfl) (by simp) (by simp) h0 rfl (fun _ => rfl)
  · have e := toA_map (c := Two.cells) (xs := xs) fun _ => rfl
    exact ⟨⟨trivial, trivial⟩, ⟨rfl, by rw [e]; exact Int.toNat_natCast _, e, by rw [e]; exact allF Two.frz⟩, trivial⟩
set_option maxHeartbeats 2000000 in
theorem p_runCopy (x : Run) (hx : x.ok lim) : Pure PP false 146 [.agg x.cells] (.agg [.own (x.reads.map Two.cells), .own (x.puts.map Two.cells), i6 x.c, i6 x.d]) := by
  refine Pure.vc [(5, .res (.one (.own (x.reads.map Two.cells)))), (8, .res (.one (.own (x.puts.map Two.cells)))), (900001, .row [i6 0, i6 1, i6 3, i6 4, i6 6, i6 7, i6 8, i6 9, i6 2, i6 5, i6 10, i6 11])] TTok hmo Go.Proofs.Tryz.func146 (by kernel_rfl) rfl (by kernel_rfl) ?_
  repeat' (first | refine And.intro ?_ ?_ | exact tf | exact ft | refine tt ?_ | refine ff ?_ | exact ⟨trivial⟩ | exact sAll rfl | exact sF1 rfl | exact sBld (by repeat' (first | exact trivial | rfl | exact Nat.le_of_ble_eq_true rfl | refine And.intro ?_ ?_)) rfl | exact sBS (by repeat' (first | exact trivial | rfl | exact Nat.le_of_ble_eq_true rfl | refine And.intro ?_ ?_)) rfl rfl rfl rfl | exact sBSF (by repeat' (first | exact trivial | rfl | exact Nat.le_of_ble_eq_true rfl | refine And.intro ?_ ?_)) rfl rfl rfl rfl | exact sLe rfl | exact Chk.mk (by kernel_rfl) | exact ⟨Chk.mk (by kernel_rfl)⟩ | exact sLeEq rfl rfl | refine fun h => ?_)
  all_goals try (exact sAnd (by repeat' constructor) (p_copied_Read _ hx.1))
  all_goals try (exact sAnd (by repeat' constructor) (p_copied_Put _ hx.2))
  all_goals try (exact ⟨rfl⟩)
  all_goals try (exact trivial)
  exact ⟨⟨Nat.le_of_ble_eq_true rfl, trivial⟩, ⟨rfl, by simp, rfl, allF Two.frz⟩, ⟨rfl, by simp, rfl, allF Two.frz⟩, rfl, rfl, trivial⟩
theorem p_entryCopy (e : Entry) (he : e.ok lim) : Pure PP false 107 [.agg e.cells] (.agg [bo e.none, i6 e.q.a, i6 e.q.b, .own (e.run.reads.map Two.cells), .own (e.run.puts.map Two.cells), i6 e.run.c, i6 e.run.d]) := by
  refine Pure.vc [(9, .res (.agg [.own (e.run.reads.map Two.cells), .own (e.run.puts.map Two.cells), i6 e.run.c, i6 e.run.d])), (900001, .row [i6 0, i6 1, i6 2, i6 3, i6 4, i6 5, i6 6, i6 7, i6 8])] TTok hmo Go.Proofs.Tryz.func107 (by kernel_rfl) rfl (by kernel_rfl) ?_
  repeat' (first | refine And.intro ?_ ?_ | exact tf | exact ft | refine tt ?_ | refine ff ?_ | exact ⟨trivial⟩ | exact sAll rfl | exact sF1 rfl | exact sBld (by repeat' (first | exact trivial | rfl | exact Nat.le_of_ble_eq_true rfl | refine And.intro ?_ ?_)) rfl | exact sBS (by repeat' (first | exact trivial | rfl | exact Nat.le_of_ble_eq_true rfl | refine And.intro ?_ ?_)) rfl rfl rfl rfl | exact sBSF (by repeat' (first | exact trivial | rfl | exact Nat.le_of_ble_eq_true rfl | refine And.intro ?_ ?_)) rfl rfl rfl rfl | exact sLe rfl | exact Chk.mk (by kernel_rfl) | exact ⟨Chk.mk (by kernel_rfl)⟩ | exact sLeEq rfl rfl | exact sAnd (by repeat' constructor) (p_runCopy _ he) | refine fun h => ?_)
  all_goals try (exact ⟨rfl⟩)
  all_goals try (exact trivial)
  exact ⟨⟨Nat.le_of_ble_eq_true rfl, trivial⟩, rfl, rfl, rfl, ⟨rfl, by simp, rfl, allF Two.frz⟩, ⟨rfl, by simp, rfl, allF Two.frz⟩, rfl, rfl, trivial⟩
theorem scMap {α : Type} {c : α → List MC} {xs : List α} (h : ∀ x, (c x).all scB = true) : ∀ r ∈ xs.map c, ∀ d ∈ r, ∃ v, d = .sc v := fun r hr d hd => by
  obtain ⟨x, _, rfl⟩ := List.mem_map.1 hr
  have := List.all_eq_true.1 (h x) d hd
  cases d <;> first | exact ⟨_, rfl⟩ | (cases this; done)
theorem t_entryCopy (e : Entry) (he : e.ok lim) : TPure PP 107 [.agg e.cells] (.agg e.cells) :=
  (p_entryCopy e he).toT (by
    intro c hc
    simp only [List.mem_cons, List.not_mem_nil, or_false] at hc
    rcases hc with rfl | rfl | rfl | rfl | rfl | rfl | rfl
    all_goals first | exact .inl ⟨_, rfl⟩ | exact .inr ⟨_, rfl, scMap fun _ => rfl⟩) rfl
theorem t_votesCopy (vs : List Vote) (hx : vs.length ≤ lim) (hv : VsOk lim vs) : TPure PP 106 [.one (.fz (vs.map Vote.cells))] (.one (.fz (vs.map Vote.cells))) := by
  have hx0 : vs.length ≤ 1048576 := hx
  have hlen : (vs.map Vote.cellsA).length = vs.length := List.length_map ..
  have hAf : ∀ r ∈ vs.map Vote.cellsA, ∀ d ∈ r, d.flat = true := fun r hr d hd => by
    obtain ⟨x, _, rfl⟩ := List.mem_map.1 hr
    exact List.all_eq_true.1 (show x.cellsA.all MC.flat = true from rfl) d hd
  refine TPure.vc [(6, .con true [] [] [] (sCpV vs.length))] TTok hmo Go.Proofs.Tryz.func106 (by kernel_rfl) rfl (by kernel_rfl) ?_
  repeat' (first | refine And.intro ?_ ?_ | exact tf | exact ft | refine tt ?_ | refine ff ?_ | exact ⟨trivial⟩ | exact sAll rfl | exact sF1 rfl | exact sBld (by repeat' (first | exact trivial | rfl | exact Nat.le_of_ble_eq_true rfl | refine And.intro ?_ ?_)) rfl | exact sBS (by repeat' (first | exact trivial | rfl | exact Nat.le_of_ble_eq_true rfl | refine And.intro ?_ ?_)) rfl rfl rfl rfl | exact sBSF (by repeat' (first | exact trivial | rfl | exact Nat.le_of_ble_eq_true rfl | refine And.intro ?_ ?_)) rfl rfl rfl rfl | exact sLe rfl | exact Chk.mk (by kernel_rfl) | exact ⟨Chk.mk (by kernel_rfl)⟩ | exact sLeEq rfl rfl | refine fun h => ?_)
  · exact ⟨c_copied_VoteU vs hx⟩
  · exact ⟨fun _ _ => trivial⟩
  · exact ⟨fun _ _ => ⟨trivial, trivial⟩⟩
  · refine W.loopC (D := Nat × (Nat → Nat → Tk)) (fun d => [(18, .res (.agg (vs.getD d.1 default).e.cellsA)), (19, .tre true (fun _ => .agg (vs.getD d.1 default).e.cells))]) TTok hmo (fun d => ⟨24, 1, [(3, .one (.ref 0 0 vs.length)), (8, oi vs.length), (9, oi d.1)], [(0, .arr (rowsT d.2 Vote.cells vs (vs.map Vote.cellsA) d.1))]⟩) (fun d => vs.length - d.1) (fun d => d.1 ≤ vs.length ∧ FillInv d.2 Vote.cells vs d.1) (0, fun _ _ => noTk) [] ⟨Nat.zero_le _, .zero⟩ ?_ ?_
    · repeat' (first | exact trivial | exact ⟨trivial⟩ | exact Side.mk rfl | exact sF1 rfl | exact Chk.mk (by kernel_rfl) | exact ⟨Chk.mk (by kernel_rfl)⟩ | exact sFlatT Vote.frz hAf | refine And.intro ?_ ?_ | rfl)
      exact ⟨by rw [rowsT_zero, List.map_map]; rfl⟩
    · intro ⟨i, Bf⟩ ⟨hi, hinv⟩
      dsimp only at hi hinv
      repeat' (first | refine And.intro ?_ ?_ | exact tf | exact ft | refine tt ?_ | refine ff ?_ | exact ⟨trivial⟩ | exact sAll rfl | exact sF1 rfl | exact sBld (by repeat' (first | exact trivial | rfl | exact Nat.le_of_ble_eq_true rfl | refine And.intro ?_ ?_)) rfl | exact sBS (by repeat' (first | exact trivial | rfl | exact Nat.le_of_ble_eq_true rfl | refine And.intro ?_ ?_)) rfl rfl rfl rfl | exact sBSF (by repeat' (first | exact trivial | rfl | exact Nat.le_of_ble_eq_true rfl | refine And.intro ?_ ?_)) rfl rfl rfl rfl | exact sLe rfl | exact Chk.mk (by kernel_rfl) | exact ⟨Chk.mk (by kernel_rfl)⟩ | exact sLeEq rfl rfl | refine fun h => ?_)
      all_goals try (exact endTree hinv hlen (by have h3 := of_decide_eq_false h; dsimp only at h3; omega) rfl Vote.frz)
      all_goals try (exact ⟨⟨trivial, trivial⟩⟩)
      all_goals try (have hl : i < vs.length := by (have h3 := of_decide_eq_true ‹decide ((i : Int) < (vs.length : Int)) = true›; omega))
      all_goals try (have hgA : (vs.map Vote.cellsA)[i]? = some (vs.getD i default).cellsA := by rw [List.getElem?_map, List.getElem?_eq_getElem hl, getD_get hl]; rfl)
      all_goals try (exact Side.mk (t_entryCopy _ (hv _ (getD_mem hl))))
      all_goals try (exact sIxT (i := i) hlen rfl hl rfl hgA rfl)
      all_goals try (exact sLdT (i := i) hlen (by simp) hl hgA rfl rfl)
      all_goals try (exact sStT (i := i) hlen (by simp) hl hgA rfl rfl)
      all_goals try (exact Side.mk (by repeat' constructor))
      · rename_i B hA
        refine ⟨(i + 1, updT Bf i (Vote.cells (vs.getD i default)) (fun j => B 0 (j - 1))), [], by dsimp only; omega, ⟨by dsimp only; omega, ?_⟩, ?_⟩
        · refine hinv.stepB hl (B := fun j => B 0 (j - 1)) (fun j j' x r1 r2 g1 g2 h1 h2 => ?_) (fun j x hx => ⟨0, j - 1, hx⟩) (h.st 0 _ rfl)
          have h3 := (hA 0 _ 0 _ x h1 h2).2
          have h4 : j ≠ 0 := fun e => by subst e; cases g1
          have h5 : j' ≠ 0 := fun e => by subst e; cases g2
          omega
        · repeat' (first | exact trivial | exact ⟨trivial⟩ | exact Side.mk rfl | exact sF1 rfl | exact Chk.mk (by kernel_rfl) | exact ⟨Chk.mk (by kernel_rfl)⟩ | exact sSetT hlen (by simp) hl hgA rfl | exact sFlatT Vote.frz hAf | exact ⟨by rw [wrapi] <;> omega⟩ | refine And.intro ?_ ?_ | rfl)
end Mg

/- The best of votes where one is of a later ballot, in plain terms. No condition. -/
namespace Mg
open Go Go.RowKit
set_option maxRecDepth 100000
set_option linter.unusedVariables false
set_option linter.unusedSimpArgs false
theorem voteOk_default : voteOk (default : Vote) = true := by decide
theorem votesOk_get {a : List Vote} (h : votesOk a = true) (i : Nat) : voteOk (a.getD i default) = true := by
  by_cases hi : i < a.length
  · exact votesOk_at h hi
  · rw [getD_none hi]; exact voteOk_default
theorem votesOk_mk {a : List Vote} (hl : a.length ≤ 40) (h : ∀ v ∈ a, voteOk v = true) : votesOk a = true := by
  simp only [votesOk, Bool.and_eq_true, decide_eq_true_eq, List.all_eq_true]
  exact ⟨hl, h⟩
theorem best_votesOk {a b : List Vote} (ha : votesOk a = true) (hb : votesOk b = true) : votesOk (bestN a b) = true := by
  refine votesOk_mk (by rw [bestN_len]; exact Nat.max_le.2 ⟨votesOk_len ha, votesOk_len hb⟩) fun v hv => ?_
  obtain ⟨i, _, rfl⟩ := List.mem_map.1 hv
  exact best_all (Q := fun v => voteOk v = true) (fun _ _ _ => votesOk_get hb i) (fun _ _ => votesOk_get ha i) (fun _ _ => voteOk_default)
theorem zeros_ok {n : Nat} (h : n ≤ 40) : votesOk (List.replicate n (default : Vote)) = true :=
  votesOk_mk (by simpa using h) fun v hv => by rw [List.eq_of_mem_replicate hv]; exact voteOk_default
theorem set_votesOk {a : List Vote} {k : Nat} {v : Vote} (ha : votesOk a = true) (hv : voteOk v = true) : votesOk (a.set k v) = true :=
  votesOk_mk (by simpa using votesOk_len ha) fun x hx => by
    rcases List.mem_or_eq_of_mem_set hx with hx | hx
    · have := ha
      simp only [votesOk, Bool.and_eq_true, List.all_eq_true] at this
      exact this.2 x hx
    · rw [hx]; exact hv
theorem top_voteOk {t : Int} (h1 : 1 ≤ t) (h2 : t ≤ 3000) : voteOk ⟨t, zeroE true⟩ = true := by
  unfold voteOk
  rw [if_neg (by simp only; omega)]
  simp only [Bool.and_eq_true]
  exact ⟨inr_iff.2 ⟨h1, h2⟩, by decide⟩
theorem accBest_of {u v : List Vote} (hu : votesOk u = true) (hv : votesOk v = true) : accBest u v = bestN u v := by unfold accBest; rw [if_pos (by rw [hu, hv]; rfl)]
theorem set_get {x : List Vote} {k : Nat} {v : Vote} (h : k < x.length) : (x.set k v).getD k default = v := by
  simp [List.getD_eq_getElem?_getD, h]
/-- The later vote is what both see. -/
theorem two_see {x b : List Vote} {k : Nat} {v : Vote} (hx : votesOk x = true) (hb : votesOk b = true) (hv : voteOk v = true) (hk : k < x.length) (hlt : (b.getD k default).bal < v.bal) (hp : 0 < v.bal) :
    (accBest (x.set k v) b).getD k default = v ∧ (accBest b (x.set k v)).getD k default = v ∧ (accBest (x.set k v) b).length = (accBest b (x.set k v)).length ∧ k < (accBest (x.set k v) b).length := by
  have hs := set_votesOk (k := k) hx hv
  have hl : (x.set k v).length = x.length := List.length_set
  rw [accBest_of hs hb, accBest_of hb hs]
  have l1 := bestN_len (x.set k v) b
  have l2 := bestN_len b (x.set k v)
  refine ⟨?_, ?_, by omega, by omega⟩
  · rw [bestN_at (by omega), best_a2 (by omega) (by rw [set_get hk]; omega), set_get hk]
  · rw [bestN_at (by omega)]
    by_cases h : k < b.length
    · rw [best_b2 h (by omega) (by rw [set_get hk]; exact hlt), set_get hk]
    · rw [best_b1 h (by omega) (by rw [set_get hk]; exact hp), set_get hk]
end Mg

/- Promises and votes in plain terms. No condition. -/
namespace Mg
open Go Go.RowKit
set_option maxRecDepth 100000
set_option linter.unusedVariables false
set_option linter.unusedSimpArgs false
theorem accOk_iff {a : Acc} : accOk a = true ↔ (0 ≤ a.p ∧ a.p ≤ 3000) ∧ votesOk a.votes = true ∧ ∀ v ∈ a.votes, v.bal ≤ a.p := by
  simp only [accOk, inr, Bool.and_eq_true, decide_eq_true_eq, List.all_eq_true, and_assoc]
theorem votesOk_iff {vs : List Vote} : votesOk vs = true ↔ vs.length ≤ 40 ∧ ∀ v ∈ vs, voteOk v = true := by
  simp only [votesOk, Bool.and_eq_true, decide_eq_true_eq, List.all_eq_true]
theorem accPromise_up {a : Acc} {b : Int} (ha : accOk a = true) (h1 : 1 ≤ b) (h2 : b ≤ 3000) (h : a.p ≤ b) : accPromise a b = (⟨b, a.votes⟩, true) := by
  unfold accPromise
  rw [if_pos ha, if_pos ⟨inr_iff.2 ⟨h1, h2⟩, by omega⟩]
theorem accPromise_no {a : Acc} {b : Int} (ha : accOk a = true) (h : ¬ (1 ≤ b ∧ b ≤ 3000 ∧ a.p ≤ b)) : accPromise a b = (a, false) := by
  unfold accPromise
  rw [if_pos ha, if_neg]
  rintro ⟨h3, h4⟩
  have := inr_iff.1 h3
  omega
theorem accPromise_bad {a : Acc} {b : Int} (ha : accOk a = false) : accPromise a b = (⟨0, []⟩, false) := by
  unfold accPromise
  rw [if_neg (by rw [ha]; decide)]
theorem accOk_up {a : Acc} {b : Int} (ha : accOk a = true) (h1 : 1 ≤ b) (h2 : b ≤ 3000) (h : a.p ≤ b) : accOk ⟨b, a.votes⟩ = true := by
  obtain ⟨_, h4, h5⟩ := accOk_iff.1 ha
  exact accOk_iff.2 ⟨⟨by dsimp only; omega, h2⟩, h4, fun v hv => Int.le_trans (h5 v hv) h⟩
theorem padV_len {vs : List Vote} {n : Nat} : (padV vs n).length = max vs.length n := by simp [padV]; omega
theorem padV_mem {vs : List Vote} {n : Nat} {v : Vote} (h : v ∈ padV vs n) : v ∈ vs ∨ v = default := by
  rcases List.mem_append.1 h with h | h
  · exact .inl h
  · exact .inr (List.eq_of_mem_replicate h)
theorem padV_get {vs : List Vote} {n i : Nat} (h : i < vs.length) : (padV vs n).getD i default = vs.getD i default := by
  simp [padV, List.getD_eq_getElem?_getD, List.getElem?_append_left h]
theorem accOk_vote {a : Acc} {b : Int} {k : Nat} {e : Entry} (ha : accOk a = true) (h1 : 1 ≤ b) (h2 : b ≤ 3000) (h : a.p ≤ b) (hk : k < 40) (he : entryOk e = true) : accOk ⟨b, (padV a.votes (k + 1)).set k ⟨b, e⟩⟩ = true := by
  obtain ⟨_, h4, h5⟩ := accOk_iff.1 ha
  obtain ⟨h6, h7⟩ := votesOk_iff.1 h4
  have hb : voteOk ⟨b, e⟩ = true := by unfold voteOk; rw [if_neg (by dsimp only; omega), inr_iff.2 ⟨h1, h2⟩, he]; rfl
  refine accOk_iff.2 ⟨⟨by dsimp only; omega, h2⟩, votesOk_iff.2 ⟨by rw [List.length_set, padV_len]; omega, fun v hv => ?_⟩, fun v hv => ?_⟩
  · rcases List.mem_or_eq_of_mem_set hv with hv | hv
    · rcases padV_mem hv with hv | hv
      · exact h7 v hv
      · rw [hv]; exact voteOk_default
    · rw [hv]; exact hb
  · rcases List.mem_or_eq_of_mem_set hv with hv | hv
    · rcases padV_mem hv with hv | hv
      · exact Int.le_trans (h5 v hv) h
      · rw [hv]; show (0 : Int) ≤ b; omega
    · rw [hv]; exact Int.le_refl b
theorem accVote_up {a : Acc} {b s : Int} {e : Entry} (ha : accOk a = true) (h1 : 1 ≤ b) (h2 : b ≤ 3000) (h : a.p ≤ b) (hs : 0 ≤ s) (hs2 : s < 40) (he : entryOk e = true) :
    accVote a b s e = (⟨b, (padV a.votes (s.toNat + 1)).set s.toNat ⟨b, e⟩⟩, true) := by
  unfold accVote
  rw [accPromise_up ha h1 h2 h]
  rw [if_pos rfl, if_pos ⟨inr_iff.2 ⟨hs, by omega⟩, he⟩]
theorem accVote_no {a : Acc} {b s : Int} {e : Entry} (ha : accOk a = true) (h : ¬ ((1 ≤ b ∧ b ≤ 3000 ∧ a.p ≤ b) ∧ (0 ≤ s ∧ s < 40) ∧ entryOk e = true)) : accVote a b s e = (a, false) := by
  unfold accVote
  by_cases g : 1 ≤ b ∧ b ≤ 3000 ∧ a.p ≤ b
  · rw [accPromise_up ha g.1 g.2.1 g.2.2, if_pos rfl, if_neg]
    rintro ⟨h3, h4⟩
    have := inr_iff.1 h3
    exact h ⟨g, ⟨by omega, by omega⟩, h4⟩
  · rw [accPromise_no ha g]; rfl
theorem accVote_bad {a : Acc} {b s : Int} {e : Entry} (ha : accOk a = false) : accVote a b s e = (⟨0, []⟩, false) := by
  unfold accVote
  rw [accPromise_bad ha]; rfl
end Mg

/- Promises, votes, the best of votes, as trees; the other side as frozen. No condition. -/
namespace Mg
open Go Go.RowKit
set_option maxRecDepth 100000
set_option linter.unusedVariables false
set_option linter.unusedSimpArgs false
attribute [local irreducible] W Pure Con TPure
theorem t_accCopy (a : Acc) (ha : a.ok lim) : TPure PP 103 [.agg a.cells] (.agg a.cells) := by
  refine TPure.vc [(7, .tre false (fun _ => .one (.fz (a.votes.map Vote.cells)))), (900001, .row [i6 0, i6 1, i6 2, i6 3, i6 4, i6 5, i6 6])] TTok hmo Go.Proofs.Tryz.func103 (by kernel_rfl) rfl (by kernel_rfl) ?_
  repeat' (first | refine And.intro ?_ ?_ | exact tf | exact ft | refine tt ?_ | refine ff ?_ | exact ⟨trivial⟩ | exact sAll rfl | exact sF1 rfl | exact sBld (by repeat' (first | exact trivial | rfl | exact Nat.le_of_ble_eq_true rfl | refine And.intro ?_ ?_)) rfl | exact sBS (by repeat' (first | exact trivial | rfl | exact Nat.le_of_ble_eq_true rfl | refine And.intro ?_ ?_)) rfl rfl rfl rfl | exact sBSF (by repeat' (first | exact trivial | rfl | exact Nat.le_of_ble_eq_true rfl | refine And.intro ?_ ?_)) rfl rfl rfl rfl | exact sLe rfl | exact Chk.mk (by kernel_rfl) | exact ⟨Chk.mk (by kernel_rfl)⟩ | exact sLeEq rfl rfl | refine fun h => ?_)
  all_goals try (exact ⟨rfl⟩)
  all_goals try (exact trivial)
  all_goals try (exact Side.mk (t_votesCopy _ ha.1 ha.2))
  all_goals try (refine Side.mk (apart_vs ?_); exact And.intro trivial trivial)
  all_goals try (exact Side.mk rfl)
  all_goals exact Side.mk (by repeat' (first | exact trivial | exact Nat.le_of_ble_eq_true rfl | refine And.intro ?_ ?_))

theorem t_AccPromise0 (a : Acc) (ha : a.ok lim) (bal : Int) (h0 : accOk a = false) : TPure PP 73 [.agg a.cells, oi bal] (qAcc (accPromise a bal)) := by
  rw [show accPromise a bal = (⟨0, []⟩, false) from by unfold accPromise; rw [if_neg (by simp [h0])]]
  refine TPure.vc [(8, .res (ob (accOk a))), (12, .tre true (fun _ => .agg a.cells)), (14, .res (ob (inr bal 1 3000)))] TTok hmo Go.Proofs.Tryz.func73 (by kernel_rfl) rfl (by kernel_rfl) ?_
  repeat' (first | refine And.intro ?_ ?_ | exact tf | exact ft | refine tt ?_ | refine ff ?_ | exact ⟨trivial⟩ | exact sAll rfl | exact sF1 rfl | exact sBld (by repeat' (first | exact trivial | rfl | exact Nat.le_of_ble_eq_true rfl | refine And.intro ?_ ?_)) rfl | exact sBS (by repeat' (first | exact trivial | rfl | exact Nat.le_of_ble_eq_true rfl | refine And.intro ?_ ?_)) rfl rfl rfl rfl | exact sBSF (by repeat' (first | exact trivial | rfl | exact Nat.le_of_ble_eq_true rfl | refine And.intro ?_ ?_)) rfl rfl rfl rfl | exact sLe rfl | exact Chk.mk (by kernel_rfl) | exact ⟨Chk.mk (by kernel_rfl)⟩ | exact sLeEq rfl rfl | exact sAnd (by repeat' constructor) (c_impl_AccOk a ha) | exact sAnd (by repeat' constructor) (c_impl_in _ _ _) | refine fun h => ?_)
  all_goals try (exact Side.mk (t_accCopy a ha))
  all_goals try (exfalso; simp_all; done)
  all_goals try (exfalso; have h3 := of_decide_eq_true h; first | (simp_all; done) | (simp_all; omega) | omega)
  all_goals try (exfalso; have h3 := of_decide_eq_false h; first | (simp_all; done) | (simp_all; omega) | omega)
  all_goals try (refine Side.mk (apart_vs ?_); first | exact trivial | exact And.intro trivial trivial)
  all_goals try (exact trivial)
  all_goals first | exact Side.mk rfl | exact trivial | exact Side.mk (by repeat' (first | exact trivial | exact Nat.le_of_ble_eq_true rfl | rfl | refine And.intro ?_ ?_))

theorem t_AccPromise1 (a : Acc) (ha : a.ok lim) (bal : Int) (h0 : accOk a = true) (h1 : inr bal 1 3000 = true ∧ ¬ bal < a.p) : TPure PP 73 [.agg a.cells, oi bal] (qAcc (accPromise a bal)) := by
  rw [show accPromise a bal = (⟨bal, a.votes⟩, true) from by unfold accPromise; rw [if_pos h0, if_pos h1]]
  refine TPure.vc [(8, .res (ob (accOk a))), (12, .tre true (fun _ => .agg a.cells)), (14, .res (ob (inr bal 1 3000)))] TTok hmo Go.Proofs.Tryz.func73 (by kernel_rfl) rfl (by kernel_rfl) ?_
  repeat' (first | refine And.intro ?_ ?_ | exact tf | exact ft | refine tt ?_ | refine ff ?_ | exact ⟨trivial⟩ | exact sAll rfl | exact sF1 rfl | exact sBld (by repeat' (first | exact trivial | rfl | exact Nat.le_of_ble_eq_true rfl | refine And.intro ?_ ?_)) rfl | exact sBS (by repeat' (first | exact trivial | rfl | exact Nat.le_of_ble_eq_true rfl | refine And.intro ?_ ?_)) rfl rfl rfl rfl | exact sBSF (by repeat' (first | exact trivial | rfl | exact Nat.le_of_ble_eq_true rfl | refine And.intro ?_ ?_)) rfl rfl rfl rfl | exact sLe rfl | exact Chk.mk (by kernel_rfl) | exact ⟨Chk.mk (by kernel_rfl)⟩ | exact sLeEq rfl rfl | exact sAnd (by repeat' constructor) (c_impl_AccOk a ha) | exact sAnd (by repeat' constructor) (c_impl_in _ _ _) | refine fun h => ?_)
  all_goals try (exact Side.mk (t_accCopy a ha))
  all_goals try (exfalso; simp_all; done)
  all_goals try (exfalso; have h3 := of_decide_eq_true h; first | (simp_all; done) | (simp_all; omega) | omega)
  all_goals try (exfalso; have h3 := of_decide_eq_false h; first | (simp_all; done) | (simp_all; omega) | omega)
  all_goals try (refine Side.mk (apart_vs ?_); first | exact trivial | exact And.intro trivial trivial)
  all_goals try (exact trivial)
  all_goals first | exact Side.mk rfl | exact trivial | exact Side.mk (by repeat' (first | exact trivial | exact Nat.le_of_ble_eq_true rfl | rfl | refine And.intro ?_ ?_))

theorem t_AccPromise2 (a : Acc) (ha : a.ok lim) (bal : Int) (h0 : accOk a = true) (h1 : ¬ (inr bal 1 3000 = true ∧ ¬ bal < a.p)) : TPure PP 73 [.agg a.cells, oi bal] (qAcc (accPromise a bal)) := by
  rw [show accPromise a bal = (a, false) from by unfold accPromise; rw [if_pos h0, if_neg h1]]
  refine TPure.vc [(8, .res (ob (accOk a))), (12, .tre true (fun _ => .agg a.cells)), (14, .res (ob (inr bal 1 3000)))] TTok hmo Go.Proofs.Tryz.func73 (by kernel_rfl) rfl (by kernel_rfl) ?_
  repeat' (first | refine And.intro ?_ ?_ | exact tf | exact ft | refine tt ?_ | refine ff ?_ | exact ⟨trivial⟩ | exact sAll rfl | exact sF1 rfl | exact sBld (by repeat' (first | exact trivial | rfl | exact Nat.le_of_ble_eq_true rfl | refine And.intro ?_ ?_)) rfl | exact sBS (by repeat' (first | exact trivial | rfl | exact Nat.le_of_ble_eq_true rfl | refine And.intro ?_ ?_)) rfl rfl rfl rfl | exact sBSF (by repeat' (first | exact trivial | rfl | exact Nat.le_of_ble_eq_true rfl | refine And.intro ?_ ?_)) rfl rfl rfl rfl | exact sLe rfl | exact Chk.mk (by kernel_rfl) | exact ⟨Chk.mk (by kernel_rfl)⟩ | exact sLeEq rfl rfl | exact sAnd (by repeat' constructor) (c_impl_AccOk a ha) | exact sAnd (by repeat' constructor) (c_impl_in _ _ _) | refine fun h => ?_)
  all_goals try (exact Side.mk (t_accCopy a ha))
  all_goals try (exfalso; simp_all; done)
  all_goals try (exfalso; have h3 := of_decide_eq_true h; first | (simp_all; done) | (simp_all; omega) | omega)
  all_goals try (exfalso; have h3 := of_decide_eq_false h; first | (simp_all; done) | (simp_all; omega) | omega)
  all_goals try (refine Side.mk (apart_vs ?_); first | exact trivial | exact And.intro trivial trivial)
  all_goals try (exact trivial)
  all_goals first | exact Side.mk rfl | exact trivial | exact Side.mk (by repeat' (first | exact trivial | exact Nat.le_of_ble_eq_true rfl | rfl | refine And.intro ?_ ?_))

theorem t_AccPromise (a : Acc) (ha : a.ok lim) (bal : Int) : TPure PP 73 [.agg a.cells, oi bal] (qAcc (accPromise a bal)) := by
  cases h0 : accOk a with
  | false => exact t_AccPromise0 a ha bal h0
  | true =>
    by_cases h1 : inr bal 1 3000 = true ∧ ¬ bal < a.p
    · exact t_AccPromise1 a ha bal h0 h1
    · exact t_AccPromise2 a ha bal h0 h1

end Mg
