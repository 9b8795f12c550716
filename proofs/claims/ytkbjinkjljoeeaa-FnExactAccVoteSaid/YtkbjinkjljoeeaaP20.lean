/- Parts of the abstract state logic and of the walks, one behind the other: E10, BS, E11, R2C. No condition. -/
import Derived.Test.YtkbjinkjljoeeaaP19
import Derived.Test.YtkbjinkjljoeeaaP17
import Derived.Test.YtkbjinkjljoeeaaP13
import Derived.Test.YtkbjinkjljoeeaaP14
/- The best of votes as a tree. No condition. -/
namespace Mg
open Go Go.RowKit
set_option maxRecDepth 100000
set_option linter.unusedVariables false
set_option linter.unusedSimpArgs false
attribute [local irreducible] W Pure Con TPure
theorem t_AccBest0 (a b : List Vote) (hk : ¬ (votesOk a = true ∧ votesOk b = true)) (hal : a.length ≤ 1000000) (hbl : b.length ≤ 1000000) (ha : VsOk lim a) (hb : VsOk lim b) :
    TPure PP 17 [.one (.fz (a.map Vote.cells)), .one (.fz (b.map Vote.cells))] (.one (.fz ((accBest a b).map Vote.cells))) := by
  have hal' : a.length ≤ maxLen := Nat.le_trans hal (by decide)
  have hbl' : b.length ≤ maxLen := Nat.le_trans hbl (by decide)
  have hR : accBest a b = [] := by rw [← impl_accBest, if_neg (by rw [Bool.and_eq_true]; exact hk)]
  rw [hR]
  refine TPure.vc [(8, .res (ob (votesOk a))), (12, .res (ob (votesOk b)))] TTok hmo Go.Proofs.Try.func17 (by kernel_rfl) rfl (by kernel_rfl) ?_
  repeat' (first | refine And.intro ?_ ?_ | exact tf | exact ft | refine tt ?_ | refine ff ?_ | exact ⟨trivial⟩ | exact sAll rfl | exact sF1 rfl | exact sBld (by repeat' (first | exact trivial | rfl | exact Nat.le_of_ble_eq_true rfl | refine And.intro ?_ ?_)) rfl | exact sBS (by repeat' (first | exact trivial | rfl | exact Nat.le_of_ble_eq_true rfl | refine And.intro ?_ ?_)) rfl rfl rfl rfl | exact sBSF (by repeat' (first | exact trivial | rfl | exact Nat.le_of_ble_eq_true rfl | refine And.intro ?_ ?_)) rfl rfl rfl rfl | exact sLe rfl | exact Chk.mk (by kernel_rfl) | exact ⟨Chk.mk (by kernel_rfl)⟩ | exact sLeEq rfl rfl | exact sAnd (by repeat' constructor) (c_impl_votesOk a hal' ha) | exact sAnd (by repeat' constructor) (c_impl_votesOk b hbl' hb) | refine fun h => ?_)
  all_goals try (exfalso; simp_all; done)
  all_goals try (refine Side.mk (apart_vs ?_); first | exact trivial | exact And.intro trivial trivial)
  all_goals try (exact trivial)
  all_goals first | exact Side.mk rfl | exact trivial | exact Side.mk (by repeat' (first | exact trivial | exact Nat.le_of_ble_eq_true rfl | rfl | refine And.intro ?_ ?_))
theorem fa_bd {m : Nat} {c : MC} (h : c.fa = true) : c.bd m := by cases c <;> first | exact trivial | cases h
theorem sBSA {a : Prop} {sz k m n : Nat} {cs : List MC} (h1 : a) (h2 : Nat.blt 0 sz = true) (h3 : Nat.ble (k * sz) 16777216 = true) (h4 : cs.length = n) (h5 : cs.all MC.fa = true) : Side (a ∧ (0 < sz ∧ k * sz ≤ 16777216) ∧ cs.length = n ∧ ∀ x ∈ cs, x.bd m) :=
  ⟨h1, ⟨Nat.blt_eq .. ▸ h2, Nat.le_of_ble_eq_true h3⟩, h4, fun x hx => fa_bd (List.all_eq_true.1 h5 x hx)⟩
theorem VoteA.flat : ∀ v : Vote, v.cellsA.all MC.flat = true := fun _ => rfl
theorem sUpA {f : Nat → Vote} {i : Nat} {v : Vote} {rows2 : List (List MC)} (h : f i = v) (e : rows2 = [v.cellsA]) : Side ((upTo f (i + 1)).map Vote.cellsA = (upTo f i).map Vote.cellsA ++ rows2) := ⟨by rw [upTo_succ, h, e]; simp⟩
theorem vA_all (d : List Vote) : AllA (d.map Vote.cellsA) := ⟨fun r hr => by
  obtain ⟨x, _, rfl⟩ := List.mem_map.1 hr
  exact List.all_eq_true.1 (show x.cellsA.all MC.fa = true from rfl)⟩
theorem vA_un (d : List Vote) {n : Nat} (hn : n = d.length) : ((((d.map Vote.cellsA).drop 0).take n).map fun r => r.map MC.unA) = d.map Vote.cells := by
  subst hn
  rw [List.drop_zero, List.take_of_length_le (by simp), List.map_map]; rfl
set_option maxHeartbeats 8000000 in
theorem t_AccBest1 (a b : List Vote) (hk : votesOk a = true ∧ votesOk b = true) (hal : a.length ≤ 1000000) (hbl : b.length ≤ 1000000) (ha : VsOk lim a) (hb : VsOk lim b) :
    TPure PP 17 [.one (.fz (a.map Vote.cells)), .one (.fz (b.map Vote.cells))] (.one (.fz ((accBest a b).map Vote.cells))) := by
  have hal' : a.length ≤ maxLen := Nat.le_trans hal (by decide)
  have hbl' : b.length ≤ maxLen := Nat.le_trans hbl (by decide)
  have hR : accBest a b = upTo (implAt a b) (max a.length b.length) := by rw [← impl_accBest, if_pos (by rw [hk.1, hk.2]; rfl)]
  rw [hR]
  refine TPure.vc [(8, .res (ob (votesOk a))), (12, .res (ob (votesOk b))), (800012, .row [])] TTok hmo Go.Proofs.Try.func17 (by kernel_rfl) rfl (by kernel_rfl) ?_
  repeat' (first | refine And.intro ?_ ?_ | exact tf | exact ft | refine tt ?_ | refine ff ?_ | exact ⟨trivial⟩ | exact sAll rfl | exact sF1 rfl | exact sBld (by repeat' (first | exact trivial | rfl | exact Nat.le_of_ble_eq_true rfl | refine And.intro ?_ ?_)) rfl | exact sBS (by repeat' (first | exact trivial | rfl | exact Nat.le_of_ble_eq_true rfl | refine And.intro ?_ ?_)) rfl rfl rfl rfl | exact sBSF (by repeat' (first | exact trivial | rfl | exact Nat.le_of_ble_eq_true rfl | refine And.intro ?_ ?_)) rfl rfl rfl rfl | exact sLe rfl | exact Chk.mk (by kernel_rfl) | exact ⟨Chk.mk (by kernel_rfl)⟩ | exact sLeEq rfl rfl | exact sAnd (by repeat' constructor) (c_impl_votesOk a hal' ha) | exact sAnd (by repeat' constructor) (c_impl_votesOk b hbl' hb) | refine fun h => ?_)
  all_goals try (first | exact ⟨trivial, trivial⟩ | exact ⟨Nat.le_of_ble_eq_true rfl, trivial⟩ | exact ⟨trivial, Nat.le_of_ble_eq_true rfl, trivial⟩ | exact ⟨Nat.le_of_ble_eq_true rfl, trivial, trivial⟩)
  all_goals try (exfalso; simp_all; done)
  · refine W.vslot 5 rfl ?_
    refine W.loopC (D := Nat) (fun i => [(42, .row (b.getD i default).cells), (54, .row (a.getD i default).cells), (59, .row (b.getD i default).cells), (67, .row (a.getD i default).cells), (30, .row (b.getD i default).cells)]) TTok hmo
      (fun i => ⟨73, 1, [(0, .one (.ag (a.map Vote.cells))), (1, .one (.ag (b.map Vote.cells))), (5, .one (.ref 0 0 (upTo (implAt a b) i).length)), (6, oi i)], [(0, .arr ((upTo (implAt a b) i).map Vote.cellsA))]⟩) (fun i => max a.length b.length - i) (fun i => i ≤ max a.length b.length) 0 [] (Nat.zero_le _) ?_ ?_
    · repeat' (first | exact trivial | exact ⟨trivial⟩ | exact Side.mk rfl | exact sF1 rfl | exact Chk.mk (by kernel_rfl) | exact ⟨Chk.mk (by kernel_rfl)⟩ | exact sMapF VoteA.flat | refine And.intro ?_ ?_ | rfl)
    · intro i hi
      repeat' (first | refine And.intro ?_ ?_ | exact tf | exact ft | refine tt ?_ | refine ff ?_ | exact ⟨trivial⟩ | exact sAll rfl | exact sF1 rfl | exact sBld (by repeat' (first | exact trivial | rfl | exact Nat.le_of_ble_eq_true rfl | refine And.intro ?_ ?_)) rfl | exact sBS (by repeat' (first | exact trivial | rfl | exact Nat.le_of_ble_eq_true rfl | refine And.intro ?_ ?_)) rfl rfl rfl rfl | exact sBSF (by repeat' (first | exact trivial | rfl | exact Nat.le_of_ble_eq_true rfl | refine And.intro ?_ ?_)) rfl rfl rfl rfl | exact sLe rfl | exact Chk.mk (by kernel_rfl) | exact ⟨Chk.mk (by kernel_rfl)⟩ | exact sLeEq rfl rfl | refine fun h => ?_)
      all_goals try (exact sApp (xs := upTo (implAt a b) i) (c := Vote.cellsA) (by simp) (fun _ => rfl) rfl (by rw [upTo_len]; omega) rfl rfl)
      all_goals simp only [decide_eq_true_eq, decide_eq_false_iff_not, List.length_map, Bool.not_eq_true', Bool.not_eq_false', Bool.not_eq_eq_eq_not, Bool.not_true, Bool.not_false, bne_iff_ne, ne_eq, bne_eq_false_iff_eq, beq_iff_eq, beq_eq_false_iff_ne] at *
      all_goals try (exact sRow (by omega) (by rw [Int.toNat_natCast, List.getElem?_map, List.getD_eq_getElem?_getD, List.getElem?_eq_getElem (by omega)]; rfl) rfl)
      all_goals try (exfalso; omega)
      all_goals try (exact ⟨fun _ _ => trivial⟩)
      all_goals try (exact ⟨allF Vote.frz, trivial⟩)
      all_goals try (first | exact ⟨trivial, trivial⟩ | exact ⟨Nat.le_of_ble_eq_true rfl, trivial⟩ | exact ⟨trivial, Nat.le_of_ble_eq_true rfl, trivial⟩ | exact ⟨Nat.le_of_ble_eq_true rfl, trivial, trivial⟩)
      all_goals try (have eb : implAt a b i = b.getD i default := by
                       unfold implAt
                       split
                       · rfl
                       · split
                         · exfalso; omega
                         · rfl)
      all_goals try (have ea : implAt a b i = a.getD i default := by
                       unfold implAt
                       split
                       · exfalso; omega
                       · split
                         · rfl
                         · exfalso; omega)
      all_goals try (refine ⟨i + 1, [(0, 2)], by omega, by omega, ?_⟩)
      all_goals try (exact sBSA (by repeat' (first | exact trivial | rfl | exact Nat.le_of_ble_eq_true rfl | refine And.intro ?_ ?_)) rfl rfl rfl rfl)
      all_goals first
        | (have hi' : i = max a.length b.length := by omega
           subst hi'
           refine W.frzE 5 rfl (vA_all _) ?_
           refine W.go [(72, .tre true (fun _ => .one (.fz ((upTo (implAt a b) (max a.length b.length)).map Vote.cells))))] TTok hmo ?_
           repeat' (first | refine And.intro ?_ ?_ | exact tf | exact ft | refine tt ?_ | refine ff ?_ | exact ⟨trivial⟩ | exact sAll rfl | exact sF1 rfl | exact sBld (by repeat' (first | exact trivial | rfl | exact Nat.le_of_ble_eq_true rfl | refine And.intro ?_ ?_)) rfl | exact sBS (by repeat' (first | exact trivial | rfl | exact Nat.le_of_ble_eq_true rfl | refine And.intro ?_ ?_)) rfl rfl rfl rfl | exact sBSF (by repeat' (first | exact trivial | rfl | exact Nat.le_of_ble_eq_true rfl | refine And.intro ?_ ?_)) rfl rfl rfl rfl | exact sLe rfl | exact Chk.mk (by kernel_rfl) | exact ⟨Chk.mk (by kernel_rfl)⟩ | exact sLeEq rfl rfl | refine fun h => ?_)
           all_goals try (exact Side.mk (Eq.mpr (congrArg (fun r => TPure PP 59 [MV.one (.fz r)] (.one (.fz ((upTo (implAt a b) (max a.length b.length)).map Vote.cells)))) (vA_un _ rfl)) (t_votesCopy _ (by rw [upTo_len]; show _ ≤ 1048576; omega) (upTo_ok (implAt_ok ha hb) _))))
           all_goals try (refine Side.mk (apart_vs ?_); first | exact trivial | exact And.intro trivial trivial)
           all_goals try (exact trivial)
           all_goals try (exact rfl)
           all_goals exact Side.mk (by repeat' constructor))
        | (have e3 := eb
           repeat' (first | exact trivial | exact ⟨trivial⟩ | exact Side.mk rfl | exact sF1 rfl | exact Chk.mk (by kernel_rfl) | exact ⟨Chk.mk (by kernel_rfl)⟩ | exact sMapF VoteA.flat | exact sUpA eb rfl | exact sUpL rfl rfl | exact sUpL2 rfl rfl | exact ⟨by rw [wrapi] <;> omega⟩ | refine And.intro ?_ ?_ | rfl))
        | (have e3 := ea
           repeat' (first | exact trivial | exact ⟨trivial⟩ | exact Side.mk rfl | exact sF1 rfl | exact Chk.mk (by kernel_rfl) | exact ⟨Chk.mk (by kernel_rfl)⟩ | exact sMapF VoteA.flat | exact sUpA ea rfl | exact sUpL rfl rfl | exact sUpL2 rfl rfl | exact ⟨by rw [wrapi] <;> omega⟩ | refine And.intro ?_ ?_ | rfl))
theorem t_AccBest (a b : List Vote) (hal : a.length ≤ 1000000) (hbl : b.length ≤ 1000000) (ha : VsOk lim a) (hb : VsOk lim b) :
    TPure PP 17 [.one (.fz (a.map Vote.cells)), .one (.fz (b.map Vote.cells))] (.one (.fz ((accBest a b).map Vote.cells))) := by
  by_cases hk : votesOk a = true ∧ votesOk b = true
  · exact t_AccBest1 a b hk hal hbl ha hb
  · exact t_AccBest0 a b hk hal hbl ha hb
end Mg

/- What is cast and promised, of what is right. No condition. -/
namespace Mg
open Go Go.RowKit
set_option maxRecDepth 100000
set_option linter.unusedVariables false
set_option linter.unusedSimpArgs false
attribute [local irreducible] W Pure Con
theorem castA_vote {a : Acc} {b slot : Int} {e : Entry} (h : accOk a = true) : castA a b slot e = accVote a b slot e := by
  have h0 := (accOk_iff.1 h).1
  by_cases g : (1 ≤ b ∧ b ≤ 3000 ∧ a.p ≤ b) ∧ (0 ≤ slot ∧ slot < 40) ∧ entryOk e = true
  · rw [accVote_up h g.1.1 g.1.2.1 g.1.2.2 g.2.1.1 g.2.1.2 g.2.2]
    have hp : promP a.p b = (b, true) := by unfold promP; rw [if_pos ⟨inr_iff.2 ⟨g.1.1, g.1.2.1⟩, by omega⟩]
    unfold castA; rw [if_pos ⟨⟨inr_iff.2 ⟨g.2.1.1, by omega⟩, g.2.2⟩, by rw [hp]⟩]
  · rw [accVote_no h g]
    unfold castA; rw [if_neg]
    rintro ⟨⟨h1, h2⟩, h3⟩
    have h1 := inr_iff.1 h1
    unfold promP at h3
    split at h3
    · rename_i h4
      have h5 := inr_iff.1 h4.1
      exact g ⟨⟨h5.1, h5.2, by omega⟩, ⟨h1.1, by omega⟩, h2⟩
    · cases h3
theorem promP_acc {a : Acc} {b : Int} (h : accOk a = true) : accPromise a b = (⟨(promP a.p b).1, a.votes⟩, (promP a.p b).2) := by
  unfold accPromise promP
  rw [if_pos h]
  split <;> rfl
theorem accVote_cases (a : Acc) (b s : Int) (e : Entry) (ha : accOk a = true) : ((1 ≤ b ∧ b ≤ 3000 ∧ a.p ≤ b) ∧ (0 ≤ s ∧ s < 40) ∧ entryOk e = true ∧ accVote a b s e = (⟨b, (padV a.votes (s.toNat + 1)).set s.toNat ⟨b, e⟩⟩, true)) ∨ accVote a b s e = (a, false) := by
  by_cases g : (1 ≤ b ∧ b ≤ 3000 ∧ a.p ≤ b) ∧ (0 ≤ s ∧ s < 40) ∧ entryOk e = true
  · exact .inl ⟨g.1, g.2.1, g.2.2, accVote_up ha g.1.1 g.1.2.1 g.1.2.2 g.2.1.1 g.2.1.2 g.2.2⟩
  · exact .inr (accVote_no ha g)
theorem padV_ok {vs : List Vote} {n : Nat} {v : Vote} {k : Nat} (h : VsOk lim vs) (hv : v.ok lim) : VsOk lim ((padV vs n).set k v) := VsOk.set (fun x hx => by
  rcases padV_mem hx with hx | hx
  · exact h x hx
  · rw [hx]; exact ⟨Nat.zero_le _, Nat.zero_le _⟩) hv
theorem accVote_ok {a : Acc} {b s : Int} {e : Entry} (ha : a.ok lim) (he : e.ok lim) : (accVote a b s e).1.ok lim := by
  cases h : accOk a with
  | false => rw [accVote_bad h]; exact ⟨Nat.zero_le _, fun v hv => by cases hv⟩
  | true =>
    rcases accVote_cases a b s e h with ⟨g1, g2, g3, g4⟩ | g
    · rw [g4]
      have := accOk_vote (k := s.toNat) h g1.1 g1.2.1 g1.2.2 (by omega) g3
      exact ⟨Nat.le_trans (votesOk_iff.1 (accOk_iff.1 this).2.1).1 (by decide), padV_ok ha.2 he⟩
    · rw [g]; exact ha
theorem accPromise_ok {a : Acc} {b : Int} (ha : a.ok lim) : (accPromise a b).1.ok lim := by
  unfold accPromise
  split
  · split
    · exact ⟨ha.1, ha.2⟩
    · exact ha
  · exact ⟨Nat.zero_le _, fun v hv => by cases hv⟩
end Mg

/- Promises and votes of the other side, of what is counted. No condition. -/
namespace Mg
open Go Go.RowKit
set_option maxRecDepth 100000
set_option linter.unusedVariables false
set_option linter.unusedSimpArgs false
attribute [local irreducible] W Pure Con
theorem p_l6Copy (a : Acc) (hx : a.votes.length ≤ 1000000) (hv : VsOk lim a.votes) : Pure PP false 67 [.agg a.cells] (.agg [i6 a.p, .own (a.votes.map Vote.cells)]) := by
  refine Pure.vc [(7, .res (.one (.own (a.votes.map Vote.cells)))), (900001, .row [i6 0, i6 1, i6 2, i6 3, i6 4, i6 5, i6 6])] TTok hmo Go.Proofs.Try.func67 (by kernel_rfl) rfl (by kernel_rfl) ?_
  repeat' (first | refine And.intro ?_ ?_ | exact tf | exact ft | refine tt ?_ | refine ff ?_ | exact ⟨trivial⟩ | exact sAll rfl | exact sF1 rfl | exact sBld (by repeat' (first | exact trivial | rfl | exact Nat.le_of_ble_eq_true rfl | refine And.intro ?_ ?_)) rfl | exact sBS (by repeat' (first | exact trivial | rfl | exact Nat.le_of_ble_eq_true rfl | refine And.intro ?_ ?_)) rfl rfl rfl rfl | exact sBSF (by repeat' (first | exact trivial | rfl | exact Nat.le_of_ble_eq_true rfl | refine And.intro ?_ ?_)) rfl rfl rfl rfl | exact sLe rfl | exact Chk.mk (by kernel_rfl) | exact ⟨Chk.mk (by kernel_rfl)⟩ | exact sLeEq rfl rfl | exact sAnd (by repeat' constructor) (c_l6ListP _ hx hv) | refine fun h => ?_)
  all_goals try (exact ⟨rfl⟩)
  all_goals try (exact trivial)
  exact ⟨⟨Nat.le_of_ble_eq_true rfl, trivial⟩, rfl, ⟨rfl, by simp, rfl, allF Vote.frz⟩, trivial⟩
theorem accOk_len {a : Acc} (h : accOk a = true) : a.votes.length ≤ 40 := (votesOk_iff.1 (accOk_iff.1 h).2.1).1
theorem q_spec_AccPromise (a : Acc) (ha : a.ok lim) (bal : Int) : Con PP 22 [.agg a.cells, oi bal] [] 0 (fAcc (accPromise a bal).1 (accPromise a bal).2).p (fAcc (accPromise a bal).1 (accPromise a bal).2).r (fAcc (accPromise a bal).1 (accPromise a bal).2).os := by
  cases hv : accOk a with
  | false =>
    rw [accPromise_bad hv]
    refine Con.vc [(7, .res (ob (accOk a)))] TTok hmo Go.Proofs.Try.func22 rfl (by kernel_rfl) rfl (by kernel_rfl) ?_
    repeat' (first | refine And.intro ?_ ?_ | exact tf | exact ft | refine tt ?_ | refine ff ?_ | exact ⟨trivial⟩ | exact sAll rfl | exact sF1 rfl | exact sBld (by repeat' (first | exact trivial | rfl | exact Nat.le_of_ble_eq_true rfl | refine And.intro ?_ ?_)) rfl | exact sBS (by repeat' (first | exact trivial | rfl | exact Nat.le_of_ble_eq_true rfl | refine And.intro ?_ ?_)) rfl rfl rfl rfl | exact sBSF (by repeat' (first | exact trivial | rfl | exact Nat.le_of_ble_eq_true rfl | refine And.intro ?_ ?_)) rfl rfl rfl rfl | exact sLe rfl | exact Chk.mk (by kernel_rfl) | exact ⟨Chk.mk (by kernel_rfl)⟩ | exact sLeEq rfl rfl | exact sAnd (by repeat' constructor) (c_spec_AccOk a ha) | refine fun h => ?_)
    all_goals try (exfalso; simp_all; done)
    all_goals try (exact ⟨Nat.le_of_ble_eq_true rfl, trivial, trivial⟩)
    apply exU'; refine ⟨[], [], trivial, ?_⟩
    repeat' (first | exact trivial | exact ⟨trivial⟩ | exact Side.mk rfl | exact sF1 rfl | exact Chk.mk (by kernel_rfl) | exact ⟨Chk.mk (by kernel_rfl)⟩ | refine And.intro ?_ ?_ | rfl)
  | true =>
    have hl := accOk_len hv
    rw [promP_acc hv]
    refine Con.vc [(7, .res (ob (accOk a))), (11, .res (.agg [i6 a.p, .own (a.votes.map Vote.cells)])), (13, .con false [2] [] [] (fun _ _ => tProX a.votes (promP a.p bal)))] TTok hmo Go.Proofs.Try.func22 rfl (by kernel_rfl) rfl (by kernel_rfl) ?_
    repeat' (first | refine And.intro ?_ ?_ | exact tf | exact ft | refine tt ?_ | refine ff ?_ | exact ⟨trivial⟩ | exact sAll rfl | exact sF1 rfl | exact sBld (by repeat' (first | exact trivial | rfl | exact Nat.le_of_ble_eq_true rfl | refine And.intro ?_ ?_)) rfl | exact sBS (by repeat' (first | exact trivial | rfl | exact Nat.le_of_ble_eq_true rfl | refine And.intro ?_ ?_)) rfl rfl rfl rfl | exact sBSF (by repeat' (first | exact trivial | rfl | exact Nat.le_of_ble_eq_true rfl | refine And.intro ?_ ?_)) rfl rfl rfl rfl | exact sLe rfl | exact Chk.mk (by kernel_rfl) | exact ⟨Chk.mk (by kernel_rfl)⟩ | exact sLeEq rfl rfl | exact sAnd (by repeat' constructor) (c_spec_AccOk a ha) | exact sAnd (by repeat' constructor) (p_l6Copy a (by omega) ha.2) | refine fun h => ?_)
    all_goals try (exfalso; simp_all; done)
    all_goals try dsimp only [tProX] at *
    all_goals try (exact ⟨fun _ _ => trivial⟩)
    all_goals try (exact ⟨fun _ _ => ⟨Nat.le_refl _, trivial⟩⟩)
    all_goals try (exact ⟨fun _ _ => ⟨allF Vote.frz, trivial⟩⟩)
    all_goals try (exact ⟨fun _ _ => ⟨by simp, trivial⟩⟩)
    all_goals try (exact ⟨allF Vote.frz, trivial⟩)
    all_goals try (exact ⟨con_arg (c_l6PromiseX a.votes a.p bal) (by rw [List.length_map])⟩)
    all_goals try (exact ⟨Nat.le_of_ble_eq_true rfl, trivial, trivial⟩)
    apply exU'; refine ⟨[], [2], trivial, ?_⟩
    repeat' (first | exact trivial | exact ⟨trivial⟩ | exact Side.mk rfl | exact sF1 rfl | exact Chk.mk (by kernel_rfl) | exact ⟨Chk.mk (by kernel_rfl)⟩ | exact sMapZ Vote.frz | exact sFzE rfl | refine And.intro ?_ ?_ | rfl)
theorem q_spec_AccVote (a : Acc) (ha : a.ok lim) (bal slot : Int) (e : Entry) (he : e.ok lim) : Con PP 29 [.agg a.cells, oi bal, oi slot, .agg e.cells] [] 0 (fAcc (accVote a bal slot e).1 (accVote a bal slot e).2).p (fAcc (accVote a bal slot e).1 (accVote a bal slot e).2).r (fAcc (accVote a bal slot e).1 (accVote a bal slot e).2).os := by
  cases hv : accOk a with
  | false =>
    rw [accVote_bad hv]
    refine Con.vc [(11, .res (ob (accOk a))), (900003, .row [i6 0, i6 2, i6 3, i6 4, i6 1, i6 5, i6 6, i6 7, i6 8, i6 9])] TTok hmo Go.Proofs.Try.func29 rfl (by kernel_rfl) rfl (by kernel_rfl) ?_
    repeat' (first | refine And.intro ?_ ?_ | exact tf | exact ft | refine tt ?_ | refine ff ?_ | exact ⟨trivial⟩ | exact sAll rfl | exact sF1 rfl | exact sBld (by repeat' (first | exact trivial | rfl | exact Nat.le_of_ble_eq_true rfl | refine And.intro ?_ ?_)) rfl | exact sBS (by repeat' (first | exact trivial | rfl | exact Nat.le_of_ble_eq_true rfl | refine And.intro ?_ ?_)) rfl rfl rfl rfl | exact sBSF (by repeat' (first | exact trivial | rfl | exact Nat.le_of_ble_eq_true rfl | refine And.intro ?_ ?_)) rfl rfl rfl rfl | exact sLe rfl | exact Chk.mk (by kernel_rfl) | exact ⟨Chk.mk (by kernel_rfl)⟩ | exact sLeEq rfl rfl | exact sAnd (by repeat' constructor) (c_spec_AccOk a ha) | refine fun h => ?_)
    all_goals try (exfalso; simp_all; done)
    all_goals try (exact ⟨rfl⟩)
    all_goals try (exact trivial)
    all_goals try (exact ⟨Nat.le_of_ble_eq_true rfl, trivial, trivial⟩)
    apply exU'; refine ⟨[], [], trivial, ?_⟩
    repeat' (first | exact trivial | exact ⟨trivial⟩ | exact Side.mk rfl | exact sF1 rfl | exact Chk.mk (by kernel_rfl) | exact ⟨Chk.mk (by kernel_rfl)⟩ | refine And.intro ?_ ?_ | rfl)
  | true =>
    have hl := accOk_len hv
    rw [← castA_vote hv]
    refine Con.vc [(11, .res (ob (accOk a))), (15, .res (.agg [i6 a.p, .own (a.votes.map Vote.cells)])), (19, .con false [] [3] [] (fun _ _ => tCaX (castA a bal slot e))), (900003, .row [i6 0, i6 2, i6 3, i6 4, i6 1, i6 5, i6 6, i6 7, i6 8, i6 9])] TTok hmo Go.Proofs.Try.func29 rfl (by kernel_rfl) rfl (by kernel_rfl) ?_
    repeat' (first | refine And.intro ?_ ?_ | exact tf | exact ft | refine tt ?_ | refine ff ?_ | exact ⟨trivial⟩ | exact sAll rfl | exact sF1 rfl | exact sBld (by repeat' (first | exact trivial | rfl | exact Nat.le_of_ble_eq_true rfl | refine And.intro ?_ ?_)) rfl | exact sBS (by repeat' (first | exact trivial | rfl | exact Nat.le_of_ble_eq_true rfl | refine And.intro ?_ ?_)) rfl rfl rfl rfl | exact sBSF (by repeat' (first | exact trivial | rfl | exact Nat.le_of_ble_eq_true rfl | refine And.intro ?_ ?_)) rfl rfl rfl rfl | exact sLe rfl | exact Chk.mk (by kernel_rfl) | exact ⟨Chk.mk (by kernel_rfl)⟩ | exact sLeEq rfl rfl | exact sAnd (by repeat' constructor) (c_spec_AccOk a ha) | exact sAnd (by repeat' constructor) (p_l6Copy a (by omega) ha.2) | refine fun h => ?_)
    all_goals try (exfalso; simp_all; done)
    all_goals try dsimp only [tCaX] at *
    all_goals try (exact ⟨rfl⟩)
    all_goals try (exact trivial)
    all_goals try (exact ⟨fun _ _ => trivial⟩)
    all_goals try (exact ⟨fun _ _ => ⟨allF Vote.frz, trivial⟩⟩)
    all_goals try (exact ⟨allF Vote.frz, trivial⟩)
    all_goals try (exact ⟨con_arg (c_l6CastX a.votes a.p bal slot e (by omega) he) (by rw [List.length_map]; rfl)⟩)
    all_goals try (exact ⟨Nat.le_of_ble_eq_true rfl, trivial, trivial⟩)
    apply exU'; refine ⟨[], [4], trivial, ?_⟩
    repeat' (first | exact trivial | exact ⟨trivial⟩ | exact Side.mk rfl | exact sF1 rfl | exact Chk.mk (by kernel_rfl) | exact ⟨Chk.mk (by kernel_rfl)⟩ | exact sMapZ Vote.frz | exact sFzE rfl | refine And.intro ?_ ?_ | rfl)
set_option maxHeartbeats 4000000 in
theorem c_l6CastA (vs : List Vote) (p b slot : Int) (e : Entry) (hl : vs.length ≤ 1000) (he : e.ok lim) : Con PP 71 [.agg [i6 p, .ref 0 0 vs.length], oi b, oi slot, .agg e.cellsA] [.arr (vs.map Vote.cells)] 0
    (tCaX (castA ⟨p, vs⟩ b slot e)).p (tCaX (castA ⟨p, vs⟩ b slot e)).r (tCaX (castA ⟨p, vs⟩ b slot e)).os := by
  generalize hq : castA ⟨p, vs⟩ b slot e = q
  unfold castA at hq
  have hT : (promP p b).2 = true → (promP p b).1 = b := fun h => by unfold promP at h ⊢; split at h <;> simp_all
  have cP := c_l6PromiseX vs p b
  dsimp only at hq
  generalize promP p b = pr at *
  obtain ⟨p1, b1⟩ := pr
  dsimp only at hq hT
  refine Con.vc [(20, .res (ob (entryOk e))), (27, .con false [0] [] [] (fun _ _ => tProX vs (p1, b1))), (49, .res (.agg e.cells))] TTok hmo Go.Proofs.Try.func71 rfl (by kernel_rfl) rfl (by kernel_rfl) ?_
  repeat' (first | refine And.intro ?_ ?_ | exact tf | exact ft | refine tt ?_ | refine ff ?_ | exact ⟨trivial⟩ | exact sAll rfl | exact sF1 rfl | exact sBld (by repeat' (first | exact trivial | rfl | exact Nat.le_of_ble_eq_true rfl | refine And.intro ?_ ?_)) rfl | exact sBS (by repeat' (first | exact trivial | rfl | exact Nat.le_of_ble_eq_true rfl | refine And.intro ?_ ?_)) rfl rfl rfl rfl | exact sBSF (by repeat' (first | exact trivial | rfl | exact Nat.le_of_ble_eq_true rfl | refine And.intro ?_ ?_)) rfl rfl rfl rfl | exact sLe rfl | exact Chk.mk (by kernel_rfl) | exact ⟨Chk.mk (by kernel_rfl)⟩ | exact sLeEq rfl rfl | exact sAnd (by repeat' constructor) (c_spec_CertEntry e he) | exact sAnd (by repeat' constructor) (c_l5Entry e he) | refine fun h => ?_)
  all_goals try dsimp only [tProX] at *
  all_goals try (exact ⟨fun _ _ => trivial⟩)
  all_goals try (exact ⟨fun _ _ => ⟨Nat.le_refl _, trivial⟩⟩)
  all_goals try (exact ⟨cP⟩)
  all_goals try (exact ⟨allF Vote.frz, trivial⟩)
  all_goals try (first | exact ⟨trivial, trivial⟩ | exact ⟨Nat.le_of_ble_eq_true rfl, trivial⟩ | exact ⟨trivial, Nat.le_of_ble_eq_true rfl, trivial⟩ | exact ⟨Nat.le_of_ble_eq_true rfl, trivial, trivial⟩)
  all_goals try (exact ⟨fun _ _ => ⟨allF Vote.frz, trivial⟩⟩)
  · obtain rfl : (⟨p, vs⟩, false) = q := by rw [← hq, if_neg (by simp_all)]
    apply exU'; refine ⟨[], [], trivial, ?_⟩
    repeat' (first | exact trivial | exact ⟨trivial⟩ | exact Side.mk rfl | exact sF1 rfl | exact Chk.mk (by kernel_rfl) | exact ⟨Chk.mk (by kernel_rfl)⟩ | exact sMapF Vote.flat | refine And.intro ?_ ?_ | rfl)
  · obtain rfl : (⟨p, vs⟩, false) = q := by rw [← hq, if_neg (by simp_all)]
    apply exU'; refine ⟨[], [], trivial, ?_⟩
    repeat' (first | exact trivial | exact ⟨trivial⟩ | exact Side.mk rfl | exact sF1 rfl | exact Chk.mk (by kernel_rfl) | exact ⟨Chk.mk (by kernel_rfl)⟩ | exact sMapF Vote.flat | refine And.intro ?_ ?_ | rfl)
  · have hs0 : 0 ≤ slot ∧ slot < 40 := by
      have g1 := of_decide_eq_false ‹decide (slot < 0) = false›
      have g2 := of_decide_eq_false ‹decide (slot ≥ 40) = false›
      omega
    have hb : b1 = true := by cases b1 <;> simp_all
    subst hb
    obtain rfl := hT rfl
    obtain rfl : (⟨p1, (padV vs (slot.toNat + 1)).set slot.toNat ⟨p1, e⟩⟩, true) = q := by rw [← hq, if_pos ⟨⟨inr_iff.2 ⟨hs0.1, by omega⟩, by simp_all⟩, rfl⟩]
    refine W.loopC (D := List Vote) (fun d => [(41, .row [])]) TTok hmo
      (fun d => ⟨53, 6, [(1, oi p1), (2, oi slot), (7, .one (.ptr 2 0 0)), (8, .one (.ptr 3 0 0)), (9, ob false), (10, .one (.ptr 4 0 0))],
        [(5, .arr (d.map Vote.cells)), (2, .box e.cellsA), (3, .box [i6 0, .nil]), (4, .box [i6 p1, .ref 5 0 d.length])]⟩) (fun d => slot.toNat + 1 - d.length)
      (fun d => d.length ≤ max vs.length (slot.toNat + 1) ∧ padV d (slot.toNat + 1) = padV vs (slot.toNat + 1)) vs [(5, 0)] ⟨by omega, rfl⟩ ?_ ?_
    · repeat' (first | exact trivial | exact ⟨trivial⟩ | exact Side.mk rfl | exact sF1 rfl | exact Chk.mk (by kernel_rfl) | exact ⟨Chk.mk (by kernel_rfl)⟩ | exact sMapF Vote.flat | refine And.intro ?_ ?_ | rfl)
    · intro d ⟨h1, h2⟩
      repeat' (first | refine And.intro ?_ ?_ | exact tf | exact ft | refine tt ?_ | refine ff ?_ | exact ⟨trivial⟩ | exact sAll rfl | exact sF1 rfl | exact sBld (by repeat' (first | exact trivial | rfl | exact Nat.le_of_ble_eq_true rfl | refine And.intro ?_ ?_)) rfl | exact sBS (by repeat' (first | exact trivial | rfl | exact Nat.le_of_ble_eq_true rfl | refine And.intro ?_ ?_)) rfl rfl rfl rfl | exact sBSF (by repeat' (first | exact trivial | rfl | exact Nat.le_of_ble_eq_true rfl | refine And.intro ?_ ?_)) rfl rfl rfl rfl | exact sLe rfl | exact Chk.mk (by kernel_rfl) | exact ⟨Chk.mk (by kernel_rfl)⟩ | exact sLeEq rfl rfl | exact sAnd (by repeat' constructor) (c_l5Entry e he) | refine fun h => ?_)
      all_goals try (exact sApp (xs := d) (c := Vote.cells) (by simp) (fun _ => rfl) rfl (by omega) rfl rfl)
      all_goals try (have hd := of_decide_eq_false ‹decide ((d.length : Int) ≤ slot) = false›)
      all_goals try (exact sIxO (c := Vote.cells) (by omega) (by omega) rfl (fun _ => rfl))
      all_goals try (exact sSt (c := Vote.cells) (m := 8) (xs := d) (by omega) (fun _ => rfl) rfl rfl)
      all_goals try (first | exact ⟨trivial, trivial⟩ | exact ⟨Nat.le_of_ble_eq_true rfl, trivial⟩ | exact ⟨trivial, Nat.le_of_ble_eq_true rfl, trivial⟩ | exact ⟨Nat.le_of_ble_eq_true rfl, trivial, trivial⟩)
      all_goals simp only [decide_eq_true_eq, decide_eq_false_iff_not, List.length_map, Bool.not_eq_true', Bool.not_eq_false', Bool.not_eq_eq_eq_not, Bool.not_true, Bool.not_false, bne_iff_ne, ne_eq, bne_eq_false_iff_eq, beq_iff_eq, beq_eq_false_iff_ne] at *
      · refine ⟨d ++ [default], [(5, 6)], by simp; omega, ⟨by simp; omega, padV_step h2 (by omega)⟩, ?_⟩
        repeat' (first | exact trivial | exact ⟨trivial⟩ | exact Side.mk rfl | exact sF1 rfl | exact Chk.mk (by kernel_rfl) | exact ⟨Chk.mk (by kernel_rfl)⟩ | exact sAppR rfl | exact sAppL rfl rfl | exact sAppL2 rfl rfl | exact sMapF Vote.flat | refine And.intro ?_ ?_ | rfl)
      · have he : padV vs (slot.toNat + 1) = d := h2.symm.trans (padV_end (by omega))
        rw [he]
        apply exU'; refine ⟨[(0, 5)], [], trivial, ?_⟩
        repeat' (first | exact trivial | exact ⟨trivial⟩ | exact Side.mk rfl | exact sF1 rfl | exact Chk.mk (by kernel_rfl) | exact ⟨Chk.mk (by kernel_rfl)⟩ | exact sMapF Vote.flat | exact ⟨setMap (xs := d) (by rw [mapGet (by omega)]; rfl)⟩ | exact sSetL rfl | refine And.intro ?_ ?_ | rfl)
  · obtain rfl : (⟨p, vs⟩, false) = q := by rw [← hq, if_neg (fun hh => by have g := (inr_iff.1 hh.1.1); simp_all; omega)]
    apply exU'; refine ⟨[], [], trivial, ?_⟩
    repeat' (first | exact trivial | exact ⟨trivial⟩ | exact Side.mk rfl | exact sF1 rfl | exact Chk.mk (by kernel_rfl) | exact ⟨Chk.mk (by kernel_rfl)⟩ | exact sMapF Vote.flat | refine And.intro ?_ ?_ | rfl)
  · obtain rfl : (⟨p, vs⟩, false) = q := by rw [← hq, if_neg (fun hh => by have g := (inr_iff.1 hh.1.1); simp_all; omega)]
    apply exU'; refine ⟨[], [], trivial, ?_⟩
    repeat' (first | exact trivial | exact ⟨trivial⟩ | exact Side.mk rfl | exact sF1 rfl | exact Chk.mk (by kernel_rfl) | exact ⟨Chk.mk (by kernel_rfl)⟩ | exact sMapF Vote.flat | refine And.intro ?_ ?_ | rfl)
theorem p_spec_AccVote (a : Acc) (ha : a.ok lim) (bal slot : Int) (e : Entry) (he : e.ok lim) : Pure PP false 29 [.agg a.cells, oi bal, oi slot, .agg e.cells] (qAcc (accVote a bal slot e)) := by
  cases hv : accOk a with
  | false =>
    rw [accVote_bad hv]
    refine Pure.vc [(11, .res (ob (accOk a))), (900003, .row [i6 0, i6 2, i6 3, i6 4, i6 1, i6 5, i6 6, i6 7, i6 8, i6 9])] TTok hmo Go.Proofs.Try.func29 (by kernel_rfl) rfl (by kernel_rfl) ?_
    repeat' (first | refine And.intro ?_ ?_ | exact tf | exact ft | refine tt ?_ | refine ff ?_ | exact ⟨trivial⟩ | exact sAll rfl | exact sF1 rfl | exact sBld (by repeat' (first | exact trivial | rfl | exact Nat.le_of_ble_eq_true rfl | refine And.intro ?_ ?_)) rfl | exact sBS (by repeat' (first | exact trivial | rfl | exact Nat.le_of_ble_eq_true rfl | refine And.intro ?_ ?_)) rfl rfl rfl rfl | exact sBSF (by repeat' (first | exact trivial | rfl | exact Nat.le_of_ble_eq_true rfl | refine And.intro ?_ ?_)) rfl rfl rfl rfl | exact sLe rfl | exact Chk.mk (by kernel_rfl) | exact ⟨Chk.mk (by kernel_rfl)⟩ | exact sLeEq rfl rfl | exact sAnd (by repeat' constructor) (c_spec_AccOk a ha) | refine fun h => ?_)
    all_goals try (exfalso; simp_all; done)
    all_goals try (exact ⟨rfl⟩)
    all_goals try (exact trivial)
    exact ⟨⟨Nat.le_of_ble_eq_true rfl, trivial, trivial⟩, ⟨rfl, rfl, trivial⟩, ⟨rfl, trivial⟩, trivial⟩
  | true =>
    have hl := accOk_len hv
    rw [← castA_vote hv]
    refine Pure.vc [(11, .res (ob (accOk a))), (15, .res (.agg [i6 a.p, .own (a.votes.map Vote.cells)])), (19, .con false [] [3] [] (fun _ _ => tCaX (castA a bal slot e))), (900003, .row [i6 0, i6 2, i6 3, i6 4, i6 1, i6 5, i6 6, i6 7, i6 8, i6 9])] TTok hmo Go.Proofs.Try.func29 (by kernel_rfl) rfl (by kernel_rfl) ?_
    repeat' (first | refine And.intro ?_ ?_ | exact tf | exact ft | refine tt ?_ | refine ff ?_ | exact ⟨trivial⟩ | exact sAll rfl | exact sF1 rfl | exact sBld (by repeat' (first | exact trivial | rfl | exact Nat.le_of_ble_eq_true rfl | refine And.intro ?_ ?_)) rfl | exact sBS (by repeat' (first | exact trivial | rfl | exact Nat.le_of_ble_eq_true rfl | refine And.intro ?_ ?_)) rfl rfl rfl rfl | exact sBSF (by repeat' (first | exact trivial | rfl | exact Nat.le_of_ble_eq_true rfl | refine And.intro ?_ ?_)) rfl rfl rfl rfl | exact sLe rfl | exact Chk.mk (by kernel_rfl) | exact ⟨Chk.mk (by kernel_rfl)⟩ | exact sLeEq rfl rfl | exact sAnd (by repeat' constructor) (c_spec_AccOk a ha) | exact sAnd (by repeat' constructor) (p_l6Copy a (by omega) ha.2) | refine fun h => ?_)
    all_goals try (exfalso; simp_all; done)
    all_goals try dsimp only [tCaX] at *
    all_goals try (exact ⟨rfl⟩)
    all_goals try (exact trivial)
    all_goals try (exact ⟨fun _ _ => trivial⟩)
    all_goals try (exact ⟨fun _ _ => ⟨allF Vote.frz, trivial⟩⟩)
    all_goals try (exact ⟨allF Vote.frz, trivial⟩)
    all_goals try (exact ⟨con_arg (c_l6CastA a.votes a.p bal slot e (by omega) he) (by rw [List.length_map]; rfl)⟩)
    all_goals try (exact ⟨Nat.le_of_ble_eq_true rfl, trivial, trivial⟩)
    exact ⟨⟨Nat.le_of_ble_eq_true rfl, trivial, trivial⟩, ⟨rfl, ⟨by rw [List.drop_zero, List.take_of_length_le (by simp)], allF Vote.frz⟩, trivial⟩, ⟨rfl, trivial⟩, trivial⟩
end Mg

/- Helpers of nodes. No condition. -/
namespace Mg
open Go Go.RowKit
set_option maxRecDepth 100000
set_option linter.unusedVariables false
set_option linter.unusedSimpArgs false
attribute [local irreducible] W Pure
theorem Ins.eq_iff {x y : Ins} : x = y ↔ x.kind = y.kind ∧ x.a = y.a ∧ x.b = y.b ∧ x.n = y.n := by
  cases x; cases y; simp
theorem Told.eq_iff {x y : Told} : x = y ↔ x.node = y.node ∧ x.q = y.q ∧ x.code = y.code ∧ x.val = y.val := by
  cases x; cases y; simp

theorem c_toIns (x : Ins) :
    Pure PP false 164 [.agg x.cells] (.agg x.cells) := by
  refine Pure.vc [] TTok hmo Go.Proofs.Try.func164 (by kernel_rfl) rfl (by kernel_rfl) ?_
  repeat' (first | refine And.intro ?_ ?_ | exact tf | exact ft | refine tt ?_ | refine ff ?_ | exact ⟨trivial⟩ | exact sLe rfl | exact Chk.mk (by kernel_rfl) | exact ⟨Chk.mk (by kernel_rfl)⟩ | exact sLeEq rfl rfl | refine fun h => ?_)
  all_goals (refine ⟨?_⟩; repeat' (first | exact trivial | exact Nat.le_of_ble_eq_true rfl | rfl | refine And.intro ?_ ?_))

theorem c_eqIns (x y : Ins)  :
    Pure PP false 101 [.agg x.cells, .agg y.cells] (ob (decide (x = y))) := by
  obtain ⟨k, a, b, n⟩ := x
  obtain ⟨k', a', b', n'⟩ := y
  refine Pure.vc [] TTok hmo Go.Proofs.Try.func101 (by kernel_rfl) rfl (by kernel_rfl) ?_
  repeat' (first | refine And.intro ?_ ?_ | exact tf | exact ft | refine tt ?_ | refine ff ?_ | exact ⟨trivial⟩ | exact sLe rfl | exact Chk.mk (by kernel_rfl) | exact ⟨Chk.mk (by kernel_rfl)⟩ | exact sLeEq rfl rfl | refine fun h => ?_)
  all_goals (refine ⟨?_⟩; simp_all)
  all_goals rfl

theorem c_eqInsS (xs ys : List Ins) (hx : xs.length ≤ maxLen) (hy : ys.length ≤ maxLen)  :
    Pure PP false 48 [.one (.fz (xs.map Ins.cells)), .one (.fz (ys.map Ins.cells))] (ob (decide (xs = ys))) := by
  refine Pure.vc [] TTok hmo Go.Proofs.Try.func48 (by kernel_rfl) rfl (by kernel_rfl) ?_
  repeat' (first | refine And.intro ?_ ?_ | exact tf | exact ft | refine tt ?_ | refine ff ?_ | exact ⟨trivial⟩ | exact sLe rfl | exact Chk.mk (by kernel_rfl) | exact ⟨Chk.mk (by kernel_rfl)⟩ | exact sLeEq rfl rfl | refine fun h => ?_)
  · refine ⟨?_⟩
    simp at *
    intro e; subst e; simp at h
  · have hl : xs.length = ys.length := by simp at h; omega
    unfold maxLen at hx hy
    refine W.loopC (D := Nat) (fun i => [(19, .row (xs.getD i default).cells), (23, .row (ys.getD i default).cells), (25, .res (ob (decide (xs.getD i default = ys.getD i default))))]) TTok hmo
      (fun i => ⟨27, 0, [(0, .one (.ag (xs.map Ins.cells))), (1, .one (.ag (ys.map Ins.cells))), (4, ob false), (5, oi i)], []⟩) (fun i => xs.length - i) (fun i => i ≤ xs.length ∧ xs.take i = ys.take i) 0 [] ⟨by omega, by simp⟩ ?_ ?_
    · repeat' (first | exact trivial | exact ⟨rfl⟩ | exact Chk.mk (by kernel_rfl) | refine And.intro ?_ ?_ | rfl)
    · intro i ⟨hi, hp⟩
      repeat' (first | refine And.intro ?_ ?_ | exact tf | exact ft | refine tt ?_ | refine ff ?_ | exact ⟨trivial⟩ | exact sLe rfl | exact Chk.mk (by kernel_rfl) | exact ⟨Chk.mk (by kernel_rfl)⟩ | exact sLeEq rfl rfl | exact sAnd (by repeat' constructor) (c_eqIns _ _) | refine fun h => ?_)
      all_goals simp only [decide_eq_true_eq, decide_eq_false_iff_not, List.length_map, Bool.not_eq_true', Bool.not_eq_false', Bool.not_eq_eq_eq_not, Bool.not_true, Bool.not_false] at *
      · exact sRow (by omega) (row_at xs _ (by omega)) rfl
      · exact sRow (by omega) (row_at ys _ (by omega)) rfl
      · refine ⟨?_⟩
        simp
        intro e; subst e; contradiction
      · refine ⟨i + 1, [], by omega, ⟨by omega, eq_upto hl (by omega) hp (by assumption)⟩, ?_⟩
        repeat' (first | exact trivial | exact ⟨rfl⟩ | exact Chk.mk (by kernel_rfl) | refine And.intro ?_ ?_ | rfl)
        exact ⟨by rw [wrapi] <;> omega⟩
      · refine ⟨?_⟩
        simp
        exact eq_all hl (by omega) hp

theorem c_toInsS (xs : List Ins) (hx : xs.length ≤ lim)  :
    Pure PP false 155 [.one (.fz (xs.map Ins.cells))] (.one (.fz (xs.map Ins.cells))) := by
  have hx0 : xs.length ≤ 1048576 := hx
  refine Pure.vc [] TTok hmo Go.Proofs.Try.func155 (by kernel_rfl) rfl (by kernel_rfl) ?_
  repeat' (first | refine And.intro ?_ ?_ | exact tf | exact ft | refine tt ?_ | refine ff ?_ | exact ⟨trivial⟩ | exact sLe rfl | exact Chk.mk (by kernel_rfl) | exact ⟨Chk.mk (by kernel_rfl)⟩ | exact sLeEq rfl rfl | refine fun h => ?_)
  · refine ⟨?_⟩
    simp at *
    omega
  · refine W.loopC (D := Nat) (fun i => [(18, .row (xs.getD i default).cells), (20, .res (.agg (xs.getD i default).cells))]) TTok hmo
      (fun i => ⟨23, 1, [(0, .one (.ag (xs.map Ins.cells))), (2, .one .nil), (3, .one (.ref 0 0 xs.length)), (4, oi i)], [(0, .arr (part Ins.cells [i6 0, i6 0, i6 0, i6 0] xs i))]⟩) (fun i => xs.length - i) (fun i => i ≤ xs.length) 0 [] (by omega) ?_ ?_
    · repeat' (first | exact trivial | exact ⟨rfl⟩ | exact Chk.mk (by kernel_rfl) | exact sPart0 (by simp) | exact sFlat Ins.flat rfl | refine And.intro ?_ ?_ | rfl)
      all_goals exact ⟨by simp⟩
    · intro i hi
      repeat' (first | refine And.intro ?_ ?_ | exact tf | exact ft | refine tt ?_ | refine ff ?_ | exact ⟨trivial⟩ | exact sLe rfl | exact Chk.mk (by kernel_rfl) | exact ⟨Chk.mk (by kernel_rfl)⟩ | exact sLeEq rfl rfl | exact sAnd (by repeat' constructor) (c_toIns _) | refine fun h => ?_)
      all_goals simp only [decide_eq_true_eq, decide_eq_false_iff_not, List.length_map] at *
      · exact sRow (by omega) (row_at xs _ (by omega)) rfl
      · exact sIdx (by omega) rfl rfl
      · exact sPut (by omega) rfl rfl
      · refine ⟨i + 1, [], by omega, by omega, ?_⟩
        repeat' (first | exact trivial | exact ⟨rfl⟩ | exact Chk.mk (by kernel_rfl) | exact ⟨wrap_succ (n := xs.length) (by omega) (by omega)⟩ | exact sPartS (by omega) rfl | exact sFlat Ins.flat rfl | refine And.intro ?_ ?_ | rfl)
      · refine ⟨⟨trivial, trivial⟩, ⟨part_end (by omega) rfl, ?_⟩, trivial⟩
        show AllF _
        rw [part_all (by omega)]
        exact map_frz Ins.frz

theorem c_eqEntryS (xs ys : List Entry) (hx : xs.length ≤ maxLen) (hy : ys.length ≤ maxLen) (hvx : ∀ v ∈ xs, v.ok lim) (hvy : ∀ v ∈ ys, v.ok lim) :
    Pure PP false 43 [.one (.fz (xs.map Entry.cells)), .one (.fz (ys.map Entry.cells))] (ob (decide (xs = ys))) := by
  refine Pure.vc [] TTok hmo Go.Proofs.Try.func43 (by kernel_rfl) rfl (by kernel_rfl) ?_
  repeat' (first | refine And.intro ?_ ?_ | exact tf | exact ft | refine tt ?_ | refine ff ?_ | exact ⟨trivial⟩ | exact sLe rfl | exact Chk.mk (by kernel_rfl) | exact ⟨Chk.mk (by kernel_rfl)⟩ | exact sLeEq rfl rfl | refine fun h => ?_)
  · refine ⟨?_⟩
    simp at *
    intro e; subst e; simp at h
  · have hl : xs.length = ys.length := by simp at h; omega
    unfold maxLen at hx hy
    refine W.loopC (D := Nat) (fun i => [(19, .row (xs.getD i default).cells), (23, .row (ys.getD i default).cells), (25, .res (ob (decide (xs.getD i default = ys.getD i default))))]) TTok hmo
      (fun i => ⟨27, 0, [(0, .one (.ag (xs.map Entry.cells))), (1, .one (.ag (ys.map Entry.cells))), (4, ob false), (5, oi i)], []⟩) (fun i => xs.length - i) (fun i => i ≤ xs.length ∧ xs.take i = ys.take i) 0 [] ⟨by omega, by simp⟩ ?_ ?_
    · repeat' (first | exact trivial | exact ⟨rfl⟩ | exact Chk.mk (by kernel_rfl) | refine And.intro ?_ ?_ | rfl)
    · intro i ⟨hi, hp⟩
      repeat' (first | refine And.intro ?_ ?_ | exact tf | exact ft | refine tt ?_ | refine ff ?_ | exact ⟨trivial⟩ | exact sLe rfl | exact Chk.mk (by kernel_rfl) | exact ⟨Chk.mk (by kernel_rfl)⟩ | exact sLeEq rfl rfl | refine fun h => ?_)
      all_goals simp only [decide_eq_true_eq, decide_eq_false_iff_not, List.length_map, Bool.not_eq_true', Bool.not_eq_false', Bool.not_eq_eq_eq_not, Bool.not_true, Bool.not_false] at *
      · exact sRow (by omega) (row_at xs _ (by omega)) rfl
      · exact sRow (by omega) (row_at ys _ (by omega)) rfl
      · exact sAnd (by repeat' constructor) (c_eqEntry _ _ (hvx _ (getD_mem (by omega))) (hvy _ (getD_mem (by omega))))
      · refine ⟨?_⟩
        simp
        intro e; subst e; contradiction
      · refine ⟨i + 1, [], by omega, ⟨by omega, eq_upto hl (by omega) hp (by assumption)⟩, ?_⟩
        repeat' (first | exact trivial | exact ⟨rfl⟩ | exact Chk.mk (by kernel_rfl) | refine And.intro ?_ ?_ | rfl)
        exact ⟨by rw [wrapi] <;> omega⟩
      · refine ⟨?_⟩
        simp
        exact eq_all hl (by omega) hp

theorem c_toEntryS (xs : List Entry) (hx : xs.length ≤ lim) (hv : ∀ v ∈ xs, v.ok lim) :
    Pure PP false 153 [.one (.fz (xs.map Entry.cells))] (.one (.fz (xs.map Entry.cells))) := by
  have hx0 : xs.length ≤ 1048576 := hx
  refine Pure.vc [] TTok hmo Go.Proofs.Try.func153 (by kernel_rfl) rfl (by kernel_rfl) ?_
  repeat' (first | refine And.intro ?_ ?_ | exact tf | exact ft | refine tt ?_ | refine ff ?_ | exact ⟨trivial⟩ | exact sLe rfl | exact Chk.mk (by kernel_rfl) | exact ⟨Chk.mk (by kernel_rfl)⟩ | exact sLeEq rfl rfl | refine fun h => ?_)
  · refine ⟨?_⟩
    simp at *
    omega
  · refine W.loopC (D := Nat) (fun i => [(18, .row (xs.getD i default).cells), (20, .res (.agg (xs.getD i default).cells))]) TTok hmo
      (fun i => ⟨23, 1, [(0, .one (.ag (xs.map Entry.cells))), (2, .one .nil), (3, .one (.ref 0 0 xs.length)), (4, oi i)], [(0, .arr (part Entry.cells [bo false, i6 0, i6 0, .nil, .nil, i6 0, i6 0] xs i))]⟩) (fun i => xs.length - i) (fun i => i ≤ xs.length) 0 [] (by omega) ?_ ?_
    · repeat' (first | exact trivial | exact ⟨rfl⟩ | exact Chk.mk (by kernel_rfl) | exact sPart0 (by simp) | exact sFlat Entry.flat rfl | refine And.intro ?_ ?_ | rfl)
      all_goals exact ⟨by simp⟩
    · intro i hi
      repeat' (first | refine And.intro ?_ ?_ | exact tf | exact ft | refine tt ?_ | refine ff ?_ | exact ⟨trivial⟩ | exact sLe rfl | exact Chk.mk (by kernel_rfl) | exact ⟨Chk.mk (by kernel_rfl)⟩ | exact sLeEq rfl rfl | refine fun h => ?_)
      all_goals simp only [decide_eq_true_eq, decide_eq_false_iff_not, List.length_map] at *
      · exact sRow (by omega) (row_at xs _ (by omega)) rfl
      · exact sAnd (by repeat' constructor) (c_toEntry _ (hv _ (getD_mem (by omega))))
      · exact sIdx (by omega) rfl rfl
      · exact sPut (by omega) rfl rfl
      · refine ⟨i + 1, [], by omega, by omega, ?_⟩
        repeat' (first | exact trivial | exact ⟨rfl⟩ | exact Chk.mk (by kernel_rfl) | exact ⟨wrap_succ (n := xs.length) (by omega) (by omega)⟩ | exact sPartS (by omega) rfl | exact sFlat Entry.flat rfl | refine And.intro ?_ ?_ | rfl)
      · refine ⟨⟨trivial, trivial⟩, ⟨part_end (by omega) rfl, ?_⟩, trivial⟩
        show AllF _
        rw [part_all (by omega)]
        exact map_frz Entry.frz

theorem c_toBoolS (xs : List Bool) (hx : xs.length ≤ lim)  :
    Pure PP false 154 [.one (.fz (xs.map Bool.cells))] (.one (.fz (xs.map Bool.cells))) := by
  have hx0 : xs.length ≤ 1048576 := hx
  refine Pure.vc [] TTok hmo Go.Proofs.Try.func154 (by kernel_rfl) rfl (by kernel_rfl) ?_
  repeat' (first | refine And.intro ?_ ?_ | exact tf | exact ft | refine tt ?_ | refine ff ?_ | exact ⟨trivial⟩ | exact sLe rfl | exact Chk.mk (by kernel_rfl) | exact ⟨Chk.mk (by kernel_rfl)⟩ | exact sLeEq rfl rfl | refine fun h => ?_)
  · refine ⟨?_⟩
    simp at *
    omega
  · refine W.loopC (D := Nat) (fun i => [(18, .row (Bool.cells (xs.getD i default)))]) TTok hmo
      (fun i => ⟨22, 1, [(0, .one (.ag (xs.map Bool.cells))), (2, .one .nil), (3, .one (.ref 0 0 xs.length)), (4, oi i)], [(0, .arr (part Bool.cells [bo false] xs i))]⟩) (fun i => xs.length - i) (fun i => i ≤ xs.length) 0 [] (by omega) ?_ ?_
    · repeat' (first | exact trivial | exact ⟨rfl⟩ | exact Chk.mk (by kernel_rfl) | exact sPart0 (by simp) | exact sFlat Bool.flat rfl | refine And.intro ?_ ?_ | rfl)
      all_goals exact ⟨by simp⟩
    · intro i hi
      repeat' (first | refine And.intro ?_ ?_ | exact tf | exact ft | refine tt ?_ | refine ff ?_ | exact ⟨trivial⟩ | exact sAll rfl | exact sF1 rfl | exact sBld (by repeat' (first | exact trivial | rfl | exact Nat.le_of_ble_eq_true rfl | refine And.intro ?_ ?_)) rfl | exact sBS (by repeat' (first | exact trivial | rfl | exact Nat.le_of_ble_eq_true rfl | refine And.intro ?_ ?_)) rfl rfl rfl rfl | exact sBSF (by repeat' (first | exact trivial | rfl | exact Nat.le_of_ble_eq_true rfl | refine And.intro ?_ ?_)) rfl rfl rfl rfl | exact sLe rfl | exact Chk.mk (by kernel_rfl) | exact ⟨Chk.mk (by kernel_rfl)⟩ | exact sLeEq rfl rfl | refine fun h => ?_)
      all_goals simp only [decide_eq_true_eq, decide_eq_false_iff_not, List.length_map] at *
      · exact sRow (by omega) (row_at xs _ (by omega)) rfl
      · exact sIdx (by omega) rfl rfl
      · exact sPut (by omega) rfl rfl
      · refine ⟨i + 1, [], by omega, by omega, ?_⟩
        repeat' (first | exact trivial | exact ⟨rfl⟩ | exact Chk.mk (by kernel_rfl) | exact ⟨wrap_succ (n := xs.length) (by omega) (by omega)⟩ | exact sPartS (by omega) rfl | exact sFlat Bool.flat rfl | refine And.intro ?_ ?_ | rfl)
      · refine ⟨⟨trivial, trivial⟩, ⟨part_end (by omega) rfl, ?_⟩, trivial⟩
        show AllF _
        rw [part_all (by omega)]
        exact map_frz Bool.frz

theorem c_eqBoolS (xs ys : List Bool) (hx : xs.length ≤ maxLen) (hy : ys.length ≤ maxLen)  : Pure PP false 47 [.one (.fz (xs.map Bool.cells)), .one (.fz (ys.map Bool.cells))] (ob (decide (xs = ys))) := by
  refine Pure.vc [] TTok hmo Go.Proofs.Try.func47 (by kernel_rfl) rfl (by kernel_rfl) ?_
  repeat' (first | refine And.intro ?_ ?_ | exact tf | exact ft | refine tt ?_ | refine ff ?_ | exact ⟨trivial⟩ | exact sLe rfl | exact Chk.mk (by kernel_rfl) | exact ⟨Chk.mk (by kernel_rfl)⟩ | exact sLeEq rfl rfl | refine fun h => ?_)
  · refine ⟨?_⟩
    simp at *
    intro e; subst e; simp at h
  · have hl : xs.length = ys.length := by simp at h; omega
    unfold maxLen at hx hy
    refine W.loopC (D := Nat) (fun i => [(19, .row (Bool.cells (xs.getD i default))), (23, .row (Bool.cells (ys.getD i default)))]) TTok hmo
      (fun i => ⟨26, 0, [(0, .one (.ag (xs.map Bool.cells))), (1, .one (.ag (ys.map Bool.cells))), (4, ob false), (5, oi i)], []⟩) (fun i => xs.length - i) (fun i => i ≤ xs.length ∧ xs.take i = ys.take i) 0 [] ⟨by omega, by simp⟩ ?_ ?_
    · repeat' (first | exact trivial | exact ⟨rfl⟩ | exact Chk.mk (by kernel_rfl) | refine And.intro ?_ ?_ | rfl)
      all_goals exact ⟨by simp⟩
    · intro i ⟨hi, hp⟩
      repeat' (first | refine And.intro ?_ ?_ | exact tf | exact ft | refine tt ?_ | refine ff ?_ | exact ⟨trivial⟩ | exact sLe rfl | exact Chk.mk (by kernel_rfl) | exact ⟨Chk.mk (by kernel_rfl)⟩ | exact sLeEq rfl rfl | refine fun h => ?_)
      all_goals simp only [decide_eq_true_eq, decide_eq_false_iff_not, List.length_map, Bool.not_eq_true', Bool.not_eq_false', Bool.not_eq_eq_eq_not, Bool.not_true, Bool.not_false, bne_iff_ne, ne_eq, bne_eq_false_iff_eq] at *
      · exact sRow (by omega) (row_at xs _ (by omega)) rfl
      · exact sRow (by omega) (row_at ys _ (by omega)) rfl
      · refine ⟨?_⟩
        simp
        intro e; subst e; simp_all
      · refine ⟨i + 1, [], by omega, ⟨by omega, eq_upto hl (by omega) hp (by simp_all [])⟩, ?_⟩
        repeat' (first | exact trivial | exact ⟨rfl⟩ | exact Chk.mk (by kernel_rfl) | exact ⟨wrap_succ (n := xs.length) (by omega) (by omega)⟩ | refine And.intro ?_ ?_ | rfl)
      · refine ⟨?_⟩
        simp
        exact eq_all hl (by omega) hp

theorem c_toNode (x : Node) (hx : x.ok lim) :
    Pure PP false 132 [.agg x.cells] (.agg x.cells) := by
  refine Pure.vc [(9, .res (.agg x.acc.cells)), (13, .res (.one (.fz (x.known.map Entry.cells)))), (26, .res (.one (.fz (x.fro.map Bool.cells)))), (30, .res (.one (.fz (x.best.map Vote.cells)))), (34, .res (.agg x.cur.cells)), (38, .res (.one (.fz (x.votes.map Bool.cells)))), (45, .res (.one (.fz (x.prog.map Ins.cells)))), (49, .res (.agg x.want.cells)), (53, .res (.one (.fz (x.queue.map Entry.cells))))] TTok hmo Go.Proofs.Try.func132 (by kernel_rfl) rfl (by kernel_rfl) ?_
  repeat' (first | refine And.intro ?_ ?_ | exact tf | exact ft | refine tt ?_ | refine ff ?_ | exact ⟨trivial⟩ | exact sLe rfl | exact Chk.mk (by kernel_rfl) | exact ⟨Chk.mk (by kernel_rfl)⟩ | exact sLeEq rfl rfl | exact sAnd (by repeat' constructor) (c_toAcc _ hx.acc) | exact sAnd (by repeat' constructor) (c_toEntryS _ hx.known.1 hx.known.2) | exact sAnd (by repeat' constructor) (c_toBoolS _ hx.fro) | exact sAnd (by repeat' constructor) (c_toVoteS _ hx.best.1 hx.best.2) | exact sAnd (by repeat' constructor) (c_toEntry _ hx.cur) | exact sAnd (by repeat' constructor) (c_toBoolS _ hx.votes) | exact sAnd (by repeat' constructor) (c_toInsS _ hx.prog) | exact sAnd (by repeat' constructor) (c_toEntry _ hx.want) | exact sAnd (by repeat' constructor) (c_toEntryS _ hx.queue.1 hx.queue.2) | refine fun h => ?_)
  all_goals (refine ⟨?_⟩; repeat' (first | exact trivial | exact Nat.le_of_ble_eq_true rfl | rfl | refine And.intro ?_ ?_))

theorem c_eqNode (x y : Node) (hx : x.ok lim) (hy : y.ok lim) :
    Pure PP false 11 [.agg x.cells, .agg y.cells] (ob (decide (x = y))) := by
  obtain ⟨id, ac, kn, sq, ph, ba, fr, be, cu, vo, bu, pr, wa, qu⟩ := x
  obtain ⟨id', ac', kn', sq', ph', ba', fr', be', cu', vo', bu', pr', wa', qu'⟩ := y
  refine Pure.vc [(14, .res (ob (decide (ac = ac')))), (20, .res (ob (decide (kn = kn')))), (41, .res (ob (decide (fr = fr')))), (47, .res (ob (decide (be = be')))), (53, .res (ob (decide (cu = cu')))), (59, .res (ob (decide (vo = vo')))), (70, .res (ob (decide (pr = pr')))), (76, .res (ob (decide (wa = wa')))), (82, .res (ob (decide (qu = qu'))))] TTok hmo Go.Proofs.Try.func11 (by kernel_rfl) rfl (by kernel_rfl) ?_
  repeat' (first | refine And.intro ?_ ?_ | exact tf | exact ft | refine tt ?_ | refine ff ?_ | exact ⟨trivial⟩ | exact sLe rfl | exact Chk.mk (by kernel_rfl) | exact ⟨Chk.mk (by kernel_rfl)⟩ | exact sLeEq rfl rfl | exact sAnd (by repeat' constructor) (c_eqAcc _ _ hx.acc hy.acc) | exact sAnd (by repeat' constructor) (c_eqEntryS _ _ (Nat.le_trans hx.known.1 (by decide)) (Nat.le_trans hy.known.1 (by decide)) hx.known.2 hy.known.2) | exact sAnd (by repeat' constructor) (c_eqBoolS _ _ (Nat.le_trans hx.fro (by decide)) (Nat.le_trans hy.fro (by decide))) | exact sAnd (by repeat' constructor) (c_eqVoteS _ _ (Nat.le_trans hx.best.1 (by decide)) (Nat.le_trans hy.best.1 (by decide)) hx.best.2 hy.best.2) | exact sAnd (by repeat' constructor) (c_eqEntry _ _ hx.cur hy.cur) | exact sAnd (by repeat' constructor) (c_eqBoolS _ _ (Nat.le_trans hx.votes (by decide)) (Nat.le_trans hy.votes (by decide))) | exact sAnd (by repeat' constructor) (c_eqInsS _ _ (Nat.le_trans hx.prog (by decide)) (Nat.le_trans hy.prog (by decide))) | exact sAnd (by repeat' constructor) (c_eqEntry _ _ hx.want hy.want) | exact sAnd (by repeat' constructor) (c_eqEntryS _ _ (Nat.le_trans hx.queue.1 (by decide)) (Nat.le_trans hy.queue.1 (by decide)) hx.queue.2 hy.queue.2) | refine fun h => ?_)
  all_goals (refine ⟨?_⟩; simp_all)
  all_goals rfl

end Mg
