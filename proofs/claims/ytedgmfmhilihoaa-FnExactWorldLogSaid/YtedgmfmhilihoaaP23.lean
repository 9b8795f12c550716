/- Parts of the abstract state logic and of the walks, one behind the other: E8, BP, BQ, E9, R2C, E6. No condition. -/
import Derived.Test.YtedgmfmhilihoaaP21
import Derived.Test.YtedgmfmhilihoaaP22
import Derived.Test.YtedgmfmhilihoaaP15
import Derived.Test.YtedgmfmhilihoaaP14
/- Copies of the program's own way, as trees. No condition. -/
namespace Mg
open Go Go.RowKit
set_option maxRecDepth 100000
set_option linter.unusedVariables false
set_option linter.unusedSimpArgs false
attribute [local irreducible] W Pure Con TPure
theorem p_copied_Read (xs : List Two) (hx : xs.length ≤ lim) : Pure PP false 110 [.one (.fz (xs.map Two.cells))] (.one (.own (xs.map Two.cells))) := by
  have hx0 : xs.length ≤ 1048576 := hx
  refine Pure.vc [] TTok hmo Go.Proofs.Try.func110 (by kernel_rfl) rfl (by kernel_rfl) ?_
  repeat' (first | refine And.intro ?_ ?_ | exact tf | exact ft | refine tt ?_ | refine ff ?_ | exact ⟨trivial⟩ | exact sAll rfl | exact sF1 rfl | exact sBld (by repeat' (first | exact trivial | rfl | exact Nat.le_of_ble_eq_true rfl | refine And.intro ?_ ?_)) rfl | exact sBS (by repeat' (first | exact trivial | rfl | exact Nat.le_of_ble_eq_true rfl | refine And.intro ?_ ?_)) rfl rfl rfl rfl | exact sBSF (by repeat' (first | exact trivial | rfl | exact Nat.le_of_ble_eq_true rfl | refine And.intro ?_ ?_)) rfl rfl rfl rfl | exact sLe rfl | exact Chk.mk (by kernel_rfl) | exact ⟨Chk.mk (by kernel_rfl)⟩ | exact sLeEq rfl rfl | refine fun h => ?_)
  · have h0 : xs = [] := by simp at h; exact h
    subst h0
    exact ⟨⟨trivial, trivial⟩, rfl, trivial⟩
  · exact sMk hx0 rfl
  · have h0 : 0 < xs.length := Nat.pos_of_ne_zero (fun e => by rw [List.length_map, e] at h; revert h; decide)
    exact sCp (toA_map fun _ => rfl) (by simp) (by simp) h0 rfl (fun _ => rfl)
  · have e := toA_map (c := Two.cells) (xs := xs) fun _ => rfl
    exact ⟨⟨trivial, trivial⟩, ⟨rfl, by rw [e]; exact Int.toNat_natCast _, e, by rw [e]; exact allF Two.frz⟩, trivial⟩
theorem p_copied_Put (xs : List Two) (hx : xs.length ≤ lim) : Pure PP false 111 [.one (.fz (xs.map Two.cells))] (.one (.own (xs.map Two.cells))) := by
  have hx0 : xs.length ≤ 1048576 := hx
  refine Pure.vc [] TTok hmo Go.Proofs.Try.func111 (by kernel_rfl) rfl (by kernel_rfl) ?_
  repeat' (first | refine And.intro ?_ ?_ | exact tf | exact ft | refine tt ?_ | refine ff ?_ | exact ⟨trivial⟩ | exact sAll rfl | exact sF1 rfl | exact sBld (by repeat' (first | exact trivial | rfl | exact Nat.le_of_ble_eq_true rfl | refine And.intro ?_ ?_)) rfl | exact sBS (by repeat' (first | exact trivial | rfl | exact Nat.le_of_ble_eq_true rfl | refine And.intro ?_ ?_)) rfl rfl rfl rfl | exact sBSF (by repeat' (first | exact trivial | rfl | exact Nat.le_of_ble_eq_true rfl | refine And.intro ?_ ?_)) rfl rfl rfl rfl | exact sLe rfl | exact Chk.mk (by kernel_rfl) | exact ⟨Chk.mk (by kernel_rfl)⟩ | exact sLeEq rfl rfl | refine fun h => ?_)
  · have h0 : xs = [] := by simp at h; exact h
    subst h0
    exact ⟨⟨trivial, trivial⟩, rfl, trivial⟩
  · exact sMk hx0 rfl
  · have h0 : 0 < xs.length := Nat.pos_of_ne_zero (fun e => by rw [List.length_map, e] at h; revert h; decide)
    exact sCp (toA_map fun _ => rfl) (by simp) (by simp) h0 rfl (fun _ => rfl)
  · have e := toA_map (c := Two.cells) (xs := xs) fun _ => rfl
    exact ⟨⟨trivial, trivial⟩, ⟨rfl, by rw [e]; exact Int.toNat_natCast _, e, by rw [e]; exact allF Two.frz⟩, trivial⟩
set_option maxHeartbeats 2000000 in
theorem p_runCopy (x : Run) (hx : x.ok lim) : Pure PP false 99 [.agg x.cells] (.agg [.own (x.reads.map Two.cells), .own (x.puts.map Two.cells), i6 x.c, i6 x.d]) := by
  refine Pure.vc [(5, .res (.one (.own (x.reads.map Two.cells)))), (8, .res (.one (.own (x.puts.map Two.cells)))), (900001, .row [i6 0, i6 1, i6 3, i6 4, i6 6, i6 7, i6 8, i6 9, i6 2, i6 5, i6 10, i6 11])] TTok hmo Go.Proofs.Try.func99 (by kernel_rfl) rfl (by kernel_rfl) ?_
  repeat' (first | refine And.intro ?_ ?_ | exact tf | exact ft | refine tt ?_ | refine ff ?_ | exact ⟨trivial⟩ | exact sAll rfl | exact sF1 rfl | exact sBld (by repeat' (first | exact trivial | rfl | exact Nat.le_of_ble_eq_true rfl | refine And.intro ?_ ?_)) rfl | exact sBS (by repeat' (first | exact trivial | rfl | exact Nat.le_of_ble_eq_true rfl | refine And.intro ?_ ?_)) rfl rfl rfl rfl | exact sBSF (by repeat' (first | exact trivial | rfl | exact Nat.le_of_ble_eq_true rfl | refine And.intro ?_ ?_)) rfl rfl rfl rfl | exact sLe rfl | exact Chk.mk (by kernel_rfl) | exact ⟨Chk.mk (by kernel_rfl)⟩ | exact sLeEq rfl rfl | refine fun h => ?_)
  all_goals try (exact sAnd (by repeat' constructor) (p_copied_Read _ hx.1))
  all_goals try (exact sAnd (by repeat' constructor) (p_copied_Put _ hx.2))
  all_goals try (exact ⟨rfl⟩)
  all_goals try (exact trivial)
  exact ⟨⟨Nat.le_of_ble_eq_true rfl, trivial⟩, ⟨rfl, by simp, rfl, allF Two.frz⟩, ⟨rfl, by simp, rfl, allF Two.frz⟩, rfl, rfl, trivial⟩
theorem p_entryCopy (e : Entry) (he : e.ok lim) : Pure PP false 73 [.agg e.cells] (.agg [bo e.none, i6 e.q.a, i6 e.q.b, .own (e.run.reads.map Two.cells), .own (e.run.puts.map Two.cells), i6 e.run.c, i6 e.run.d]) := by
  refine Pure.vc [(9, .res (.agg [.own (e.run.reads.map Two.cells), .own (e.run.puts.map Two.cells), i6 e.run.c, i6 e.run.d])), (900001, .row [i6 0, i6 1, i6 2, i6 3, i6 4, i6 5, i6 6, i6 7, i6 8])] TTok hmo Go.Proofs.Try.func73 (by kernel_rfl) rfl (by kernel_rfl) ?_
  repeat' (first | refine And.intro ?_ ?_ | exact tf | exact ft | refine tt ?_ | refine ff ?_ | exact ⟨trivial⟩ | exact sAll rfl | exact sF1 rfl | exact sBld (by repeat' (first | exact trivial | rfl | exact Nat.le_of_ble_eq_true rfl | refine And.intro ?_ ?_)) rfl | exact sBS (by repeat' (first | exact trivial | rfl | exact Nat.le_of_ble_eq_true rfl | refine And.intro ?_ ?_)) rfl rfl rfl rfl | exact sBSF (by repeat' (first | exact trivial | rfl | exact Nat.le_of_ble_eq_true rfl | refine And.intro ?_ ?_)) rfl rfl rfl rfl | exact sLe rfl | exact Chk.mk (by kernel_rfl) | exact ⟨Chk.mk (by kernel_rfl)⟩ | exact sLeEq rfl rfl | exact sAnd (by repeat' constructor) (p_runCopy _ he) | refine fun h => ?_)
  all_goals try (exact ⟨rfl⟩)
  all_goals try (exact trivial)
  exact ⟨⟨Nat.le_of_ble_eq_true rfl, trivial⟩, rfl, rfl, rfl, ⟨rfl, by simp, rfl, allF Two.frz⟩, ⟨rfl, by simp, rfl, allF Two.frz⟩, rfl, rfl, trivial⟩
theorem scMap {α : Type} {c : α → List MC} {xs : List α} (h : ∀ x, (c x).all scB = true) : ∀ r ∈ xs.map c, ∀ d ∈ r, ∃ v, d = .sc v := fun r hr d hd => by
  obtain ⟨x, _, rfl⟩ := List.mem_map.1 hr
  have := List.all_eq_true.1 (h x) d hd
  cases d <;> first | exact ⟨_, rfl⟩ | (cases this; done)
theorem t_entryCopy (e : Entry) (he : e.ok lim) : TPure PP 73 [.agg e.cells] (.agg e.cells) :=
  (p_entryCopy e he).toT (by
    intro c hc
    simp only [List.mem_cons, List.not_mem_nil, or_false] at hc
    rcases hc with rfl | rfl | rfl | rfl | rfl | rfl | rfl
    all_goals first | exact .inl ⟨_, rfl⟩ | exact .inr ⟨_, rfl, scMap fun _ => rfl⟩) rfl
theorem t_votesCopy (vs : List Vote) (hx : vs.length ≤ lim) (hv : VsOk lim vs) : TPure PP 80 [.one (.fz (vs.map Vote.cells))] (.one (.fz (vs.map Vote.cells))) := by
  have hx0 : vs.length ≤ 1048576 := hx
  have hlen : (vs.map Vote.cellsA).length = vs.length := List.length_map ..
  have hAf : ∀ r ∈ vs.map Vote.cellsA, ∀ d ∈ r, d.flat = true := fun r hr d hd => by
    obtain ⟨x, _, rfl⟩ := List.mem_map.1 hr
    exact List.all_eq_true.1 (show x.cellsA.all MC.flat = true from rfl) d hd
  refine TPure.vc [(6, .con true [] [] [] (sCpV vs.length))] TTok hmo Go.Proofs.Try.func80 (by kernel_rfl) rfl (by kernel_rfl) ?_
  repeat' (first | refine And.intro ?_ ?_ | exact tf | exact ft | refine tt ?_ | refine ff ?_ | exact ⟨trivial⟩ | exact sAll rfl | exact sF1 rfl | exact sBld (by repeat' (first | exact trivial | rfl | exact Nat.le_of_ble_eq_true rfl | refine And.intro ?_ ?_)) rfl | exact sBS (by repeat' (first | exact trivial | rfl | exact Nat.le_of_ble_eq_true rfl | refine And.intro ?_ ?_)) rfl rfl rfl rfl | exact sBSF (by repeat' (first | exact trivial | rfl | exact Nat.le_of_ble_eq_true rfl | refine And.intro ?_ ?_)) rfl rfl rfl rfl | exact sLe rfl | exact Chk.mk (by kernel_rfl) | exact ⟨Chk.mk (by kernel_rfl)⟩ | exact sLeEq rfl rfl | refine fun h => ?_)
  · exact ⟨c_copied_VoteU vs hx⟩
  · exact ⟨fun _ _ => trivial⟩
  · exact ⟨fun _ _ => ⟨trivial, trivial⟩⟩
  · refine W.loopC (D := Nat × (Nat → Nat → Tk)) (fun d => [(18, .res (.agg (vs.getD d.1 default).e.cellsA)), (19, .tre true (fun _ => .agg (vs.getD d.1 default).e.cells))]) TTok hmo (fun d => ⟨24, 1, [(3, .one (.ref 0 0 vs.length)), (8, oi vs.length), (9, oi d.1)], [(0, .arr (rowsT d.2 Vote.cells vs (vs.map Vote.cellsA) d.1))]⟩) (fun d => vs.length - d.1) (fun d => d.1 ≤ vs.length ∧ FillInv d.2 Vote.cells vs d.1) (0, fun _ _ => noTk) [] ⟨Nat.zero_le _, .zero⟩ ?_ ?_
    · repeat' (first | exact trivial | exact ⟨trivial⟩ | exact Side.mk rfl | exact sF1 rfl | exact Chk.mk (by kernel_rfl) | exact ⟨Chk.mk (by kernel_rfl)⟩ | exact sFlatT Vote.frz hAf | refine And.intro ?_ ?_ | rfl)
      exact ⟨by rw [rowsT_zero, List.map_map]; rfl⟩
    · intro ⟨i, Bf⟩ ⟨hi, hinv⟩
      dsimp only at hi hinv
      repeat' (first | refine And.intro ?_ ?_ | exact tf | exact ft | refine tt ?_ | refine ff ?_ | exact ⟨trivial⟩ | exact sAll rfl | exact sF1 rfl | exact sBld (by repeat' (first | exact trivial | rfl | exact Nat.le_of_ble_eq_true rfl | refine And.intro ?_ ?_)) rfl | exact sBS (by repeat' (first | exact trivial | rfl | exact Nat.le_of_ble_eq_true rfl | refine And.intro ?_ ?_)) rfl rfl rfl rfl | exact sBSF (by repeat' (first | exact trivial | rfl | exact Nat.le_of_ble_eq_true rfl | refine And.intro ?_ ?_)) rfl rfl rfl rfl | exact sLe rfl | exact Chk.mk (by kernel_rfl) | exact ⟨Chk.mk (by kernel_rfl)⟩ | exact sLeEq rfl rfl | refine fun h => ?_)
      all_goals try (exact endTree hinv hlen (by have h3 := of_decide_eq_false h; dsimp only at h3; omega) rfl Vote.frz)
      all_goals try (exact ⟨⟨trivial, trivial⟩⟩)
      all_goals try (have hl : i < vs.length := by (have h3 := of_decide_eq_true ‹decide ((i : Int) < (vs.length : Int)) = true›; omega))
      all_goals try (have hgA : (vs.map Vote.cellsA)[i]? = some (vs.getD i default).cellsA := by rw [List.getElem?_map, List.getElem?_eq_getElem hl, getD_get hl]; rfl)
      all_goals try (exact Side.mk (t_entryCopy _ (hv _ (getD_mem hl))))
      all_goals try (exact sIxT (i := i) hlen rfl hl rfl hgA rfl)
      all_goals try (exact sLdT (i := i) hlen (by simp) hl hgA rfl rfl)
      all_goals try (exact sStT (i := i) hlen (by simp) hl hgA rfl rfl)
      all_goals try (exact Side.mk (by repeat' constructor))
      · rename_i B hA
        refine ⟨(i + 1, updT Bf i (Vote.cells (vs.getD i default)) (fun j => B 0 (j - 1))), [], by dsimp only; omega, ⟨by dsimp only; omega, ?_⟩, ?_⟩
        · refine hinv.stepB hl (B := fun j => B 0 (j - 1)) (fun j j' x r1 r2 g1 g2 h1 h2 => ?_) (fun j x hx => ⟨0, j - 1, hx⟩) (h.st 0 _ rfl)
          have h3 := (hA 0 _ 0 _ x h1 h2).2
          have h4 : j ≠ 0 := fun e => by subst e; cases g1
          have h5 : j' ≠ 0 := fun e => by subst e; cases g2
          omega
        · repeat' (first | exact trivial | exact ⟨trivial⟩ | exact Side.mk rfl | exact sF1 rfl | exact Chk.mk (by kernel_rfl) | exact ⟨Chk.mk (by kernel_rfl)⟩ | exact sSetT hlen (by simp) hl hgA rfl | exact sFlatT Vote.frz hAf | exact ⟨by rw [wrapi] <;> omega⟩ | refine And.intro ?_ ?_ | rfl)
end Mg

/- The best of votes where one is of a later ballot, in plain terms. No condition. -/
namespace Mg
open Go Go.RowKit
set_option maxRecDepth 100000
set_option linter.unusedVariables false
set_option linter.unusedSimpArgs false
theorem voteOk_default : voteOk (default : Vote) = true := by decide
theorem votesOk_get {a : List Vote} (h : votesOk a = true) (i : Nat) : voteOk (a.getD i default) = true := by
  by_cases hi : i < a.length
  · exact votesOk_at h hi
  · rw [getD_none hi]; exact voteOk_default
theorem votesOk_mk {a : List Vote} (hl : a.length ≤ 40) (h : ∀ v ∈ a, voteOk v = true) : votesOk a = true := by
  simp only [votesOk, Bool.and_eq_true, decide_eq_true_eq, List.all_eq_true]
  exact ⟨hl, h⟩
theorem best_votesOk {a b : List Vote} (ha : votesOk a = true) (hb : votesOk b = true) : votesOk (bestN a b) = true := by
  refine votesOk_mk (by rw [bestN_len]; exact Nat.max_le.2 ⟨votesOk_len ha, votesOk_len hb⟩) fun v hv => ?_
  obtain ⟨i, _, rfl⟩ := List.mem_map.1 hv
  exact best_all (Q := fun v => voteOk v = true) (fun _ _ _ => votesOk_get hb i) (fun _ _ => votesOk_get ha i) (fun _ _ => voteOk_default)
theorem zeros_ok {n : Nat} (h : n ≤ 40) : votesOk (List.replicate n (default : Vote)) = true :=
  votesOk_mk (by simpa using h) fun v hv => by rw [List.eq_of_mem_replicate hv]; exact voteOk_default
theorem set_votesOk {a : List Vote} {k : Nat} {v : Vote} (ha : votesOk a = true) (hv : voteOk v = true) : votesOk (a.set k v) = true :=
  votesOk_mk (by simpa using votesOk_len ha) fun x hx => by
    rcases List.mem_or_eq_of_mem_set hx with hx | hx
    · have := ha
      simp only [votesOk, Bool.and_eq_true, List.all_eq_true] at this
      exact this.2 x hx
    · rw [hx]; exact hv
theorem top_voteOk {t : Int} (h1 : 1 ≤ t) (h2 : t ≤ 3000) : voteOk ⟨t, zeroE true⟩ = true := by
  unfold voteOk
  rw [if_neg (by simp only; omega)]
  simp only [Bool.and_eq_true]
  exact ⟨inr_iff.2 ⟨h1, h2⟩, by decide⟩
theorem accBest_of {u v : List Vote} (hu : votesOk u = true) (hv : votesOk v = true) : accBest u v = bestN u v := by unfold accBest; rw [if_pos (by rw [hu, hv]; rfl)]
theorem set_get {x : List Vote} {k : Nat} {v : Vote} (h : k < x.length) : (x.set k v).getD k default = v := by
  simp [List.getD_eq_getElem?_getD, h]
/-- The later vote is what both see. -/
theorem two_see {x b : List Vote} {k : Nat} {v : Vote} (hx : votesOk x = true) (hb : votesOk b = true) (hv : voteOk v = true) (hk : k < x.length) (hlt : (b.getD k default).bal < v.bal) (hp : 0 < v.bal) :
    (accBest (x.set k v) b).getD k default = v ∧ (accBest b (x.set k v)).getD k default = v ∧ (accBest (x.set k v) b).length = (accBest b (x.set k v)).length ∧ k < (accBest (x.set k v) b).length := by
  have hs := set_votesOk (k := k) hx hv
  have hl : (x.set k v).length = x.length := List.length_set
  rw [accBest_of hs hb, accBest_of hb hs]
  have l1 := bestN_len (x.set k v) b
  have l2 := bestN_len b (x.set k v)
  refine ⟨?_, ?_, by omega, by omega⟩
  · rw [bestN_at (by omega), best_a2 (by omega) (by rw [set_get hk]; omega), set_get hk]
  · rw [bestN_at (by omega)]
    by_cases h : k < b.length
    · rw [best_b2 h (by omega) (by rw [set_get hk]; exact hlt), set_get hk]
    · rw [best_b1 h (by omega) (by rw [set_get hk]; exact hp), set_get hk]
end Mg

/- Promises and votes in plain terms. No condition. -/
namespace Mg
open Go Go.RowKit
set_option maxRecDepth 100000
set_option linter.unusedVariables false
set_option linter.unusedSimpArgs false
theorem accOk_iff {a : Acc} : accOk a = true ↔ (0 ≤ a.p ∧ a.p ≤ 3000) ∧ votesOk a.votes = true ∧ ∀ v ∈ a.votes, v.bal ≤ a.p := by
  simp only [accOk, inr, Bool.and_eq_true, decide_eq_true_eq, List.all_eq_true, and_assoc]
theorem votesOk_iff {vs : List Vote} : votesOk vs = true ↔ vs.length ≤ 40 ∧ ∀ v ∈ vs, voteOk v = true := by
  simp only [votesOk, Bool.and_eq_true, decide_eq_true_eq, List.all_eq_true]
theorem accPromise_up {a : Acc} {b : Int} (ha : accOk a = true) (h1 : 1 ≤ b) (h2 : b ≤ 3000) (h : a.p ≤ b) : accPromise a b = (⟨b, a.votes⟩, true) := by
  unfold accPromise
  rw [if_pos ha, if_pos ⟨inr_iff.2 ⟨h1, h2⟩, by omega⟩]
theorem accPromise_no {a : Acc} {b : Int} (ha : accOk a = true) (h : ¬ (1 ≤ b ∧ b ≤ 3000 ∧ a.p ≤ b)) : accPromise a b = (a, false) := by
  unfold accPromise
  rw [if_pos ha, if_neg]
  rintro ⟨h3, h4⟩
  have := inr_iff.1 h3
  omega
theorem accPromise_bad {a : Acc} {b : Int} (ha : accOk a = false) : accPromise a b = (⟨0, []⟩, false) := by
  unfold accPromise
  rw [if_neg (by rw [ha]; decide)]
theorem accOk_up {a : Acc} {b : Int} (ha : accOk a = true) (h1 : 1 ≤ b) (h2 : b ≤ 3000) (h : a.p ≤ b) : accOk ⟨b, a.votes⟩ = true := by
  obtain ⟨_, h4, h5⟩ := accOk_iff.1 ha
  exact accOk_iff.2 ⟨⟨by dsimp only; omega, h2⟩, h4, fun v hv => Int.le_trans (h5 v hv) h⟩
theorem padV_len {vs : List Vote} {n : Nat} : (padV vs n).length = max vs.length n := by simp [padV]; omega
theorem padV_mem {vs : List Vote} {n : Nat} {v : Vote} (h : v ∈ padV vs n) : v ∈ vs ∨ v = default := by
  rcases List.mem_append.1 h with h | h
  · exact .inl h
  · exact .inr (List.eq_of_mem_replicate h)
theorem padV_get {vs : List Vote} {n i : Nat} (h : i < vs.length) : (padV vs n).getD i default = vs.getD i default := by
  simp [padV, List.getD_eq_getElem?_getD, List.getElem?_append_left h]
theorem accOk_vote {a : Acc} {b : Int} {k : Nat} {e : Entry} (ha : accOk a = true) (h1 : 1 ≤ b) (h2 : b ≤ 3000) (h : a.p ≤ b) (hk : k < 40) (he : entryOk e = true) : accOk ⟨b, (padV a.votes (k + 1)).set k ⟨b, e⟩⟩ = true := by
  obtain ⟨_, h4, h5⟩ := accOk_iff.1 ha
  obtain ⟨h6, h7⟩ := votesOk_iff.1 h4
  have hb : voteOk ⟨b, e⟩ = true := by unfold voteOk; rw [if_neg (by dsimp only; omega), inr_iff.2 ⟨h1, h2⟩, he]; rfl
  refine accOk_iff.2 ⟨⟨by dsimp only; omega, h2⟩, votesOk_iff.2 ⟨by rw [List.length_set, padV_len]; omega, fun v hv => ?_⟩, fun v hv => ?_⟩
  · rcases List.mem_or_eq_of_mem_set hv with hv | hv
    · rcases padV_mem hv with hv | hv
      · exact h7 v hv
      · rw [hv]; exact voteOk_default
    · rw [hv]; exact hb
  · rcases List.mem_or_eq_of_mem_set hv with hv | hv
    · rcases padV_mem hv with hv | hv
      · exact Int.le_trans (h5 v hv) h
      · rw [hv]; show (0 : Int) ≤ b; omega
    · rw [hv]; exact Int.le_refl b
theorem accVote_up {a : Acc} {b s : Int} {e : Entry} (ha : accOk a = true) (h1 : 1 ≤ b) (h2 : b ≤ 3000) (h : a.p ≤ b) (hs : 0 ≤ s) (hs2 : s < 40) (he : entryOk e = true) :
    accVote a b s e = (⟨b, (padV a.votes (s.toNat + 1)).set s.toNat ⟨b, e⟩⟩, true) := by
  unfold accVote
  rw [accPromise_up ha h1 h2 h]
  rw [if_pos rfl, if_pos ⟨inr_iff.2 ⟨hs, by omega⟩, he⟩]
theorem accVote_no {a : Acc} {b s : Int} {e : Entry} (ha : accOk a = true) (h : ¬ ((1 ≤ b ∧ b ≤ 3000 ∧ a.p ≤ b) ∧ (0 ≤ s ∧ s < 40) ∧ entryOk e = true)) : accVote a b s e = (a, false) := by
  unfold accVote
  by_cases g : 1 ≤ b ∧ b ≤ 3000 ∧ a.p ≤ b
  · rw [accPromise_up ha g.1 g.2.1 g.2.2, if_pos rfl, if_neg]
    rintro ⟨h3, h4⟩
    have := inr_iff.1 h3
    exact h ⟨g, ⟨by omega, by omega⟩, h4⟩
  · rw [accPromise_no ha g]; rfl
theorem accVote_bad {a : Acc} {b s : Int} {e : Entry} (ha : accOk a = false) : accVote a b s e = (⟨0, []⟩, false) := by
  unfold accVote
  rw [accPromise_bad ha]; rfl
end Mg

/- Promises, votes, the best of votes, as trees; the other side as frozen. No condition. -/
namespace Mg
open Go Go.RowKit
set_option maxRecDepth 100000
set_option linter.unusedVariables false
set_option linter.unusedSimpArgs false
attribute [local irreducible] W Pure Con TPure
theorem t_accCopy (a : Acc) (ha : a.ok lim) : TPure PP 78 [.agg a.cells] (.agg a.cells) := by
  refine TPure.vc [(7, .tre false (fun _ => .one (.fz (a.votes.map Vote.cells)))), (900001, .row [i6 0, i6 1, i6 2, i6 3, i6 4, i6 5, i6 6])] TTok hmo Go.Proofs.Try.func78 (by kernel_rfl) rfl (by kernel_rfl) ?_
  repeat' (first | refine And.intro ?_ ?_ | exact tf | exact ft | refine tt ?_ | refine ff ?_ | exact ⟨trivial⟩ | exact sAll rfl | exact sF1 rfl | exact sBld (by repeat' (first | exact trivial | rfl | exact Nat.le_of_ble_eq_true rfl | refine And.intro ?_ ?_)) rfl | exact sBS (by repeat' (first | exact trivial | rfl | exact Nat.le_of_ble_eq_true rfl | refine And.intro ?_ ?_)) rfl rfl rfl rfl | exact sBSF (by repeat' (first | exact trivial | rfl | exact Nat.le_of_ble_eq_true rfl | refine And.intro ?_ ?_)) rfl rfl rfl rfl | exact sLe rfl | exact Chk.mk (by kernel_rfl) | exact ⟨Chk.mk (by kernel_rfl)⟩ | exact sLeEq rfl rfl | refine fun h => ?_)
  all_goals try (exact ⟨rfl⟩)
  all_goals try (exact trivial)
  all_goals try (exact Side.mk (t_votesCopy _ ha.1 ha.2))
  all_goals try (refine Side.mk (apart_vs ?_); exact And.intro trivial trivial)
  all_goals try (exact Side.mk rfl)
  all_goals exact Side.mk (by repeat' (first | exact trivial | exact Nat.le_of_ble_eq_true rfl | refine And.intro ?_ ?_))

end Mg

/- Helpers of nodes. No condition. -/
namespace Mg
open Go Go.RowKit
set_option maxRecDepth 100000
set_option linter.unusedVariables false
set_option linter.unusedSimpArgs false
attribute [local irreducible] W Pure
theorem Ins.eq_iff {x y : Ins} : x = y ↔ x.kind = y.kind ∧ x.a = y.a ∧ x.b = y.b ∧ x.n = y.n := by
  cases x; cases y; simp
theorem Told.eq_iff {x y : Told} : x = y ↔ x.node = y.node ∧ x.q = y.q ∧ x.code = y.code ∧ x.val = y.val := by
  cases x; cases y; simp

theorem c_toIns (x : Ins) :
    Pure PP false 109 [.agg x.cells] (.agg x.cells) := by
  refine Pure.vc [] TTok hmo Go.Proofs.Try.func109 (by kernel_rfl) rfl (by kernel_rfl) ?_
  repeat' (first | refine And.intro ?_ ?_ | exact tf | exact ft | refine tt ?_ | refine ff ?_ | exact ⟨trivial⟩ | exact sLe rfl | exact Chk.mk (by kernel_rfl) | exact ⟨Chk.mk (by kernel_rfl)⟩ | exact sLeEq rfl rfl | refine fun h => ?_)
  all_goals (refine ⟨?_⟩; repeat' (first | exact trivial | exact Nat.le_of_ble_eq_true rfl | rfl | refine And.intro ?_ ?_))

theorem c_eqIns (x y : Ins)  :
    Pure PP false 104 [.agg x.cells, .agg y.cells] (ob (decide (x = y))) := by
  obtain ⟨k, a, b, n⟩ := x
  obtain ⟨k', a', b', n'⟩ := y
  refine Pure.vc [] TTok hmo Go.Proofs.Try.func104 (by kernel_rfl) rfl (by kernel_rfl) ?_
  repeat' (first | refine And.intro ?_ ?_ | exact tf | exact ft | refine tt ?_ | refine ff ?_ | exact ⟨trivial⟩ | exact sLe rfl | exact Chk.mk (by kernel_rfl) | exact ⟨Chk.mk (by kernel_rfl)⟩ | exact sLeEq rfl rfl | refine fun h => ?_)
  all_goals (refine ⟨?_⟩; simp_all)
  all_goals rfl

theorem c_eqInsS (xs ys : List Ins) (hx : xs.length ≤ maxLen) (hy : ys.length ≤ maxLen)  :
    Pure PP false 84 [.one (.fz (xs.map Ins.cells)), .one (.fz (ys.map Ins.cells))] (ob (decide (xs = ys))) := by
  refine Pure.vc [] TTok hmo Go.Proofs.Try.func84 (by kernel_rfl) rfl (by kernel_rfl) ?_
  repeat' (first | refine And.intro ?_ ?_ | exact tf | exact ft | refine tt ?_ | refine ff ?_ | exact ⟨trivial⟩ | exact sLe rfl | exact Chk.mk (by kernel_rfl) | exact ⟨Chk.mk (by kernel_rfl)⟩ | exact sLeEq rfl rfl | refine fun h => ?_)
  · refine ⟨?_⟩
    simp at *
    intro e; subst e; simp at h
  · have hl : xs.length = ys.length := by simp at h; omega
    unfold maxLen at hx hy
    refine W.loopC (D := Nat) (fun i => [(19, .row (xs.getD i default).cells), (23, .row (ys.getD i default).cells), (25, .res (ob (decide (xs.getD i default = ys.getD i default))))]) TTok hmo
      (fun i => ⟨27, 0, [(0, .one (.ag (xs.map Ins.cells))), (1, .one (.ag (ys.map Ins.cells))), (4, ob false), (5, oi i)], []⟩) (fun i => xs.length - i) (fun i => i ≤ xs.length ∧ xs.take i = ys.take i) 0 [] ⟨by omega, by simp⟩ ?_ ?_
    · repeat' (first | exact trivial | exact ⟨rfl⟩ | exact Chk.mk (by kernel_rfl) | refine And.intro ?_ ?_ | rfl)
    · intro i ⟨hi, hp⟩
      repeat' (first | refine And.intro ?_ ?_ | exact tf | exact ft | refine tt ?_ | refine ff ?_ | exact ⟨trivial⟩ | exact sLe rfl | exact Chk.mk (by kernel_rfl) | exact ⟨Chk.mk (by kernel_rfl)⟩ | exact sLeEq rfl rfl | exact sAnd (by repeat' constructor) (c_eqIns _ _) | refine fun h => ?_)
      all_goals simp only [decide_eq_true_eq, decide_eq_false_iff_not, List.length_map, Bool.not_eq_true', Bool.not_eq_false', Bool.not_eq_eq_eq_not, Bool.not_true, Bool.not_false] at *
      · exact sRow (by omega) (row_at xs _ (by omega)) rfl
      · exact sRow (by omega) (row_at ys _ (by omega)) rfl
      · refine ⟨?_⟩
        simp
        intro e; subst e; contradiction
      · refine ⟨i + 1, [], by omega, ⟨by omega, eq_upto hl (by omega) hp (by assumption)⟩, ?_⟩
        repeat' (first | exact trivial | exact ⟨rfl⟩ | exact Chk.mk (by kernel_rfl) | refine And.intro ?_ ?_ | rfl)
        exact ⟨by rw [wrapi] <;> omega⟩
      · refine ⟨?_⟩
        simp
        exact eq_all hl (by omega) hp

theorem c_toInsS (xs : List Ins) (hx : xs.length ≤ lim)  :
    Pure PP false 97 [.one (.fz (xs.map Ins.cells))] (.one (.fz (xs.map Ins.cells))) := by
  have hx0 : xs.length ≤ 1048576 := hx
  refine Pure.vc [] TTok hmo Go.Proofs.Try.func97 (by kernel_rfl) rfl (by kernel_rfl) ?_
  repeat' (first | refine And.intro ?_ ?_ | exact tf | exact ft | refine tt ?_ | refine ff ?_ | exact ⟨trivial⟩ | exact sLe rfl | exact Chk.mk (by kernel_rfl) | exact ⟨Chk.mk (by kernel_rfl)⟩ | exact sLeEq rfl rfl | refine fun h => ?_)
  · refine ⟨?_⟩
    simp at *
    omega
  · refine W.loopC (D := Nat) (fun i => [(18, .row (xs.getD i default).cells), (20, .res (.agg (xs.getD i default).cells))]) TTok hmo
      (fun i => ⟨23, 1, [(0, .one (.ag (xs.map Ins.cells))), (2, .one .nil), (3, .one (.ref 0 0 xs.length)), (4, oi i)], [(0, .arr (part Ins.cells [i6 0, i6 0, i6 0, i6 0] xs i))]⟩) (fun i => xs.length - i) (fun i => i ≤ xs.length) 0 [] (by omega) ?_ ?_
    · repeat' (first | exact trivial | exact ⟨rfl⟩ | exact Chk.mk (by kernel_rfl) | exact sPart0 (by simp) | exact sFlat Ins.flat rfl | refine And.intro ?_ ?_ | rfl)
      all_goals exact ⟨by simp⟩
    · intro i hi
      repeat' (first | refine And.intro ?_ ?_ | exact tf | exact ft | refine tt ?_ | refine ff ?_ | exact ⟨trivial⟩ | exact sLe rfl | exact Chk.mk (by kernel_rfl) | exact ⟨Chk.mk (by kernel_rfl)⟩ | exact sLeEq rfl rfl | exact sAnd (by repeat' constructor) (c_toIns _) | refine fun h => ?_)
      all_goals simp only [decide_eq_true_eq, decide_eq_false_iff_not, List.length_map] at *
      · exact sRow (by omega) (row_at xs _ (by omega)) rfl
      · exact sIdx (by omega) rfl rfl
      · exact sPut (by omega) rfl rfl
      · refine ⟨i + 1, [], by omega, by omega, ?_⟩
        repeat' (first | exact trivial | exact ⟨rfl⟩ | exact Chk.mk (by kernel_rfl) | exact ⟨wrap_succ (n := xs.length) (by omega) (by omega)⟩ | exact sPartS (by omega) rfl | exact sFlat Ins.flat rfl | refine And.intro ?_ ?_ | rfl)
      · refine ⟨⟨trivial, trivial⟩, ⟨part_end (by omega) rfl, ?_⟩, trivial⟩
        show AllF _
        rw [part_all (by omega)]
        exact map_frz Ins.frz

theorem c_eqEntryS (xs ys : List Entry) (hx : xs.length ≤ maxLen) (hy : ys.length ≤ maxLen) (hvx : ∀ v ∈ xs, v.ok lim) (hvy : ∀ v ∈ ys, v.ok lim) :
    Pure PP false 14 [.one (.fz (xs.map Entry.cells)), .one (.fz (ys.map Entry.cells))] (ob (decide (xs = ys))) := by
  refine Pure.vc [] TTok hmo Go.Proofs.Try.func14 (by kernel_rfl) rfl (by kernel_rfl) ?_
  repeat' (first | refine And.intro ?_ ?_ | exact tf | exact ft | refine tt ?_ | refine ff ?_ | exact ⟨trivial⟩ | exact sLe rfl | exact Chk.mk (by kernel_rfl) | exact ⟨Chk.mk (by kernel_rfl)⟩ | exact sLeEq rfl rfl | refine fun h => ?_)
  · refine ⟨?_⟩
    simp at *
    intro e; subst e; simp at h
  · have hl : xs.length = ys.length := by simp at h; omega
    unfold maxLen at hx hy
    refine W.loopC (D := Nat) (fun i => [(19, .row (xs.getD i default).cells), (23, .row (ys.getD i default).cells), (25, .res (ob (decide (xs.getD i default = ys.getD i default))))]) TTok hmo
      (fun i => ⟨27, 0, [(0, .one (.ag (xs.map Entry.cells))), (1, .one (.ag (ys.map Entry.cells))), (4, ob false), (5, oi i)], []⟩) (fun i => xs.length - i) (fun i => i ≤ xs.length ∧ xs.take i = ys.take i) 0 [] ⟨by omega, by simp⟩ ?_ ?_
    · repeat' (first | exact trivial | exact ⟨rfl⟩ | exact Chk.mk (by kernel_rfl) | refine And.intro ?_ ?_ | rfl)
    · intro i ⟨hi, hp⟩
      repeat' (first | refine And.intro ?_ ?_ | exact tf | exact ft | refine tt ?_ | refine ff ?_ | exact ⟨trivial⟩ | exact sLe rfl | exact Chk.mk (by kernel_rfl) | exact ⟨Chk.mk (by kernel_rfl)⟩ | exact sLeEq rfl rfl | refine fun h => ?_)
      all_goals simp only [decide_eq_true_eq, decide_eq_false_iff_not, List.length_map, Bool.not_eq_true', Bool.not_eq_false', Bool.not_eq_eq_eq_not, Bool.not_true, Bool.not_false] at *
      · exact sRow (by omega) (row_at xs _ (by omega)) rfl
      · exact sRow (by omega) (row_at ys _ (by omega)) rfl
      · exact sAnd (by repeat' constructor) (c_eqEntry _ _ (hvx _ (getD_mem (by omega))) (hvy _ (getD_mem (by omega))))
      · refine ⟨?_⟩
        simp
        intro e; subst e; contradiction
      · refine ⟨i + 1, [], by omega, ⟨by omega, eq_upto hl (by omega) hp (by assumption)⟩, ?_⟩
        repeat' (first | exact trivial | exact ⟨rfl⟩ | exact Chk.mk (by kernel_rfl) | refine And.intro ?_ ?_ | rfl)
        exact ⟨by rw [wrapi] <;> omega⟩
      · refine ⟨?_⟩
        simp
        exact eq_all hl (by omega) hp

theorem c_toEntryS (xs : List Entry) (hx : xs.length ≤ lim) (hv : ∀ v ∈ xs, v.ok lim) :
    Pure PP false 93 [.one (.fz (xs.map Entry.cells))] (.one (.fz (xs.map Entry.cells))) := by
  have hx0 : xs.length ≤ 1048576 := hx
  refine Pure.vc [] TTok hmo Go.Proofs.Try.func93 (by kernel_rfl) rfl (by kernel_rfl) ?_
  repeat' (first | refine And.intro ?_ ?_ | exact tf | exact ft | refine tt ?_ | refine ff ?_ | exact ⟨trivial⟩ | exact sLe rfl | exact Chk.mk (by kernel_rfl) | exact ⟨Chk.mk (by kernel_rfl)⟩ | exact sLeEq rfl rfl | refine fun h => ?_)
  · refine ⟨?_⟩
    simp at *
    omega
  · refine W.loopC (D := Nat) (fun i => [(18, .row (xs.getD i default).cells), (20, .res (.agg (xs.getD i default).cells))]) TTok hmo
      (fun i => ⟨23, 1, [(0, .one (.ag (xs.map Entry.cells))), (2, .one .nil), (3, .one (.ref 0 0 xs.length)), (4, oi i)], [(0, .arr (part Entry.cells [bo false, i6 0, i6 0, .nil, .nil, i6 0, i6 0] xs i))]⟩) (fun i => xs.length - i) (fun i => i ≤ xs.length) 0 [] (by omega) ?_ ?_
    · repeat' (first | exact trivial | exact ⟨rfl⟩ | exact Chk.mk (by kernel_rfl) | exact sPart0 (by simp) | exact sFlat Entry.flat rfl | refine And.intro ?_ ?_ | rfl)
      all_goals exact ⟨by simp⟩
    · intro i hi
      repeat' (first | refine And.intro ?_ ?_ | exact tf | exact ft | refine tt ?_ | refine ff ?_ | exact ⟨trivial⟩ | exact sLe rfl | exact Chk.mk (by kernel_rfl) | exact ⟨Chk.mk (by kernel_rfl)⟩ | exact sLeEq rfl rfl | refine fun h => ?_)
      all_goals simp only [decide_eq_true_eq, decide_eq_false_iff_not, List.length_map] at *
      · exact sRow (by omega) (row_at xs _ (by omega)) rfl
      · exact sAnd (by repeat' constructor) (c_toEntry _ (hv _ (getD_mem (by omega))))
      · exact sIdx (by omega) rfl rfl
      · exact sPut (by omega) rfl rfl
      · refine ⟨i + 1, [], by omega, by omega, ?_⟩
        repeat' (first | exact trivial | exact ⟨rfl⟩ | exact Chk.mk (by kernel_rfl) | exact ⟨wrap_succ (n := xs.length) (by omega) (by omega)⟩ | exact sPartS (by omega) rfl | exact sFlat Entry.flat rfl | refine And.intro ?_ ?_ | rfl)
      · refine ⟨⟨trivial, trivial⟩, ⟨part_end (by omega) rfl, ?_⟩, trivial⟩
        show AllF _
        rw [part_all (by omega)]
        exact map_frz Entry.frz

theorem c_toBoolS (xs : List Bool) (hx : xs.length ≤ lim)  :
    Pure PP false 94 [.one (.fz (xs.map Bool.cells))] (.one (.fz (xs.map Bool.cells))) := by
  have hx0 : xs.length ≤ 1048576 := hx
  refine Pure.vc [] TTok hmo Go.Proofs.Try.func94 (by kernel_rfl) rfl (by kernel_rfl) ?_
  repeat' (first | refine And.intro ?_ ?_ | exact tf | exact ft | refine tt ?_ | refine ff ?_ | exact ⟨trivial⟩ | exact sLe rfl | exact Chk.mk (by kernel_rfl) | exact ⟨Chk.mk (by kernel_rfl)⟩ | exact sLeEq rfl rfl | refine fun h => ?_)
  · refine ⟨?_⟩
    simp at *
    omega
  · refine W.loopC (D := Nat) (fun i => [(18, .row (Bool.cells (xs.getD i default)))]) TTok hmo
      (fun i => ⟨22, 1, [(0, .one (.ag (xs.map Bool.cells))), (2, .one .nil), (3, .one (.ref 0 0 xs.length)), (4, oi i)], [(0, .arr (part Bool.cells [bo false] xs i))]⟩) (fun i => xs.length - i) (fun i => i ≤ xs.length) 0 [] (by omega) ?_ ?_
    · repeat' (first | exact trivial | exact ⟨rfl⟩ | exact Chk.mk (by kernel_rfl) | exact sPart0 (by simp) | exact sFlat Bool.flat rfl | refine And.intro ?_ ?_ | rfl)
      all_goals exact ⟨by simp⟩
    · intro i hi
      repeat' (first | refine And.intro ?_ ?_ | exact tf | exact ft | refine tt ?_ | refine ff ?_ | exact ⟨trivial⟩ | exact sAll rfl | exact sF1 rfl | exact sBld (by repeat' (first | exact trivial | rfl | exact Nat.le_of_ble_eq_true rfl | refine And.intro ?_ ?_)) rfl | exact sBS (by repeat' (first | exact trivial | rfl | exact Nat.le_of_ble_eq_true rfl | refine And.intro ?_ ?_)) rfl rfl rfl rfl | exact sBSF (by repeat' (first | exact trivial | rfl | exact Nat.le_of_ble_eq_true rfl | refine And.intro ?_ ?_)) rfl rfl rfl rfl | exact sLe rfl | exact Chk.mk (by kernel_rfl) | exact ⟨Chk.mk (by kernel_rfl)⟩ | exact sLeEq rfl rfl | refine fun h => ?_)
      all_goals simp only [decide_eq_true_eq, decide_eq_false_iff_not, List.length_map] at *
      · exact sRow (by omega) (row_at xs _ (by omega)) rfl
      · exact sIdx (by omega) rfl rfl
      · exact sPut (by omega) rfl rfl
      · refine ⟨i + 1, [], by omega, by omega, ?_⟩
        repeat' (first | exact trivial | exact ⟨rfl⟩ | exact Chk.mk (by kernel_rfl) | exact ⟨wrap_succ (n := xs.length) (by omega) (by omega)⟩ | exact sPartS (by omega) rfl | exact sFlat Bool.flat rfl | refine And.intro ?_ ?_ | rfl)
      · refine ⟨⟨trivial, trivial⟩, ⟨part_end (by omega) rfl, ?_⟩, trivial⟩
        show AllF _
        rw [part_all (by omega)]
        exact map_frz Bool.frz

theorem c_eqBoolS (xs ys : List Bool) (hx : xs.length ≤ maxLen) (hy : ys.length ≤ maxLen)  : Pure PP false 82 [.one (.fz (xs.map Bool.cells)), .one (.fz (ys.map Bool.cells))] (ob (decide (xs = ys))) := by
  refine Pure.vc [] TTok hmo Go.Proofs.Try.func82 (by kernel_rfl) rfl (by kernel_rfl) ?_
  repeat' (first | refine And.intro ?_ ?_ | exact tf | exact ft | refine tt ?_ | refine ff ?_ | exact ⟨trivial⟩ | exact sLe rfl | exact Chk.mk (by kernel_rfl) | exact ⟨Chk.mk (by kernel_rfl)⟩ | exact sLeEq rfl rfl | refine fun h => ?_)
  · refine ⟨?_⟩
    simp at *
    intro e; subst e; simp at h
  · have hl : xs.length = ys.length := by simp at h; omega
    unfold maxLen at hx hy
    refine W.loopC (D := Nat) (fun i => [(19, .row (Bool.cells (xs.getD i default))), (23, .row (Bool.cells (ys.getD i default)))]) TTok hmo
      (fun i => ⟨26, 0, [(0, .one (.ag (xs.map Bool.cells))), (1, .one (.ag (ys.map Bool.cells))), (4, ob false), (5, oi i)], []⟩) (fun i => xs.length - i) (fun i => i ≤ xs.length ∧ xs.take i = ys.take i) 0 [] ⟨by omega, by simp⟩ ?_ ?_
    · repeat' (first | exact trivial | exact ⟨rfl⟩ | exact Chk.mk (by kernel_rfl) | refine And.intro ?_ ?_ | rfl)
      all_goals exact ⟨by simp⟩
    · intro i ⟨hi, hp⟩
      repeat' (first | refine And.intro ?_ ?_ | exact tf | exact ft | refine tt ?_ | refine ff ?_ | exact ⟨trivial⟩ | exact sLe rfl | exact Chk.mk (by kernel_rfl) | exact ⟨Chk.mk (by kernel_rfl)⟩ | exact sLeEq rfl rfl | refine fun h => ?_)
      all_goals simp only [decide_eq_true_eq, decide_eq_false_iff_not, List.length_map, Bool.not_eq_true', Bool.not_eq_false', Bool.not_eq_eq_eq_not, Bool.not_true, Bool.not_false, bne_iff_ne, ne_eq, bne_eq_false_iff_eq] at *
      · exact sRow (by omega) (row_at xs _ (by omega)) rfl
      · exact sRow (by omega) (row_at ys _ (by omega)) rfl
      · refine ⟨?_⟩
        simp
        intro e; subst e; simp_all
      · refine ⟨i + 1, [], by omega, ⟨by omega, eq_upto hl (by omega) hp (by simp_all [])⟩, ?_⟩
        repeat' (first | exact trivial | exact ⟨rfl⟩ | exact Chk.mk (by kernel_rfl) | exact ⟨wrap_succ (n := xs.length) (by omega) (by omega)⟩ | refine And.intro ?_ ?_ | rfl)
      · refine ⟨?_⟩
        simp
        exact eq_all hl (by omega) hp

theorem c_toNode (x : Node) (hx : x.ok lim) :
    Pure PP false 68 [.agg x.cells] (.agg x.cells) := by
  refine Pure.vc [(9, .res (.agg x.acc.cells)), (13, .res (.one (.fz (x.known.map Entry.cells)))), (26, .res (.one (.fz (x.fro.map Bool.cells)))), (30, .res (.one (.fz (x.best.map Vote.cells)))), (34, .res (.agg x.cur.cells)), (38, .res (.one (.fz (x.votes.map Bool.cells)))), (45, .res (.one (.fz (x.prog.map Ins.cells)))), (49, .res (.agg x.want.cells)), (53, .res (.one (.fz (x.queue.map Entry.cells))))] TTok hmo Go.Proofs.Try.func68 (by kernel_rfl) rfl (by kernel_rfl) ?_
  repeat' (first | refine And.intro ?_ ?_ | exact tf | exact ft | refine tt ?_ | refine ff ?_ | exact ⟨trivial⟩ | exact sLe rfl | exact Chk.mk (by kernel_rfl) | exact ⟨Chk.mk (by kernel_rfl)⟩ | exact sLeEq rfl rfl | exact sAnd (by repeat' constructor) (c_toAcc _ hx.acc) | exact sAnd (by repeat' constructor) (c_toEntryS _ hx.known.1 hx.known.2) | exact sAnd (by repeat' constructor) (c_toBoolS _ hx.fro) | exact sAnd (by repeat' constructor) (c_toVoteS _ hx.best.1 hx.best.2) | exact sAnd (by repeat' constructor) (c_toEntry _ hx.cur) | exact sAnd (by repeat' constructor) (c_toBoolS _ hx.votes) | exact sAnd (by repeat' constructor) (c_toInsS _ hx.prog) | exact sAnd (by repeat' constructor) (c_toEntry _ hx.want) | exact sAnd (by repeat' constructor) (c_toEntryS _ hx.queue.1 hx.queue.2) | refine fun h => ?_)
  all_goals (refine ⟨?_⟩; repeat' (first | exact trivial | exact Nat.le_of_ble_eq_true rfl | rfl | refine And.intro ?_ ?_))

theorem c_eqNode (x y : Node) (hx : x.ok lim) (hy : y.ok lim) :
    Pure PP false 54 [.agg x.cells, .agg y.cells] (ob (decide (x = y))) := by
  obtain ⟨id, ac, kn, sq, ph, ba, fr, be, cu, vo, bu, pr, wa, qu⟩ := x
  obtain ⟨id', ac', kn', sq', ph', ba', fr', be', cu', vo', bu', pr', wa', qu'⟩ := y
  refine Pure.vc [(14, .res (ob (decide (ac = ac')))), (20, .res (ob (decide (kn = kn')))), (41, .res (ob (decide (fr = fr')))), (47, .res (ob (decide (be = be')))), (53, .res (ob (decide (cu = cu')))), (59, .res (ob (decide (vo = vo')))), (70, .res (ob (decide (pr = pr')))), (76, .res (ob (decide (wa = wa')))), (82, .res (ob (decide (qu = qu'))))] TTok hmo Go.Proofs.Try.func54 (by kernel_rfl) rfl (by kernel_rfl) ?_
  repeat' (first | refine And.intro ?_ ?_ | exact tf | exact ft | refine tt ?_ | refine ff ?_ | exact ⟨trivial⟩ | exact sLe rfl | exact Chk.mk (by kernel_rfl) | exact ⟨Chk.mk (by kernel_rfl)⟩ | exact sLeEq rfl rfl | exact sAnd (by repeat' constructor) (c_eqAcc _ _ hx.acc hy.acc) | exact sAnd (by repeat' constructor) (c_eqEntryS _ _ (Nat.le_trans hx.known.1 (by decide)) (Nat.le_trans hy.known.1 (by decide)) hx.known.2 hy.known.2) | exact sAnd (by repeat' constructor) (c_eqBoolS _ _ (Nat.le_trans hx.fro (by decide)) (Nat.le_trans hy.fro (by decide))) | exact sAnd (by repeat' constructor) (c_eqVoteS _ _ (Nat.le_trans hx.best.1 (by decide)) (Nat.le_trans hy.best.1 (by decide)) hx.best.2 hy.best.2) | exact sAnd (by repeat' constructor) (c_eqEntry _ _ hx.cur hy.cur) | exact sAnd (by repeat' constructor) (c_eqBoolS _ _ (Nat.le_trans hx.votes (by decide)) (Nat.le_trans hy.votes (by decide))) | exact sAnd (by repeat' constructor) (c_eqInsS _ _ (Nat.le_trans hx.prog (by decide)) (Nat.le_trans hy.prog (by decide))) | exact sAnd (by repeat' constructor) (c_eqEntry _ _ hx.want hy.want) | exact sAnd (by repeat' constructor) (c_eqEntryS _ _ (Nat.le_trans hx.queue.1 (by decide)) (Nat.le_trans hy.queue.1 (by decide)) hx.queue.2 hy.queue.2) | refine fun h => ?_)
  all_goals (refine ⟨?_⟩; simp_all)
  all_goals rfl

end Mg

/- Values turned into the program's kinds, as trees. No condition. -/
namespace Mg
open Go Go.RowKit
set_option maxRecDepth 100000
set_option linter.unusedVariables false
set_option linter.unusedSimpArgs false
attribute [local irreducible] W Pure

theorem t_toReadS (xs : List Two) (hx : xs.length ≤ lim) : TPure PP 116 [.one (.fz (xs.map Two.cells))] (.one (.fz (xs.map Two.cells))) := by
  have hx0 : xs.length ≤ 1048576 := hx
  refine TPure.vc [] TTok hmo Go.Proofs.Try.func116 (by kernel_rfl) rfl (by kernel_rfl) ?_
  repeat' (first | refine And.intro ?_ ?_ | exact tf | exact ft | refine tt ?_ | refine ff ?_ | exact ⟨trivial⟩ | exact sAll rfl | exact sF1 rfl | exact sBld (by repeat' (first | exact trivial | rfl | exact Nat.le_of_ble_eq_true rfl | refine And.intro ?_ ?_)) rfl | exact sBS (by repeat' (first | exact trivial | rfl | exact Nat.le_of_ble_eq_true rfl | refine And.intro ?_ ?_)) rfl rfl rfl rfl | exact sBSF (by repeat' (first | exact trivial | rfl | exact Nat.le_of_ble_eq_true rfl | refine And.intro ?_ ?_)) rfl rfl rfl rfl | exact sLe rfl | exact Chk.mk (by kernel_rfl) | exact ⟨Chk.mk (by kernel_rfl)⟩ | exact sLeEq rfl rfl | refine fun h => ?_)
  · refine ⟨?_⟩
    simp at *
    omega
  · refine W.loopC (D := Nat) (fun i => [(18, .row (Two.cells (xs.getD i default))), (20, .res (.agg (xs.getD i default).cells))]) TTok hmo
      (fun i => ⟨23, 1, [(0, .one (.ag (xs.map Two.cells))), (2, .one .nil), (3, .one (.ref 0 0 xs.length)), (4, oi i)], [(0, .arr (part Two.cells [i6 0, i6 0] xs i))]⟩) (fun i => xs.length - i) (fun i => i ≤ xs.length) 0 [] (by omega) ?_ ?_
    · repeat' (first | exact trivial | exact ⟨rfl⟩ | exact Chk.mk (by kernel_rfl) | exact sPart0 (by simp) | exact sFlat Two.flat rfl | refine And.intro ?_ ?_ | rfl)
      all_goals exact ⟨by simp⟩
    · intro i hi
      repeat' (first | refine And.intro ?_ ?_ | exact tf | exact ft | refine tt ?_ | refine ff ?_ | exact ⟨trivial⟩ | exact sAll rfl | exact sF1 rfl | exact sBld (by repeat' (first | exact trivial | rfl | exact Nat.le_of_ble_eq_true rfl | refine And.intro ?_ ?_)) rfl | exact sBS (by repeat' (first | exact trivial | rfl | exact Nat.le_of_ble_eq_true rfl | refine And.intro ?_ ?_)) rfl rfl rfl rfl | exact sBSF (by repeat' (first | exact trivial | rfl | exact Nat.le_of_ble_eq_true rfl | refine And.intro ?_ ?_)) rfl rfl rfl rfl | exact sLe rfl | exact Chk.mk (by kernel_rfl) | exact ⟨Chk.mk (by kernel_rfl)⟩ | exact sLeEq rfl rfl | exact sAnd (by repeat' constructor) (c_toRead _) | refine fun h => ?_)
      all_goals try (exact endFlat (part_all (by have h3 := of_decide_eq_false h; rw [List.length_map] at h3; omega)) rfl Two.frz (fun _ => rfl))
      all_goals try (exact ⟨⟨trivial, trivial⟩⟩)
      all_goals simp only [decide_eq_true_eq, decide_eq_false_iff_not, List.length_map] at *
      · exact sRow (by omega) (row_at xs _ (by omega)) rfl
      · exact sIdx (by omega) rfl rfl
      · exact sPut (by omega) rfl rfl
      · refine ⟨i + 1, [], by omega, by omega, ?_⟩
        repeat' (first | exact trivial | exact ⟨rfl⟩ | exact Chk.mk (by kernel_rfl) | exact ⟨wrap_succ (n := xs.length) (by omega) (by omega)⟩ | exact sPartS (by omega) rfl | exact sFlat Two.flat rfl | refine And.intro ?_ ?_ | rfl)

theorem t_toPutS (xs : List Two) (hx : xs.length ≤ lim) : TPure PP 117 [.one (.fz (xs.map Two.cells))] (.one (.fz (xs.map Two.cells))) := by
  have hx0 : xs.length ≤ 1048576 := hx
  refine TPure.vc [] TTok hmo Go.Proofs.Try.func117 (by kernel_rfl) rfl (by kernel_rfl) ?_
  repeat' (first | refine And.intro ?_ ?_ | exact tf | exact ft | refine tt ?_ | refine ff ?_ | exact ⟨trivial⟩ | exact sAll rfl | exact sF1 rfl | exact sBld (by repeat' (first | exact trivial | rfl | exact Nat.le_of_ble_eq_true rfl | refine And.intro ?_ ?_)) rfl | exact sBS (by repeat' (first | exact trivial | rfl | exact Nat.le_of_ble_eq_true rfl | refine And.intro ?_ ?_)) rfl rfl rfl rfl | exact sBSF (by repeat' (first | exact trivial | rfl | exact Nat.le_of_ble_eq_true rfl | refine And.intro ?_ ?_)) rfl rfl rfl rfl | exact sLe rfl | exact Chk.mk (by kernel_rfl) | exact ⟨Chk.mk (by kernel_rfl)⟩ | exact sLeEq rfl rfl | refine fun h => ?_)
  · refine ⟨?_⟩
    simp at *
    omega
  · refine W.loopC (D := Nat) (fun i => [(18, .row (Two.cells (xs.getD i default))), (20, .res (.agg (xs.getD i default).cells))]) TTok hmo
      (fun i => ⟨23, 1, [(0, .one (.ag (xs.map Two.cells))), (2, .one .nil), (3, .one (.ref 0 0 xs.length)), (4, oi i)], [(0, .arr (part Two.cells [i6 0, i6 0] xs i))]⟩) (fun i => xs.length - i) (fun i => i ≤ xs.length) 0 [] (by omega) ?_ ?_
    · repeat' (first | exact trivial | exact ⟨rfl⟩ | exact Chk.mk (by kernel_rfl) | exact sPart0 (by simp) | exact sFlat Two.flat rfl | refine And.intro ?_ ?_ | rfl)
      all_goals exact ⟨by simp⟩
    · intro i hi
      repeat' (first | refine And.intro ?_ ?_ | exact tf | exact ft | refine tt ?_ | refine ff ?_ | exact ⟨trivial⟩ | exact sAll rfl | exact sF1 rfl | exact sBld (by repeat' (first | exact trivial | rfl | exact Nat.le_of_ble_eq_true rfl | refine And.intro ?_ ?_)) rfl | exact sBS (by repeat' (first | exact trivial | rfl | exact Nat.le_of_ble_eq_true rfl | refine And.intro ?_ ?_)) rfl rfl rfl rfl | exact sBSF (by repeat' (first | exact trivial | rfl | exact Nat.le_of_ble_eq_true rfl | refine And.intro ?_ ?_)) rfl rfl rfl rfl | exact sLe rfl | exact Chk.mk (by kernel_rfl) | exact ⟨Chk.mk (by kernel_rfl)⟩ | exact sLeEq rfl rfl | exact sAnd (by repeat' constructor) (c_toPut _) | refine fun h => ?_)
      all_goals try (exact endFlat (part_all (by have h3 := of_decide_eq_false h; rw [List.length_map] at h3; omega)) rfl Two.frz (fun _ => rfl))
      all_goals try (exact ⟨⟨trivial, trivial⟩⟩)
      all_goals simp only [decide_eq_true_eq, decide_eq_false_iff_not, List.length_map] at *
      · exact sRow (by omega) (row_at xs _ (by omega)) rfl
      · exact sIdx (by omega) rfl rfl
      · exact sPut (by omega) rfl rfl
      · refine ⟨i + 1, [], by omega, by omega, ?_⟩
        repeat' (first | exact trivial | exact ⟨rfl⟩ | exact Chk.mk (by kernel_rfl) | exact ⟨wrap_succ (n := xs.length) (by omega) (by omega)⟩ | exact sPartS (by omega) rfl | exact sFlat Two.flat rfl | refine And.intro ?_ ?_ | rfl)

theorem t_toInsS (xs : List Ins) (hx : xs.length ≤ lim) : TPure PP 97 [.one (.fz (xs.map Ins.cells))] (.one (.fz (xs.map Ins.cells))) := by
  have hx0 : xs.length ≤ 1048576 := hx
  refine TPure.vc [] TTok hmo Go.Proofs.Try.func97 (by kernel_rfl) rfl (by kernel_rfl) ?_
  repeat' (first | refine And.intro ?_ ?_ | exact tf | exact ft | refine tt ?_ | refine ff ?_ | exact ⟨trivial⟩ | exact sAll rfl | exact sF1 rfl | exact sBld (by repeat' (first | exact trivial | rfl | exact Nat.le_of_ble_eq_true rfl | refine And.intro ?_ ?_)) rfl | exact sBS (by repeat' (first | exact trivial | rfl | exact Nat.le_of_ble_eq_true rfl | refine And.intro ?_ ?_)) rfl rfl rfl rfl | exact sBSF (by repeat' (first | exact trivial | rfl | exact Nat.le_of_ble_eq_true rfl | refine And.intro ?_ ?_)) rfl rfl rfl rfl | exact sLe rfl | exact Chk.mk (by kernel_rfl) | exact ⟨Chk.mk (by kernel_rfl)⟩ | exact sLeEq rfl rfl | refine fun h => ?_)
  · refine ⟨?_⟩
    simp at *
    omega
  · refine W.loopC (D := Nat) (fun i => [(18, .row (Ins.cells (xs.getD i default))), (20, .res (.agg (xs.getD i default).cells))]) TTok hmo
      (fun i => ⟨23, 1, [(0, .one (.ag (xs.map Ins.cells))), (2, .one .nil), (3, .one (.ref 0 0 xs.length)), (4, oi i)], [(0, .arr (part Ins.cells [i6 0, i6 0, i6 0, i6 0] xs i))]⟩) (fun i => xs.length - i) (fun i => i ≤ xs.length) 0 [] (by omega) ?_ ?_
    · repeat' (first | exact trivial | exact ⟨rfl⟩ | exact Chk.mk (by kernel_rfl) | exact sPart0 (by simp) | exact sFlat Ins.flat rfl | refine And.intro ?_ ?_ | rfl)
      all_goals exact ⟨by simp⟩
    · intro i hi
      repeat' (first | refine And.intro ?_ ?_ | exact tf | exact ft | refine tt ?_ | refine ff ?_ | exact ⟨trivial⟩ | exact sAll rfl | exact sF1 rfl | exact sBld (by repeat' (first | exact trivial | rfl | exact Nat.le_of_ble_eq_true rfl | refine And.intro ?_ ?_)) rfl | exact sBS (by repeat' (first | exact trivial | rfl | exact Nat.le_of_ble_eq_true rfl | refine And.intro ?_ ?_)) rfl rfl rfl rfl | exact sBSF (by repeat' (first | exact trivial | rfl | exact Nat.le_of_ble_eq_true rfl | refine And.intro ?_ ?_)) rfl rfl rfl rfl | exact sLe rfl | exact Chk.mk (by kernel_rfl) | exact ⟨Chk.mk (by kernel_rfl)⟩ | exact sLeEq rfl rfl | exact sAnd (by repeat' constructor) (c_toIns _) | refine fun h => ?_)
      all_goals try (exact endFlat (part_all (by have h3 := of_decide_eq_false h; rw [List.length_map] at h3; omega)) rfl Ins.frz (fun _ => rfl))
      all_goals try (exact ⟨⟨trivial, trivial⟩⟩)
      all_goals simp only [decide_eq_true_eq, decide_eq_false_iff_not, List.length_map] at *
      · exact sRow (by omega) (row_at xs _ (by omega)) rfl
      · exact sIdx (by omega) rfl rfl
      · exact sPut (by omega) rfl rfl
      · refine ⟨i + 1, [], by omega, by omega, ?_⟩
        repeat' (first | exact trivial | exact ⟨rfl⟩ | exact Chk.mk (by kernel_rfl) | exact ⟨wrap_succ (n := xs.length) (by omega) (by omega)⟩ | exact sPartS (by omega) rfl | exact sFlat Ins.flat rfl | refine And.intro ?_ ?_ | rfl)

theorem t_toBoolS (xs : List Bool) (hx : xs.length ≤ lim) : TPure PP 94 [.one (.fz (xs.map Bool.cells))] (.one (.fz (xs.map Bool.cells))) := by
  have hx0 : xs.length ≤ 1048576 := hx
  refine TPure.vc [] TTok hmo Go.Proofs.Try.func94 (by kernel_rfl) rfl (by kernel_rfl) ?_
  repeat' (first | refine And.intro ?_ ?_ | exact tf | exact ft | refine tt ?_ | refine ff ?_ | exact ⟨trivial⟩ | exact sAll rfl | exact sF1 rfl | exact sBld (by repeat' (first | exact trivial | rfl | exact Nat.le_of_ble_eq_true rfl | refine And.intro ?_ ?_)) rfl | exact sBS (by repeat' (first | exact trivial | rfl | exact Nat.le_of_ble_eq_true rfl | refine And.intro ?_ ?_)) rfl rfl rfl rfl | exact sBSF (by repeat' (first | exact trivial | rfl | exact Nat.le_of_ble_eq_true rfl | refine And.intro ?_ ?_)) rfl rfl rfl rfl | exact sLe rfl | exact Chk.mk (by kernel_rfl) | exact ⟨Chk.mk (by kernel_rfl)⟩ | exact sLeEq rfl rfl | refine fun h => ?_)
  · refine ⟨?_⟩
    simp at *
    omega
  · refine W.loopC (D := Nat) (fun i => [(18, .row (Bool.cells (xs.getD i default)))]) TTok hmo
      (fun i => ⟨22, 1, [(0, .one (.ag (xs.map Bool.cells))), (2, .one .nil), (3, .one (.ref 0 0 xs.length)), (4, oi i)], [(0, .arr (part Bool.cells [bo false] xs i))]⟩) (fun i => xs.length - i) (fun i => i ≤ xs.length) 0 [] (by omega) ?_ ?_
    · repeat' (first | exact trivial | exact ⟨rfl⟩ | exact Chk.mk (by kernel_rfl) | exact sPart0 (by simp) | exact sFlat Bool.flat rfl | refine And.intro ?_ ?_ | rfl)
      all_goals exact ⟨by simp⟩
    · intro i hi
      repeat' (first | refine And.intro ?_ ?_ | exact tf | exact ft | refine tt ?_ | refine ff ?_ | exact ⟨trivial⟩ | exact sAll rfl | exact sF1 rfl | exact sBld (by repeat' (first | exact trivial | rfl | exact Nat.le_of_ble_eq_true rfl | refine And.intro ?_ ?_)) rfl | exact sBS (by repeat' (first | exact trivial | rfl | exact Nat.le_of_ble_eq_true rfl | refine And.intro ?_ ?_)) rfl rfl rfl rfl | exact sBSF (by repeat' (first | exact trivial | rfl | exact Nat.le_of_ble_eq_true rfl | refine And.intro ?_ ?_)) rfl rfl rfl rfl | exact sLe rfl | exact Chk.mk (by kernel_rfl) | exact ⟨Chk.mk (by kernel_rfl)⟩ | exact sLeEq rfl rfl | refine fun h => ?_)
      all_goals try (exact endFlat (part_all (by have h3 := of_decide_eq_false h; rw [List.length_map] at h3; omega)) rfl Bool.frz (fun _ => rfl))
      all_goals try (exact ⟨⟨trivial, trivial⟩⟩)
      all_goals simp only [decide_eq_true_eq, decide_eq_false_iff_not, List.length_map] at *
      · exact sRow (by omega) (row_at xs _ (by omega)) rfl
      · exact sIdx (by omega) rfl rfl
      · exact sPut (by omega) rfl rfl
      · refine ⟨i + 1, [], by omega, by omega, ?_⟩
        repeat' (first | exact trivial | exact ⟨rfl⟩ | exact Chk.mk (by kernel_rfl) | exact ⟨wrap_succ (n := xs.length) (by omega) (by omega)⟩ | exact sPartS (by omega) rfl | exact sFlat Bool.flat rfl | refine And.intro ?_ ?_ | rfl)

end Mg
