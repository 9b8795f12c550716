/- Parts of the abstract state logic and of the walks, one behind the other: B3, B4, B5, B6. No condition. -/
import Derived.Test.YtholjompohimnaaP15
import Derived.Test.YtholjompohimnaaP11
import Derived.Test.YtholjompohimnaaP10
/- Ballots and whose they are. No condition. -/
namespace Mg
open Go Go.RowKit
set_option maxRecDepth 100000
set_option linter.unusedVariables false
set_option linter.unusedSimpArgs false
attribute [local irreducible] W Pure Con
def own3 (b : Int) : Int := if inr b 1 3000 then b % 3 else -1
theorem inr_iff {n lo hi : Int} : inr n lo hi = true ↔ lo ≤ n ∧ n ≤ hi := by simp [inr]
theorem inr_no {n lo hi : Int} (h : inr n lo hi = false) : ¬ (lo ≤ n ∧ n ≤ hi) := fun g => by rw [inr_iff.2 g] at h; cases h
theorem c_impl_AccOwner (b : Int) : Pure PP false 34 [oi b] (oi (own3 b)) := by
  refine Pure.vc [(4, .res (ob (inr b 1 3000)))] TTok hmo Go.Proofs.Try.func34 (by kernel_rfl) rfl (by kernel_rfl) ?_
  repeat' (first | refine And.intro ?_ ?_ | exact tf | exact ft | refine tt ?_ | refine ff ?_ | exact ⟨trivial⟩ | exact sAll rfl | exact sF1 rfl | exact sBld (by repeat' (first | exact trivial | rfl | exact Nat.le_of_ble_eq_true rfl | refine And.intro ?_ ?_)) rfl | exact sBS (by repeat' (first | exact trivial | rfl | exact Nat.le_of_ble_eq_true rfl | refine And.intro ?_ ?_)) rfl rfl rfl rfl | exact sBSF (by repeat' (first | exact trivial | rfl | exact Nat.le_of_ble_eq_true rfl | refine And.intro ?_ ?_)) rfl rfl rfl rfl | exact sLe rfl | exact Chk.mk (by kernel_rfl) | exact ⟨Chk.mk (by kernel_rfl)⟩ | exact sLeEq rfl rfl | exact sAnd (by repeat' constructor) (c_impl_in _ _ _) | refine fun h => ?_)
  · have e : own3 b = -1 := by unfold own3; rw [if_neg (by simp_all)]
    exact ⟨⟨trivial, trivial⟩, by rw [e], trivial⟩
  · exact ⟨(by decide : (3 : Int) ≠ 0)⟩
  · have hb : inr b 1 3000 = true := by simpa using h
    have e : own3 b = b.tmod 3 := by unfold own3; rw [if_pos hb, Int.tmod_eq_emod_of_nonneg (by have := inr_iff.1 hb; omega)]
    exact ⟨⟨trivial, trivial⟩, by rw [e], trivial⟩
theorem c_spec_AccOwner (b : Int) : Pure PP false 36 [oi b] (oi (own3 b)) := by
  refine Pure.vc [(4, .res (ob (inr b 1 3000)))] TTok hmo Go.Proofs.Try.func36 (by kernel_rfl) rfl (by kernel_rfl) ?_
  repeat' (first | refine And.intro ?_ ?_ | exact tf | exact ft | refine tt ?_ | refine ff ?_ | exact ⟨trivial⟩ | exact sAll rfl | exact sF1 rfl | exact sBld (by repeat' (first | exact trivial | rfl | exact Nat.le_of_ble_eq_true rfl | refine And.intro ?_ ?_)) rfl | exact sBS (by repeat' (first | exact trivial | rfl | exact Nat.le_of_ble_eq_true rfl | refine And.intro ?_ ?_)) rfl rfl rfl rfl | exact sBSF (by repeat' (first | exact trivial | rfl | exact Nat.le_of_ble_eq_true rfl | refine And.intro ?_ ?_)) rfl rfl rfl rfl | exact sLe rfl | exact Chk.mk (by kernel_rfl) | exact ⟨Chk.mk (by kernel_rfl)⟩ | exact sLeEq rfl rfl | exact sAnd (by repeat' constructor) (c_l6Bal _) | refine fun h => ?_)
  · have e : own3 b = -1 := by unfold own3; rw [if_neg (by simp_all)]
    exact ⟨⟨trivial, trivial⟩, by rw [e], trivial⟩
  · exact ⟨(by decide : (3 : Int) ≠ 0)⟩
  · have hb : inr b 1 3000 = true := by simpa using h
    have e : own3 b = b.tmod 3 := by unfold own3; rw [if_pos hb, Int.tmod_eq_emod_of_nonneg (by have := inr_iff.1 hb; omega)]
    exact ⟨⟨trivial, trivial⟩, by rw [e], trivial⟩
/-- The next ballot of somebody's. -/
def nxt3 (bal who : Int) : Int :=
  if bal < 0 ∨ 3000 < bal ∨ who < 0 ∨ 2 < who then -1 else
  if bal + 1 ≤ 3000 ∧ (bal + 1) % 3 = who then bal + 1 else
  if bal + 2 ≤ 3000 ∧ (bal + 2) % 3 = who then bal + 2 else
  if bal + 3 ≤ 3000 ∧ (bal + 3) % 3 = who then bal + 3 else -1
structure Nx (bal who : Int) (j : Nat) : Prop where
  a : 1 ≤ j → (bal + 1) % 3 ≠ who
  b : 2 ≤ j → (bal + 2) % 3 ≠ who
  c : 3 ≤ j → (bal + 3) % 3 ≠ who
  d : 1 ≤ j → bal + j ≤ 3000
theorem Nx.next {bal who : Int} {j : Nat} (h : Nx bal who j) (hn : (bal + 1 + j) % 3 ≠ who) (hl : bal + 1 + j ≤ 3000) : Nx bal who (j + 1) :=
  ⟨fun _ => (Nat.lt_or_ge j 1).elim (fun g => by omega) (fun g => h.a g), fun _ => (Nat.lt_or_ge j 2).elim (fun g => by omega) (fun g => h.b g), fun _ => (Nat.lt_or_ge j 3).elim (fun g => by omega) (fun g => h.c g), fun _ => by omega⟩
theorem Nx.lt {bal who : Int} {j : Nat} (h : Nx bal who j) (hw : 0 ≤ who ∧ who ≤ 2) : j ≤ 2 := by
  by_cases g : 3 ≤ j
  · have h1 := h.a (by omega)
    have h2 := h.b (by omega)
    have h3 := h.c g
    omega
  · omega
theorem Nx.hit {bal who : Int} {j : Nat} (h : Nx bal who j) (hb : 0 ≤ bal ∧ bal ≤ 3000) (hw : 0 ≤ who ∧ who ≤ 2) (hl : bal + 1 + j ≤ 3000) (he : (bal + 1 + j) % 3 = who) : nxt3 bal who = bal + 1 + j := by
  have hj := h.lt hw
  unfold nxt3
  rw [if_neg (by omega)]
  obtain rfl | rfl | rfl : j = 0 ∨ j = 1 ∨ j = 2 := by omega
  · rw [if_pos ⟨by omega, by omega⟩]; omega
  · have h1 := h.a (by omega)
    rw [if_neg (fun g => h1 g.2), if_pos ⟨by omega, by omega⟩]; omega
  · have h1 := h.a (by omega)
    have h2 := h.b (by omega)
    rw [if_neg (fun g => h1 g.2), if_neg (fun g => h2 g.2), if_pos ⟨by omega, by omega⟩]; omega
theorem Nx.miss {bal who : Int} {j : Nat} (h : Nx bal who j) (hb : 0 ≤ bal ∧ bal ≤ 3000) (hl : 3000 < bal + 1 + j) : nxt3 bal who = -1 := by
  unfold nxt3
  by_cases hw : 0 ≤ who ∧ who ≤ 2
  · have hj := h.lt hw
    rw [if_neg (by omega)]
    obtain rfl | rfl | rfl : j = 0 ∨ j = 1 ∨ j = 2 := by omega
    · rw [if_neg (fun g => by omega), if_neg (fun g => by omega), if_neg (fun g => by omega)]
    · have h1 := h.a (by omega)
      rw [if_neg (fun g => h1 g.2), if_neg (fun g => by omega), if_neg (fun g => by omega)]
    · have h1 := h.a (by omega)
      have h2 := h.b (by omega)
      rw [if_neg (fun g => h1 g.2), if_neg (fun g => h2 g.2), if_neg (fun g => by omega)]
  · rw [if_pos (by omega)]
theorem nxt3_no {bal who : Int} (h : bal < 0 ∨ 3000 < bal ∨ who < 0 ∨ 2 < who) : nxt3 bal who = -1 := by unfold nxt3; rw [if_pos h]
theorem sRet {u v : Value} (h : u = v) : Side ((True ∧ True) ∧ (u = v ∧ True)) := ⟨⟨trivial, trivial⟩, h, trivial⟩
theorem c_spec_AccNext (bal who : Int) (h1 : -10 ≤ bal ∧ bal ≤ 4000) : Pure PP false 33 [oi bal, oi who] (oi (nxt3 bal who)) := by
  have e1 : IntKind.i64.wrap (bal + 1) = bal + 1 := by rw [wrapi] <;> omega
  have e3 : IntKind.i64.wrap (bal + 3) = bal + 3 := by rw [wrapi] <;> omega
  refine Pure.vc [] TTok hmo Go.Proofs.Try.func33 (by kernel_rfl) rfl (by kernel_rfl) ?_
  repeat' (first | refine And.intro ?_ ?_ | exact tf | exact ft | refine tt ?_ | refine ff ?_ | exact ⟨trivial⟩ | exact sAll rfl | exact sF1 rfl | exact sBld (by repeat' (first | exact trivial | rfl | exact Nat.le_of_ble_eq_true rfl | refine And.intro ?_ ?_)) rfl | exact sBS (by repeat' (first | exact trivial | rfl | exact Nat.le_of_ble_eq_true rfl | refine And.intro ?_ ?_)) rfl rfl rfl rfl | exact sBSF (by repeat' (first | exact trivial | rfl | exact Nat.le_of_ble_eq_true rfl | refine And.intro ?_ ?_)) rfl rfl rfl rfl | exact sLe rfl | exact Chk.mk (by kernel_rfl) | exact ⟨Chk.mk (by kernel_rfl)⟩ | exact sLeEq rfl rfl | refine fun h => ?_)
  all_goals simp only [decide_eq_true_eq, decide_eq_false_iff_not, List.length_map, Bool.not_eq_true', Bool.not_eq_false', Bool.not_eq_eq_eq_not, Bool.not_true, Bool.not_false, bne_iff_ne, ne_eq, bne_eq_false_iff_eq, beq_iff_eq, beq_eq_false_iff_ne] at *
  all_goals try (exact sRet (by rw [nxt3_no (by omega)]))
  · refine W.loopC (D := Nat) (fun _ => []) TTok hmo (fun j => ⟨37, 0, [(0, oi bal), (1, oi who), (5, oi (bal + 1 + j))], []⟩) (fun j => 3 - j) (fun j => j ≤ 3 ∧ Nx bal who j) 0 [] ⟨by omega, ⟨by omega, by omega, by omega, by omega⟩⟩ ?_ ?_
    · repeat' (first | exact trivial | exact ⟨trivial⟩ | exact Side.mk rfl | exact sF1 rfl | exact Chk.mk (by kernel_rfl) | exact ⟨Chk.mk (by kernel_rfl)⟩ | exact ⟨by rw [e1]; simp⟩ | exact ⟨by rw [e1]; omega⟩ | refine And.intro ?_ ?_ | rfl)
    · intro j ⟨hj, hn⟩
      repeat' (first | refine And.intro ?_ ?_ | exact tf | exact ft | refine tt ?_ | refine ff ?_ | exact ⟨trivial⟩ | exact sAll rfl | exact sF1 rfl | exact sBld (by repeat' (first | exact trivial | rfl | exact Nat.le_of_ble_eq_true rfl | refine And.intro ?_ ?_)) rfl | exact sBS (by repeat' (first | exact trivial | rfl | exact Nat.le_of_ble_eq_true rfl | refine And.intro ?_ ?_)) rfl rfl rfl rfl | exact sBSF (by repeat' (first | exact trivial | rfl | exact Nat.le_of_ble_eq_true rfl | refine And.intro ?_ ?_)) rfl rfl rfl rfl | exact sLe rfl | exact Chk.mk (by kernel_rfl) | exact ⟨Chk.mk (by kernel_rfl)⟩ | exact sLeEq rfl rfl | refine fun h => ?_)
      all_goals simp only [e3] at *
      all_goals simp only [decide_eq_true_eq, decide_eq_false_iff_not, List.length_map, Bool.not_eq_true', Bool.not_eq_false', Bool.not_eq_eq_eq_not, Bool.not_true, Bool.not_false, bne_iff_ne, ne_eq, bne_eq_false_iff_eq, beq_iff_eq, beq_eq_false_iff_ne] at *
      all_goals try (rw [Int.tmod_eq_emod_of_nonneg (by omega)] at *)
      all_goals try (exact ⟨(by decide : ¬ (3 : Int) = 0)⟩)
      · exact sRet (by rw [hn.hit ⟨by omega, by omega⟩ ⟨by omega, by omega⟩ (by assumption) (by assumption)])
      · have hlt := hn.lt ⟨by omega, by omega⟩
        refine ⟨j + 1, [], by omega, ⟨by omega, hn.next (by assumption) (by assumption)⟩, ?_⟩
        repeat' (first | exact trivial | exact ⟨trivial⟩ | exact Side.mk rfl | exact sF1 rfl | exact Chk.mk (by kernel_rfl) | exact ⟨Chk.mk (by kernel_rfl)⟩ | exact ⟨by rw [wrapi] <;> omega⟩ | exact ⟨by rw [wrapi (n := bal + 1 + j + 1)] <;> omega⟩ | refine And.intro ?_ ?_ | rfl)
      · exact sRet (by rw [hn.miss ⟨by omega, by omega⟩ (by omega)])
      · have hlt := hn.lt ⟨by omega, by omega⟩
        exfalso; omega
theorem c_impl_AccNext (bal who : Int) (h1 : -10 ≤ bal ∧ bal ≤ 4000) : Pure PP false 32 [oi bal, oi who] (oi (nxt3 bal who)) := by
  have e1 : IntKind.i64.wrap (bal + 1) = bal + 1 := by rw [wrapi] <;> omega
  refine Pure.vc [(10, .res (ob (inr who 0 2)))] TTok hmo Go.Proofs.Try.func32 (by kernel_rfl) rfl (by kernel_rfl) ?_
  repeat' (first | refine And.intro ?_ ?_ | exact tf | exact ft | refine tt ?_ | refine ff ?_ | exact ⟨trivial⟩ | exact sAll rfl | exact sF1 rfl | exact sBld (by repeat' (first | exact trivial | rfl | exact Nat.le_of_ble_eq_true rfl | refine And.intro ?_ ?_)) rfl | exact sBS (by repeat' (first | exact trivial | rfl | exact Nat.le_of_ble_eq_true rfl | refine And.intro ?_ ?_)) rfl rfl rfl rfl | exact sBSF (by repeat' (first | exact trivial | rfl | exact Nat.le_of_ble_eq_true rfl | refine And.intro ?_ ?_)) rfl rfl rfl rfl | exact sLe rfl | exact Chk.mk (by kernel_rfl) | exact ⟨Chk.mk (by kernel_rfl)⟩ | exact sLeEq rfl rfl | exact sAnd (by repeat' constructor) (c_impl_in _ _ _) | refine fun h => ?_)
  all_goals simp only [decide_eq_true_eq, decide_eq_false_iff_not, List.length_map, Bool.not_eq_true', Bool.not_eq_false', Bool.not_eq_eq_eq_not, Bool.not_true, Bool.not_false, bne_iff_ne, ne_eq, bne_eq_false_iff_eq, beq_iff_eq, beq_eq_false_iff_ne] at *
  all_goals try (have hw := inr_iff.1 ‹inr who 0 2 = true›)
  all_goals try (have hw := inr_no ‹inr who 0 2 = false›)
  all_goals try (exact sRet (by rw [nxt3_no (by omega)]))
  · by_cases hb : bal ≤ 3000
    · refine W.loopC (D := Nat) (fun _ => [(24, .resf (fun ds => match ds with | [.one (.sc (.int _ b))] => oi (own3 b) | _ => .un))]) TTok hmo (fun j => ⟨28, 0, [(0, oi bal), (1, oi who), (5, oi (bal + 1 + j))], []⟩) (fun j => 3 - j) (fun j => j ≤ 3 ∧ Nx bal who j) 0 [] ⟨by omega, ⟨by omega, by omega, by omega, by omega⟩⟩ ?_ ?_
      · repeat' (first | exact trivial | exact ⟨trivial⟩ | exact Side.mk rfl | exact sF1 rfl | exact Chk.mk (by kernel_rfl) | exact ⟨Chk.mk (by kernel_rfl)⟩ | exact ⟨by rw [e1]; simp⟩ | exact ⟨by rw [e1]; omega⟩ | refine And.intro ?_ ?_ | rfl)
      · intro j ⟨hj, hn⟩
        repeat' (first | refine And.intro ?_ ?_ | exact tf | exact ft | refine tt ?_ | refine ff ?_ | exact ⟨trivial⟩ | exact sAll rfl | exact sF1 rfl | exact sBld (by repeat' (first | exact trivial | rfl | exact Nat.le_of_ble_eq_true rfl | refine And.intro ?_ ?_)) rfl | exact sBS (by repeat' (first | exact trivial | rfl | exact Nat.le_of_ble_eq_true rfl | refine And.intro ?_ ?_)) rfl rfl rfl rfl | exact sBSF (by repeat' (first | exact trivial | rfl | exact Nat.le_of_ble_eq_true rfl | refine And.intro ?_ ?_)) rfl rfl rfl rfl | exact sLe rfl | exact Chk.mk (by kernel_rfl) | exact ⟨Chk.mk (by kernel_rfl)⟩ | exact sLeEq rfl rfl | exact sAnd (by repeat' constructor) (c_impl_AccOwner _) | refine fun h => ?_)
        all_goals simp only [decide_eq_true_eq, decide_eq_false_iff_not, List.length_map, Bool.not_eq_true', Bool.not_eq_false', Bool.not_eq_eq_eq_not, Bool.not_true, Bool.not_false, bne_iff_ne, ne_eq, bne_eq_false_iff_eq, beq_iff_eq, beq_eq_false_iff_ne] at *
        all_goals try (have ho : own3 (bal + 1 + (j : Int)) = (bal + 1 + j) % 3 := by unfold own3; rw [if_pos (inr_iff.2 ⟨by omega, by omega⟩)])
        · exact sRet (by rw [hn.hit ⟨by omega, by omega⟩ ⟨by omega, by omega⟩ (by assumption) (by rw [← ho]; assumption)])
        · have hlt := hn.lt ⟨by omega, by omega⟩
          refine ⟨j + 1, [], by omega, ⟨by omega, hn.next (by rw [← ho]; assumption) (by assumption)⟩, ?_⟩
          repeat' (first | exact trivial | exact ⟨trivial⟩ | exact Side.mk rfl | exact sF1 rfl | exact Chk.mk (by kernel_rfl) | exact ⟨Chk.mk (by kernel_rfl)⟩ | exact ⟨by rw [wrapi] <;> omega⟩ | exact ⟨by rw [wrapi (n := bal + 1 + j + 1)] <;> omega⟩ | refine And.intro ?_ ?_ | rfl)
        all_goals exact sRet (by rw [hn.miss ⟨by omega, by omega⟩ (by omega)])
    · refine W.loopC (D := Nat) (fun _ => []) TTok hmo (fun j => ⟨28, 0, [(0, oi bal), (1, oi who), (5, oi (bal + 1))], []⟩) (fun j => 0) (fun j => True) 0 [] trivial ?_ ?_
      · repeat' (first | exact trivial | exact ⟨trivial⟩ | exact Side.mk rfl | exact sF1 rfl | exact Chk.mk (by kernel_rfl) | exact ⟨Chk.mk (by kernel_rfl)⟩ | exact ⟨by rw [e1]⟩ | refine And.intro ?_ ?_ | rfl)
      · intro j _
        repeat' (first | refine And.intro ?_ ?_ | exact tf | exact ft | refine tt ?_ | refine ff ?_ | exact ⟨trivial⟩ | exact sAll rfl | exact sF1 rfl | exact sBld (by repeat' (first | exact trivial | rfl | exact Nat.le_of_ble_eq_true rfl | refine And.intro ?_ ?_)) rfl | exact sBS (by repeat' (first | exact trivial | rfl | exact Nat.le_of_ble_eq_true rfl | refine And.intro ?_ ?_)) rfl rfl rfl rfl | exact sBSF (by repeat' (first | exact trivial | rfl | exact Nat.le_of_ble_eq_true rfl | refine And.intro ?_ ?_)) rfl rfl rfl rfl | exact sLe rfl | exact Chk.mk (by kernel_rfl) | exact ⟨Chk.mk (by kernel_rfl)⟩ | exact sLeEq rfl rfl | refine fun h => ?_)
        all_goals simp only [decide_eq_true_eq, decide_eq_false_iff_not, List.length_map, Bool.not_eq_true', Bool.not_eq_false', Bool.not_eq_eq_eq_not, Bool.not_true, Bool.not_false, bne_iff_ne, ne_eq, bne_eq_false_iff_eq, beq_iff_eq, beq_eq_false_iff_ne] at *
        all_goals try (exfalso; omega)
        all_goals exact sRet (by rw [nxt3_no (by omega)])
end Mg

/- The best of votes, in plain terms. No condition. -/
namespace Mg
open Go Go.RowKit
set_option maxRecDepth 100000
set_option linter.unusedVariables false
set_option linter.unusedSimpArgs false
theorem voteOk_zero {v : Vote} (h : voteOk v = true) (hb : ¬ v.bal > 0) : v = default := by
  unfold voteOk at h
  split at h
  · rename_i h0
    have he := of_decide_eq_true h
    obtain ⟨bal, e⟩ := v
    simp only at h0 he
    subst h0; subst he; rfl
  · simp [inr] at h; omega
theorem votesOk_at {vs : List Vote} (h : votesOk vs = true) {i : Nat} (hi : i < vs.length) : voteOk (vs.getD i default) = true := by
  simp only [votesOk, Bool.and_eq_true, List.all_eq_true] at h
  exact h.2 _ (getD_mem hi)
theorem votesOk_len {vs : List Vote} (h : votesOk vs = true) : vs.length ≤ 40 := by
  simp only [votesOk, Bool.and_eq_true, decide_eq_true_eq] at h; exact h.1
theorem impl_best (a b : List Vote) (hb : votesOk b = true) : upTo (implAt a b) (max a.length b.length) = bestN a b := by
  unfold upTo bestN
  refine List.map_congr_left fun i hi => ?_
  have hi := List.mem_range.1 hi
  have d0 : (default : Vote).bal = 0 := rfl
  unfold implAt
  split
  · rename_i h1
    by_cases hp : (b.getD i default).bal > 0
    · rw [best_b1 (by omega) (by omega) hp]
    · rw [best_d (by omega) hp]
      exact voteOk_zero (votesOk_at hb (by omega)) hp
  · rename_i h1
    split
    · rename_i h2
      by_cases h3 : i < b.length
      · rw [best_a2 (by omega) (by omega)]
      · rw [best_a1 (by omega) h3]
    · rename_i h2
      rw [best_b2 (by omega) (by omega) (by omega)]
theorem impl_accBest (a b : List Vote) : (if votesOk a && votesOk b then upTo (implAt a b) (max a.length b.length) else []) = accBest a b := by
  unfold accBest
  split
  · rename_i h
    simp only [Bool.and_eq_true] at h
    exact impl_best a b h.2
  · rfl
theorem best_all {a b : List Vote} {i : Nat} {Q : Vote → Prop} (h1 : i < b.length → (i < a.length → (b.getD i default).bal > (a.getD i default).bal) → (¬ i < a.length → (b.getD i default).bal > 0) → Q (b.getD i default))
    (h2 : i < a.length → (i < b.length → ¬ (b.getD i default).bal > (a.getD i default).bal) → Q (a.getD i default)) (h3 : ¬ i < a.length → (¬ (b.getD i default).bal > 0 ∨ ¬ i < b.length) → Q default) : Q (bestAt a b i) := by
  by_cases ha : i < a.length
  · by_cases hb : i < b.length
    · by_cases hc : (b.getD i default).bal > (a.getD i default).bal
      · rw [best_b2 ha hb hc]; exact h1 hb (fun _ => hc) fun h => absurd ha h
      · rw [best_a2 ha hc]; exact h2 ha fun _ => hc
    · rw [best_a1 ha hb]; exact h2 ha fun h => absurd h hb
  · by_cases hb : i < b.length
    · by_cases hc : (b.getD i default).bal > 0
      · rw [best_b1 ha hb hc]; exact h1 hb (fun h => absurd h ha) fun _ => hc
      · rw [best_d ha hc]; exact h3 ha (.inl hc)
    · have e : b.getD i default = default := by simp [List.getD_eq_getElem?_getD, List.getElem?_eq_none (Nat.le_of_not_lt hb)]
      rw [best_d ha (by rw [e]; exact (by decide : ¬ (0 : Int) > 0))]; exact h3 ha (.inr hb)
theorem best_ge_a {a b : List Vote} {i : Nat} (hi : i < a.length) : (a.getD i default).bal ≤ (bestAt a b i).bal :=
  best_all (Q := fun v => (a.getD i default).bal ≤ v.bal) (fun _ h _ => by have := h hi; omega) (fun _ _ => Int.le_refl _) (fun h => absurd hi h)
theorem best_ge_b {a b : List Vote} {i : Nat} (hi : i < b.length) : (b.getD i default).bal ≤ (bestAt a b i).bal :=
  best_all (Q := fun v => (b.getD i default).bal ≤ v.bal) (fun _ _ _ => Int.le_refl _) (fun _ h => by have := h hi; omega) (fun _ h => by have d0 : (default : Vote).bal = 0 := rfl; have := h.resolve_right fun g => g hi; omega)
theorem bestN_len (a b : List Vote) : (bestN a b).length = max a.length b.length := by simp [bestN]
theorem bestN_at {a b : List Vote} {i : Nat} (hi : i < (bestN a b).length) : (bestN a b).getD i default = bestAt a b i := by
  rw [bestN_len] at hi
  simp [bestN, List.getD_eq_getElem?_getD, hi]
theorem bestAt_ok {n : Nat} {a b : List Vote} (ha : VsOk n a) (hb : VsOk n b) (i : Nat) : (bestAt a b i).ok n :=
  best_all (Q := fun v => v.ok n) (fun _ _ _ => hb.get i) (fun _ _ => ha.get i) (fun _ _ => ⟨Nat.zero_le _, Nat.zero_le _⟩)
theorem accBest_ok {n : Nat} {a b : List Vote} (ha : VsOk n a) (hb : VsOk n b) : VsOk n (accBest a b) := by
  unfold accBest
  split
  · exact upTo_ok (bestAt_ok ha hb) _
  · intro v hv; cases hv
theorem accBest_len {a b : List Vote} : (accBest a b).length ≤ max a.length b.length := by
  unfold accBest
  split
  · rw [bestN_len]; exact Nat.le_refl _
  · exact Nat.zero_le _
/-- What the best of votes holds at a place. -/
theorem accBest_ge {a b : List Vote} {i : Nat} (hi : i < (accBest a b).length) : (i < a.length → (a.getD i default).bal ≤ ((accBest a b).getD i default).bal) ∧ (i < b.length → (b.getD i default).bal ≤ ((accBest a b).getD i default).bal) := by
  unfold accBest at hi ⊢
  split at hi
  · rename_i h
    rw [if_pos h, bestN_at hi]
    exact ⟨best_ge_a, best_ge_b⟩
  · simp at hi
end Mg

/- The law of AccNext, walked. No condition. -/
namespace Mg
open Go Go.RowKit
set_option maxRecDepth 100000
set_option linter.unusedVariables false
set_option linter.unusedSimpArgs false
attribute [local irreducible] W Pure Con
/- Data out of cells. -/
def Two.of : List MC → Two
  | [.sc (.int _ a), .sc (.int _ b)] => ⟨a, b⟩
  | _ => default
def rowsV : MC → List (List MC)
  | .fz rows => rows
  | _ => []
def Vote.of : List MC → Vote
  | [.sc (.int _ bal), .sc (.bool n), .sc (.int _ qa), .sc (.int _ qb), rs, ps, .sc (.int _ c), .sc (.int _ d)] => ⟨bal, ⟨n, ⟨qa, qb⟩, ⟨(rowsV rs).map Two.of, (rowsV ps).map Two.of, c, d⟩⟩⟩
  | _ => default
theorem Two.of_cells (xs : List Two) : (xs.map Two.cells).map Two.of = xs := by
  rw [List.map_map]
  have : ∀ x ∈ xs, (Two.of ∘ Two.cells) x = x := fun x _ => by obtain ⟨a, b⟩ := x; rfl
  rw [List.map_congr_left this, List.map_id']
theorem Vote.of_cells (xs : List Vote) : (xs.map Vote.cells).map Vote.of = xs := by
  rw [List.map_map]
  have : ∀ x ∈ xs, (Vote.of ∘ Vote.cells) x = x := fun x _ => by
    obtain ⟨bal, n, ⟨qa, qb⟩, rs, ps, c, d⟩ := x
    show (⟨bal, ⟨n, ⟨qa, qb⟩, ⟨(rs.map Two.cells).map Two.of, (ps.map Two.cells).map Two.of, c, d⟩⟩⟩ : Vote) = _
    rw [Two.of_cells, Two.of_cells]
  rw [List.map_congr_left this, List.map_id']
def g1 (g : Int → Int) : List MV → MV
  | [.one (.sc (.int _ a))] => oi (g a)
  | _ => .un
def g2 (g : Int → Int → Int) : List MV → MV
  | [.one (.sc (.int _ a)), .one (.sc (.int _ b))] => oi (g a b)
  | _ => .un
def sNxtD (ds : List MV) (os : List Ob) : ConT := ⟨Int × Int, fun d => (-1 ≤ d.1 ∧ d.1 ≤ 3000) ∧ -1 ≤ d.2 ∧ d.2 ≤ 3, fun d => .tup [oi d.1, oi d.2], fun _ => []⟩
def sBestD (ds : List MV) (os : List Ob) : ConT := ⟨List Vote × List Vote, fun d => (d.1.length ≤ 10 ∧ VsOk 30 d.1) ∧ d.2.length ≤ 10 ∧ VsOk 30 d.2, fun d => .tup [.one (.fz (d.1.map Vote.cells)), .one (.fz (d.2.map Vote.cells))], fun _ => []⟩
def sOwnD (ds : List MV) (os : List Ob) : ConT := ⟨Int, fun d => -1 ≤ d ∧ d ≤ 3001, fun d => oi d, fun _ => []⟩
def sAB (ds : List MV) (os : List Ob) : ConT := match ds with
  | [.one (.fz ra), .one (.fz rb)] => ⟨Unit, fun _ => True, fun _ => .one (.fz ((accBest (ra.map Vote.of) (rb.map Vote.of)).map Vote.cells)), fun _ => []⟩
  | _ => noT
theorem nxt3_spec (bal who : Int) : nxt3 bal who = -1 ∨ (0 ≤ bal ∧ bal < nxt3 bal who ∧ nxt3 bal who ≤ 3000 ∧ nxt3 bal who % 3 = who ∧ ∀ b, bal < b → b < nxt3 bal who → b % 3 ≠ who) := by
  unfold nxt3
  repeat' split
  · exact .inl rfl
  · exact .inr ⟨by omega, by omega, by omega, by omega, fun b h1 h2 => by omega⟩
  · exact .inr ⟨by omega, by omega, by omega, by omega, fun b h1 h2 h3 => by omega⟩
  · exact .inr ⟨by omega, by omega, by omega, by omega, fun b h1 h2 h3 => by omega⟩
  · exact .inl rfl
theorem own3_in {b : Int} (h1 : 1 ≤ b) (h2 : b ≤ 3000) : own3 b = b % 3 := by
  unfold own3; rw [if_pos (inr_iff.2 ⟨h1, h2⟩)]
theorem VsOk.lim {vs : List Vote} (h : VsOk 30 vs) : VsOk lim vs := fun v hv => ⟨Nat.le_trans (h v hv).1 (by decide), Nat.le_trans (h v hv).2 (by decide)⟩
theorem bad1 {bal who : Int} (h1 : nxt3 bal who ≥ 0) (h2 : nxt3 bal who ≤ bal) : False := by
  rcases nxt3_spec bal who with h | ⟨_, h, _⟩ <;> omega
theorem bad2 {bal who : Int} (h1 : nxt3 bal who ≥ 0) (h2 : ¬ own3 (nxt3 bal who) = who) : False := by
  rcases nxt3_spec bal who with h | ⟨h3, h4, h5, h6, _⟩
  · omega
  · exact h2 (by rw [own3_in (by omega) h5]; exact h6)
theorem bad3 {bal who b : Int} (hb : -1 ≤ bal) (h0 : bal < b) (h1 : b < nxt3 bal who) (h2 : own3 b = who) : False := by
  rcases nxt3_spec bal who with h | ⟨h3, h4, h5, h6, h7⟩
  · omega
  · rw [own3_in (by omega) (by omega)] at h2
    exact h7 b h0 h1 h2
theorem bestBad1 {a b : List Vote} {i : Nat} (hi : i < (accBest a b).length) (ha : i < a.length) (h : ((accBest a b).getD i default).bal < (a.getD i default).bal) : False := by
  have := (accBest_ge hi).1 ha; omega
theorem bestBad2 {a b : List Vote} {i : Nat} (hi : i < (accBest a b).length) (ha : i < b.length) (h : ((accBest a b).getD i default).bal < (b.getD i default).bal) : False := by
  have := (accBest_ge hi).2 ha; omega
def D2ok (d : List Vote × List Vote) : Prop := (d.1.length ≤ 10 ∧ VsOk 30 d.1) ∧ d.2.length ≤ 10 ∧ VsOk 30 d.2
theorem c_ab_impl (d : List Vote × List Vote) (hd : (d.1.length ≤ 10 ∧ VsOk 30 d.1) ∧ d.2.length ≤ 10 ∧ VsOk 30 d.2) : Con PP 19 [.one (.fz (d.1.map Vote.cells)), .one (.fz (d.2.map Vote.cells))] [] 0
    (fun _ : Unit => True) (fun _ => .one (.fz ((accBest d.1 d.2).map Vote.cells))) (fun _ => []) := by
  have := c_impl_AccBest d.1 d.2 (by omega) (by omega) hd.1.2.lim hd.2.2.lim
  rw [impl_accBest] at this
  exact this
theorem c_ab_spec (d : List Vote × List Vote) (hd : (d.1.length ≤ 10 ∧ VsOk 30 d.1) ∧ d.2.length ≤ 10 ∧ VsOk 30 d.2) : Con PP 20 [.one (.fz (d.1.map Vote.cells)), .one (.fz (d.2.map Vote.cells))] [] 0
    (fun _ : Unit => True) (fun _ => .one (.fz ((accBest d.1 d.2).map Vote.cells))) (fun _ => []) := c_spec_AccBest d.1 d.2 (by omega) (by omega) hd.1.2.lim hd.2.2.lim
set_option maxHeartbeats 16000000 in
theorem c_FnAccNext (bs : List Int) (hb : Code8 bs) : Con PP 8 [.one (.fz (bs.map u8))] [] 0 (fun _ : Unit => True) (fun _ => ob true) (fun _ => []) := by
  refine Con.vc [(18, .con false [] [] [] sNxtD), (23, .resf (g2 nxt3)), (27, .resf (g2 nxt3)), (38, .resf (g1 own3)), (57, .con false [] [] [] sBestD), (62, .con false [] [] [] sAB), (65, .con false [] [] [] sAB), (141, .con false [] [] [] sOwnD), (143, .resf (g1 own3)), (145, .resf (g1 own3))] TTok hmo Go.Proofs.Try.func8 rfl (by kernel_rfl) rfl (by kernel_rfl) ?_
  repeat' (first | refine And.intro ?_ ?_ | exact tf | exact ft | refine tt ?_ | refine ff ?_ | exact ⟨trivial⟩ | exact sAll rfl | exact sF1 rfl | exact sBld (by repeat' (first | exact trivial | rfl | exact Nat.le_of_ble_eq_true rfl | refine And.intro ?_ ?_)) rfl | exact sBS (by repeat' (first | exact trivial | rfl | exact Nat.le_of_ble_eq_true rfl | refine And.intro ?_ ?_)) rfl rfl rfl rfl | exact sBSF (by repeat' (first | exact trivial | rfl | exact Nat.le_of_ble_eq_true rfl | refine And.intro ?_ ?_)) rfl rfl rfl rfl | exact sLe rfl | exact Chk.mk (by kernel_rfl) | exact ⟨Chk.mk (by kernel_rfl)⟩ | exact sLeEq rfl rfl | refine fun h => ?_)
  all_goals try dsimp only [sNxtD, g1, g2] at *
  all_goals try (first | exact ⟨trivial, trivial⟩ | exact ⟨Nat.le_of_ble_eq_true rfl, trivial⟩ | exact ⟨trivial, Nat.le_of_ble_eq_true rfl, trivial⟩ | exact ⟨Nat.le_of_ble_eq_true rfl, trivial, trivial⟩)
  all_goals try (exact ⟨fun _ _ => trivial⟩)
  all_goals try (exact ⟨c_DrawAccNext bs hb⟩)
  all_goals try (exact ⟨⟨trivial, trivial, trivial⟩, c_impl_AccNext _ _ ⟨by omega, by omega⟩⟩)
  all_goals try (exact ⟨⟨trivial, trivial, trivial⟩, c_spec_AccNext _ _ ⟨by omega, by omega⟩⟩)
  all_goals try (exact ⟨⟨trivial, trivial⟩, c_impl_AccOwner _⟩)
  all_goals simp only [decide_eq_true_eq, decide_eq_false_iff_not, List.length_map, Bool.not_eq_true', Bool.not_eq_false', Bool.not_eq_eq_eq_not, Bool.not_true, Bool.not_false, bne_iff_ne, ne_eq, bne_eq_false_iff_eq, beq_iff_eq, beq_eq_false_iff_ne] at *
  all_goals try (exact (bad1 (by assumption) (by assumption)).elim)
  all_goals try (exact (bad2 (by assumption) (by assumption)).elim)
  · apply exU'; refine ⟨[], [], trivial, ?_⟩
    repeat' (first | exact trivial | exact ⟨trivial⟩ | exact Side.mk rfl | exact sF1 rfl | exact Chk.mk (by kernel_rfl) | exact ⟨Chk.mk (by kernel_rfl)⟩ | refine And.intro ?_ ?_ | rfl)
  · rename_i d hd _ _ _ _
    rcases d with ⟨bal, who⟩
    dsimp only at *
    have hn : nxt3 bal who ≤ 3000 := by rcases nxt3_spec bal who with h | ⟨_, _, h, _⟩ <;> omega
    refine W.loopC (D := Int) (fun b => [(52, .resf (g1 own3))]) TTok hmo (fun b => ⟨147, 0, [(0, .one (.fz (bs.map u8))), (3, oi bal), (4, oi who), (5, oi (nxt3 bal who)), (6, oi b)], []⟩) (fun b => (nxt3 bal who - b).toNat) (fun b => bal < b ∧ b ≤ 3001) (bal + 1) [] ⟨by omega, by omega⟩ ?_ ?_
    · repeat' (first | exact trivial | exact ⟨trivial⟩ | exact Side.mk rfl | exact sF1 rfl | exact Chk.mk (by kernel_rfl) | exact ⟨Chk.mk (by kernel_rfl)⟩ | exact ⟨by rw [wrapi] <;> omega⟩ | exact ⟨by dsimp only; rw [wrapi] <;> omega⟩ | refine And.intro ?_ ?_ | rfl)
    · intro b ⟨hb1, hb2⟩
      repeat' (first | refine And.intro ?_ ?_ | exact tf | exact ft | refine tt ?_ | refine ff ?_ | exact ⟨trivial⟩ | exact sAll rfl | exact sF1 rfl | exact sBld (by repeat' (first | exact trivial | rfl | exact Nat.le_of_ble_eq_true rfl | refine And.intro ?_ ?_)) rfl | exact sBS (by repeat' (first | exact trivial | rfl | exact Nat.le_of_ble_eq_true rfl | refine And.intro ?_ ?_)) rfl rfl rfl rfl | exact sBSF (by repeat' (first | exact trivial | rfl | exact Nat.le_of_ble_eq_true rfl | refine And.intro ?_ ?_)) rfl rfl rfl rfl | exact sLe rfl | exact Chk.mk (by kernel_rfl) | exact ⟨Chk.mk (by kernel_rfl)⟩ | exact sLeEq rfl rfl | refine fun h => ?_)
      all_goals try dsimp only [sBestD, sAB, sOwnD, g1] at *
      all_goals try simp only [Vote.of_cells] at *
      all_goals try (first | exact ⟨trivial, trivial⟩ | exact ⟨Nat.le_of_ble_eq_true rfl, trivial⟩ | exact ⟨trivial, Nat.le_of_ble_eq_true rfl, trivial⟩ | exact ⟨Nat.le_of_ble_eq_true rfl, trivial, trivial⟩)
      all_goals try (exact ⟨fun _ _ => trivial⟩)
      all_goals try (exact ⟨⟨trivial, trivial⟩, c_impl_AccOwner _⟩)
      all_goals try (exact ⟨c_DrawAccBest bs hb⟩)
      all_goals try (exact ⟨c_ab_impl _ (by assumption)⟩)
      all_goals try (exact ⟨c_ab_spec _ (by assumption)⟩)
      all_goals simp only [decide_eq_true_eq, decide_eq_false_iff_not, List.length_map, Bool.not_eq_true', Bool.not_eq_false', Bool.not_eq_eq_eq_not, Bool.not_true, Bool.not_false, bne_iff_ne, ne_eq, bne_eq_false_iff_eq, beq_iff_eq, beq_eq_false_iff_ne] at *
      all_goals try (exact (bad3 hd.1.1 hb1 (by assumption) (by assumption)).elim)
      · refine ⟨b + 1, [], by omega, ⟨by omega, by omega⟩, ?_⟩
        repeat' (first | exact trivial | exact ⟨trivial⟩ | exact Side.mk rfl | exact sF1 rfl | exact Chk.mk (by kernel_rfl) | exact ⟨Chk.mk (by kernel_rfl)⟩ | exact ⟨by rw [wrapi] <;> omega⟩ | exact ⟨by dsimp only; rw [wrapi] <;> omega⟩ | refine And.intro ?_ ?_ | rfl)
      · exact absurd trivial h
      · rename_i d2 _ _ _ _ _ _
        rcases d2 with ⟨a, c⟩
        dsimp only at *
        have hd2 : (a.length ≤ 10 ∧ VsOk 30 a) ∧ c.length ≤ 10 ∧ VsOk 30 c := by assumption
        have hlen := accBest_len (a := a) (b := c)
        have hXok := (accBest_ok hd2.1.2.lim hd2.2.2.lim)
        have hbest := fun (i : Nat) (hi : i < (accBest a c).length) => accBest_ge hi
        generalize hX : accBest a c = X at *
        refine W.loopC (D := Nat) (fun i => [(79, .row (X.getD i default).cells), (84, .row (X.getD i default).cells), (91, .row (X.getD i default).cells), (96, .row (X.getD i default).cells), (110, .row (X.getD i default).cells), (129, .row (X.getD i default).cells), (115, .row (a.getD i default).cells), (134, .row (c.getD i default).cells), (99, .res (ob (decide ((X.getD i default).e = (X.getD i default).e))))]) TTok hmo
          (fun i => ⟨147, 0, [(0, .one (.fz (bs.map u8))), (7, .one (.fz (a.map Vote.cells))), (8, .one (.fz (c.map Vote.cells))), (9, .one (.fz (X.map Vote.cells))), (10, .one (.fz (X.map Vote.cells))), (11, oi i)], []⟩) (fun i => X.length - i) (fun i => i ≤ X.length) 0 [] (Nat.zero_le _) ?_ ?_
        · repeat' (first | exact trivial | exact ⟨trivial⟩ | exact Side.mk rfl | exact sF1 rfl | exact Chk.mk (by kernel_rfl) | exact ⟨Chk.mk (by kernel_rfl)⟩ | refine And.intro ?_ ?_ | rfl)
        · intro i hi
          repeat' (first | refine And.intro ?_ ?_ | exact tf | exact ft | refine tt ?_ | refine ff ?_ | exact ⟨trivial⟩ | exact sAll rfl | exact sF1 rfl | exact sBld (by repeat' (first | exact trivial | rfl | exact Nat.le_of_ble_eq_true rfl | refine And.intro ?_ ?_)) rfl | exact sBS (by repeat' (first | exact trivial | rfl | exact Nat.le_of_ble_eq_true rfl | refine And.intro ?_ ?_)) rfl rfl rfl rfl | exact sBSF (by repeat' (first | exact trivial | rfl | exact Nat.le_of_ble_eq_true rfl | refine And.intro ?_ ?_)) rfl rfl rfl rfl | exact sLe rfl | exact Chk.mk (by kernel_rfl) | exact ⟨Chk.mk (by kernel_rfl)⟩ | exact sLeEq rfl rfl | exact sAnd (by repeat' constructor) (c_impl_CertLike _ _ (hXok.get i) (hXok.get i)) | refine fun h => ?_)
          all_goals try dsimp only [sOwnD, g1] at *
          all_goals simp only [decide_eq_true_eq, decide_eq_false_iff_not, List.length_map, Bool.not_eq_true', Bool.not_eq_false', Bool.not_eq_eq_eq_not, Bool.not_true, Bool.not_false, bne_iff_ne, ne_eq, bne_eq_false_iff_eq, beq_iff_eq, beq_eq_false_iff_ne] at *
          all_goals try (exact sRow (by omega) (by rw [Int.toNat_natCast, List.getElem?_map, List.getD_eq_getElem?_getD, List.getElem?_eq_getElem (by omega)]; rfl) rfl)
          all_goals try (first | exact ⟨trivial, trivial⟩ | exact ⟨Nat.le_of_ble_eq_true rfl, trivial⟩ | exact ⟨trivial, Nat.le_of_ble_eq_true rfl, trivial⟩ | exact ⟨Nat.le_of_ble_eq_true rfl, trivial, trivial⟩)
          all_goals try (exact ⟨fun _ _ => trivial⟩)
          all_goals try (exact ⟨c_DrawAccOwner bs hb⟩)
          all_goals try (exact ⟨⟨trivial, trivial⟩, c_impl_AccOwner _⟩)
          all_goals try (exact ⟨⟨trivial, trivial⟩, c_spec_AccOwner _⟩)
          all_goals try (exact absurd trivial ‹¬ True›)
          all_goals try (have hbi := hbest i (by omega))
          all_goals try (exfalso; have h3 := hbi.1 (by omega); omega)
          all_goals try (exfalso; have h3 := hbi.2 (by omega); omega)
          all_goals first
            | (apply exU'; refine ⟨[], [], trivial, ?_⟩; repeat' (first | exact trivial | exact ⟨trivial⟩ | exact Side.mk rfl | exact sF1 rfl | exact Chk.mk (by kernel_rfl) | exact ⟨Chk.mk (by kernel_rfl)⟩ | exact ⟨by simp⟩ | refine And.intro ?_ ?_ | rfl))
            | (refine ⟨i + 1, [], by omega, by omega, ?_⟩; repeat' (first | exact trivial | exact ⟨trivial⟩ | exact Side.mk rfl | exact sF1 rfl | exact Chk.mk (by kernel_rfl) | exact ⟨Chk.mk (by kernel_rfl)⟩ | exact ⟨by rw [wrapi] <;> omega⟩ | exact ⟨by dsimp only; rw [wrapi] <;> omega⟩ | refine And.intro ?_ ?_ | rfl))
            | skip
  · rename_i d hd _ _
    rcases d with ⟨bal, who⟩
    dsimp only at *
    have hn : nxt3 bal who ≤ 3000 := by rcases nxt3_spec bal who with h | ⟨_, _, h, _⟩ <;> omega
    refine W.loopC (D := Int) (fun b => [(52, .resf (g1 own3))]) TTok hmo (fun b => ⟨147, 0, [(0, .one (.fz (bs.map u8))), (3, oi bal), (4, oi who), (5, oi (nxt3 bal who)), (6, oi b)], []⟩) (fun b => (nxt3 bal who - b).toNat) (fun b => bal < b ∧ b ≤ 3001) (bal + 1) [] ⟨by omega, by omega⟩ ?_ ?_
    · repeat' (first | exact trivial | exact ⟨trivial⟩ | exact Side.mk rfl | exact sF1 rfl | exact Chk.mk (by kernel_rfl) | exact ⟨Chk.mk (by kernel_rfl)⟩ | exact ⟨by rw [wrapi] <;> omega⟩ | exact ⟨by dsimp only; rw [wrapi] <;> omega⟩ | refine And.intro ?_ ?_ | rfl)
    · intro b ⟨hb1, hb2⟩
      repeat' (first | refine And.intro ?_ ?_ | exact tf | exact ft | refine tt ?_ | refine ff ?_ | exact ⟨trivial⟩ | exact sAll rfl | exact sF1 rfl | exact sBld (by repeat' (first | exact trivial | rfl | exact Nat.le_of_ble_eq_true rfl | refine And.intro ?_ ?_)) rfl | exact sBS (by repeat' (first | exact trivial | rfl | exact Nat.le_of_ble_eq_true rfl | refine And.intro ?_ ?_)) rfl rfl rfl rfl | exact sBSF (by repeat' (first | exact trivial | rfl | exact Nat.le_of_ble_eq_true rfl | refine And.intro ?_ ?_)) rfl rfl rfl rfl | exact sLe rfl | exact Chk.mk (by kernel_rfl) | exact ⟨Chk.mk (by kernel_rfl)⟩ | exact sLeEq rfl rfl | refine fun h => ?_)
      all_goals try dsimp only [sBestD, sAB, sOwnD, g1] at *
      all_goals try simp only [Vote.of_cells] at *
      all_goals try (first | exact ⟨trivial, trivial⟩ | exact ⟨Nat.le_of_ble_eq_true rfl, trivial⟩ | exact ⟨trivial, Nat.le_of_ble_eq_true rfl, trivial⟩ | exact ⟨Nat.le_of_ble_eq_true rfl, trivial, trivial⟩)
      all_goals try (exact ⟨fun _ _ => trivial⟩)
      all_goals try (exact ⟨⟨trivial, trivial⟩, c_impl_AccOwner _⟩)
      all_goals try (exact ⟨c_DrawAccBest bs hb⟩)
      all_goals try (exact ⟨c_ab_impl _ (by assumption)⟩)
      all_goals try (exact ⟨c_ab_spec _ (by assumption)⟩)
      all_goals simp only [decide_eq_true_eq, decide_eq_false_iff_not, List.length_map, Bool.not_eq_true', Bool.not_eq_false', Bool.not_eq_eq_eq_not, Bool.not_true, Bool.not_false, bne_iff_ne, ne_eq, bne_eq_false_iff_eq, beq_iff_eq, beq_eq_false_iff_ne] at *
      all_goals try (exact (bad3 hd.1.1 hb1 (by assumption) (by assumption)).elim)
      · refine ⟨b + 1, [], by omega, ⟨by omega, by omega⟩, ?_⟩
        repeat' (first | exact trivial | exact ⟨trivial⟩ | exact Side.mk rfl | exact sF1 rfl | exact Chk.mk (by kernel_rfl) | exact ⟨Chk.mk (by kernel_rfl)⟩ | exact ⟨by rw [wrapi] <;> omega⟩ | exact ⟨by dsimp only; rw [wrapi] <;> omega⟩ | refine And.intro ?_ ?_ | rfl)
      · exact absurd trivial h
      · rename_i d2 _ _ _ _ _ _
        rcases d2 with ⟨a, c⟩
        dsimp only at *
        have hd2 : (a.length ≤ 10 ∧ VsOk 30 a) ∧ c.length ≤ 10 ∧ VsOk 30 c := by assumption
        have hlen := accBest_len (a := a) (b := c)
        have hXok := (accBest_ok hd2.1.2.lim hd2.2.2.lim)
        have hbest := fun (i : Nat) (hi : i < (accBest a c).length) => accBest_ge hi
        generalize hX : accBest a c = X at *
        refine W.loopC (D := Nat) (fun i => [(79, .row (X.getD i default).cells), (84, .row (X.getD i default).cells), (91, .row (X.getD i default).cells), (96, .row (X.getD i default).cells), (110, .row (X.getD i default).cells), (129, .row (X.getD i default).cells), (115, .row (a.getD i default).cells), (134, .row (c.getD i default).cells), (99, .res (ob (decide ((X.getD i default).e = (X.getD i default).e))))]) TTok hmo
          (fun i => ⟨147, 0, [(0, .one (.fz (bs.map u8))), (7, .one (.fz (a.map Vote.cells))), (8, .one (.fz (c.map Vote.cells))), (9, .one (.fz (X.map Vote.cells))), (10, .one (.fz (X.map Vote.cells))), (11, oi i)], []⟩) (fun i => X.length - i) (fun i => i ≤ X.length) 0 [] (Nat.zero_le _) ?_ ?_
        · repeat' (first | exact trivial | exact ⟨trivial⟩ | exact Side.mk rfl | exact sF1 rfl | exact Chk.mk (by kernel_rfl) | exact ⟨Chk.mk (by kernel_rfl)⟩ | refine And.intro ?_ ?_ | rfl)
        · intro i hi
          repeat' (first | refine And.intro ?_ ?_ | exact tf | exact ft | refine tt ?_ | refine ff ?_ | exact ⟨trivial⟩ | exact sAll rfl | exact sF1 rfl | exact sBld (by repeat' (first | exact trivial | rfl | exact Nat.le_of_ble_eq_true rfl | refine And.intro ?_ ?_)) rfl | exact sBS (by repeat' (first | exact trivial | rfl | exact Nat.le_of_ble_eq_true rfl | refine And.intro ?_ ?_)) rfl rfl rfl rfl | exact sBSF (by repeat' (first | exact trivial | rfl | exact Nat.le_of_ble_eq_true rfl | refine And.intro ?_ ?_)) rfl rfl rfl rfl | exact sLe rfl | exact Chk.mk (by kernel_rfl) | exact ⟨Chk.mk (by kernel_rfl)⟩ | exact sLeEq rfl rfl | exact sAnd (by repeat' constructor) (c_impl_CertLike _ _ (hXok.get i) (hXok.get i)) | refine fun h => ?_)
          all_goals try dsimp only [sOwnD, g1] at *
          all_goals simp only [decide_eq_true_eq, decide_eq_false_iff_not, List.length_map, Bool.not_eq_true', Bool.not_eq_false', Bool.not_eq_eq_eq_not, Bool.not_true, Bool.not_false, bne_iff_ne, ne_eq, bne_eq_false_iff_eq, beq_iff_eq, beq_eq_false_iff_ne] at *
          all_goals try (exact sRow (by omega) (by rw [Int.toNat_natCast, List.getElem?_map, List.getD_eq_getElem?_getD, List.getElem?_eq_getElem (by omega)]; rfl) rfl)
          all_goals try (first | exact ⟨trivial, trivial⟩ | exact ⟨Nat.le_of_ble_eq_true rfl, trivial⟩ | exact ⟨trivial, Nat.le_of_ble_eq_true rfl, trivial⟩ | exact ⟨Nat.le_of_ble_eq_true rfl, trivial, trivial⟩)
          all_goals try (exact ⟨fun _ _ => trivial⟩)
          all_goals try (exact ⟨c_DrawAccOwner bs hb⟩)
          all_goals try (exact ⟨⟨trivial, trivial⟩, c_impl_AccOwner _⟩)
          all_goals try (exact ⟨⟨trivial, trivial⟩, c_spec_AccOwner _⟩)
          all_goals try (exact absurd trivial ‹¬ True›)
          all_goals try (have hbi := hbest i (by omega))
          all_goals try (exfalso; have h3 := hbi.1 (by omega); omega)
          all_goals try (exfalso; have h3 := hbi.2 (by omega); omega)
          all_goals first
            | (apply exU'; refine ⟨[], [], trivial, ?_⟩; repeat' (first | exact trivial | exact ⟨trivial⟩ | exact Side.mk rfl | exact sF1 rfl | exact Chk.mk (by kernel_rfl) | exact ⟨Chk.mk (by kernel_rfl)⟩ | exact ⟨by simp⟩ | refine And.intro ?_ ?_ | rfl))
            | (refine ⟨i + 1, [], by omega, by omega, ?_⟩; repeat' (first | exact trivial | exact ⟨trivial⟩ | exact Side.mk rfl | exact sF1 rfl | exact Chk.mk (by kernel_rfl) | exact ⟨Chk.mk (by kernel_rfl)⟩ | exact ⟨by rw [wrapi] <;> omega⟩ | exact ⟨by dsimp only; rw [wrapi] <;> omega⟩ | refine And.intro ?_ ?_ | rfl))
            | skip
  all_goals exact absurd trivial h
end Mg

/- The law of AccMerge, walked. No condition. -/
namespace Mg
open Go Go.RowKit
set_option maxRecDepth 100000
set_option linter.unusedVariables false
set_option linter.unusedSimpArgs false
attribute [local irreducible] W Pure Con
theorem getD_none {a : List Vote} {i : Nat} (h : ¬ i < a.length) : a.getD i default = default := by simp [List.getD_eq_getElem?_getD, List.getElem?_eq_none (Nat.le_of_not_lt h)]
theorem votesOk_nn {a : List Vote} (h : votesOk a = true) (i : Nat) : 0 ≤ (a.getD i default).bal := by
  by_cases hi : i < a.length
  · have := votesOk_at h hi
    unfold voteOk at this
    split at this
    · omega
    · simp only [inr, Bool.and_eq_true, decide_eq_true_eq] at this; omega
  · rw [getD_none hi]; exact Int.le_refl 0
theorem best_bal {a b : List Vote} (ha : votesOk a = true) (i : Nat) : (bestAt a b i).bal = max (a.getD i default).bal (b.getD i default).bal := by
  have hn := votesOk_nn ha i
  have d0 : (default : Vote).bal = 0 := rfl
  refine best_all (Q := fun v => v.bal = max (a.getD i default).bal (b.getD i default).bal) (fun h1 h2 h3 => ?_) (fun h1 h2 => ?_) (fun h1 h2 => ?_)
  · by_cases hi : i < a.length
    · have := h2 hi; omega
    · have := h3 hi; rw [getD_none hi] at *; omega
  · by_cases hi : i < b.length
    · have := h2 hi; omega
    · rw [getD_none hi]; omega
  · rw [getD_none h1] at *
    rcases h2 with h2 | h2
    · omega
    · rw [getD_none h2]; rfl
theorem accBest_nil {a b : List Vote} (h : 0 < (accBest a b).length) : votesOk a = true ∧ votesOk b = true ∧ accBest a b = bestN a b := by
  unfold accBest at h ⊢
  split at h
  · rename_i hh
    rw [if_pos hh]
    simp only [Bool.and_eq_true] at hh
    exact ⟨hh.1, hh.2, rfl⟩
  · simp at h
theorem bestN_bal {a b : List Vote} (ha : votesOk a = true) {i : Nat} : ((bestN a b).getD i default).bal = max (a.getD i default).bal (b.getD i default).bal ∨ ¬ i < (bestN a b).length := by
  by_cases hi : i < (bestN a b).length
  · rw [bestN_at hi]; exact .inl (best_bal ha i)
  · exact .inr hi
theorem acc_bal {u v : List Vote} (hu : votesOk u = true) (hv : votesOk v = true) (i : Nat) : ((accBest u v).getD i default).bal = max (u.getD i default).bal (v.getD i default).bal := by
  have e : accBest u v = bestN u v := by unfold accBest; rw [if_pos (by rw [hu, hv]; rfl)]
  rw [e]
  rcases bestN_bal (b := v) hu (i := i) with h | h
  · exact h
  · have hl := bestN_len u v
    rw [getD_none h, getD_none (a := u) (by omega), getD_none (a := v) (by omega)]; rfl
/-- However three are merged, the ballots are the same. -/
theorem merge_bal {a b c : List Vote} {i : Nat} (h0 : 0 < (accBest a b).length) (h1 : i < (accBest (accBest a b) c).length) (h2 : (accBest a (accBest b c)).length = (accBest (accBest a b) c).length) :
    ((accBest (accBest a b) c).getD i default).bal = ((accBest a (accBest b c)).getD i default).bal := by
  obtain ⟨ha, hb, _⟩ := accBest_nil h0
  obtain ⟨g1, g2, _⟩ := accBest_nil (a := accBest a b) (b := c) (by omega)
  obtain ⟨_, k2, _⟩ := accBest_nil (a := a) (b := accBest b c) (by omega)
  rw [acc_bal g1 g2, acc_bal ha k2, acc_bal ha hb, acc_bal hb g2]
  omega
theorem self_at {a : List Vote} {i : Nat} (h : i < (accBest a a).length) : (accBest a a).getD i default = a.getD i default := by
  obtain ⟨ha, _, e⟩ := accBest_nil (a := a) (b := a) (by omega)
  rw [e] at h ⊢
  rw [bestN_at h]
  have hl := bestN_len a a
  exact best_a2 (by omega) (by omega)
def V40 (a : List Vote) : Prop := a.length ≤ 40 ∧ VsOk lim a
theorem V40.best {a b : List Vote} (ha : V40 a) (hb : V40 b) : V40 (accBest a b) := ⟨Nat.le_trans accBest_len (Nat.max_le.2 ⟨ha.1, hb.1⟩), accBest_ok ha.2 hb.2⟩
theorem v1 {d : List Vote × List Vote} (h : (d.1.length ≤ 10 ∧ VsOk 30 d.1) ∧ d.2.length ≤ 10 ∧ VsOk 30 d.2) : V40 d.1 := ⟨by omega, h.1.2.lim⟩
theorem v2 {d : List Vote × List Vote} (h : (d.1.length ≤ 10 ∧ VsOk 30 d.1) ∧ d.2.length ≤ 10 ∧ VsOk 30 d.2) : V40 d.2 := ⟨by omega, h.2.2.lim⟩
theorem c_abI (a b : List Vote) (ha : V40 a) (hb : V40 b) : Con PP 19 [.one (.fz (a.map Vote.cells)), .one (.fz (b.map Vote.cells))] [] 0 (fun _ : Unit => True) (fun _ => .one (.fz ((accBest a b).map Vote.cells))) (fun _ => []) := by
  have h1 := ha.1
  have h2 := hb.1
  have := c_impl_AccBest a b (by omega) (by omega) ha.2 hb.2
  rw [impl_accBest] at this
  exact this
theorem c_abS (a b : List Vote) (ha : V40 a) (hb : V40 b) : Con PP 20 [.one (.fz (a.map Vote.cells)), .one (.fz (b.map Vote.cells))] [] 0 (fun _ : Unit => True) (fun _ => .one (.fz ((accBest a b).map Vote.cells))) (fun _ => []) := by
  have h1 := ha.1
  have h2 := hb.1
  exact c_spec_AccBest a b (by omega) (by omega) ha.2 hb.2
set_option maxHeartbeats 16000000 in
theorem c_FnAccMerge (bs ms : List Int) (hb : Code8 bs) (hm : Code8 ms) : Con PP 4 [.one (.fz (bs.map u8)), .one (.fz (ms.map u8))] [] 0 (fun _ : Unit => True) (fun _ => ob true) (fun _ => []) := by
  refine Con.vc [(25, .con false [] [] [] sBestD), (30, .con false [] [] [] sBestD), (35, .con false [] [] [] sAB), (40, .con false [] [] [] sAB), (45, .con false [] [] [] sAB), (49, .con false [] [] [] sAB), (50, .con false [] [] [] sAB), (53, .con false [] [] [] sAB)] TTok hmo Go.Proofs.Try.func4 rfl (by kernel_rfl) rfl (by kernel_rfl) ?_
  repeat' (first | refine And.intro ?_ ?_ | exact tf | exact ft | refine tt ?_ | refine ff ?_ | exact ⟨trivial⟩ | exact sAll rfl | exact sF1 rfl | exact sBld (by repeat' (first | exact trivial | rfl | exact Nat.le_of_ble_eq_true rfl | refine And.intro ?_ ?_)) rfl | exact sBS (by repeat' (first | exact trivial | rfl | exact Nat.le_of_ble_eq_true rfl | refine And.intro ?_ ?_)) rfl rfl rfl rfl | exact sBSF (by repeat' (first | exact trivial | rfl | exact Nat.le_of_ble_eq_true rfl | refine And.intro ?_ ?_)) rfl rfl rfl rfl | exact sLe rfl | exact Chk.mk (by kernel_rfl) | exact ⟨Chk.mk (by kernel_rfl)⟩ | exact sLeEq rfl rfl | refine fun h => ?_)
  all_goals try dsimp only [sBestD, sAB] at *
  all_goals try simp only [Vote.of_cells] at *
  all_goals try (exact ⟨fun _ _ => trivial⟩)
  all_goals try (exact ⟨c_DrawAccBest bs hb⟩)
  all_goals try (exact ⟨c_DrawAccBest ms hm⟩)
  all_goals try (exact ⟨c_abI _ _ (by first | exact v1 (by assumption) | exact V40.best (v1 (by assumption)) (v2 (by assumption))) (by first | exact v1 (by assumption) | exact v2 (by assumption) | exact V40.best (v2 (by assumption)) (v1 (by assumption)))⟩)
  all_goals try (exact ⟨c_abI _ _ (v2 (by assumption)) (v1 (by assumption))⟩)
  all_goals try (exact ⟨c_abS _ _ (v1 (by assumption)) (v2 (by assumption))⟩)
  all_goals try (first | exact ⟨trivial, trivial⟩ | exact ⟨Nat.le_of_ble_eq_true rfl, trivial⟩ | exact ⟨trivial, Nat.le_of_ble_eq_true rfl, trivial⟩ | exact ⟨Nat.le_of_ble_eq_true rfl, trivial, trivial⟩)
  all_goals try (exact ⟨trivial, trivial, trivial⟩)
  all_goals simp only [decide_eq_true_eq, decide_eq_false_iff_not, List.length_map, Bool.not_eq_true', Bool.not_eq_false', Bool.not_eq_eq_eq_not, Bool.not_true, Bool.not_false, bne_iff_ne, ne_eq, bne_eq_false_iff_eq, beq_iff_eq, beq_eq_false_iff_ne] at *
  all_goals try (exact absurd trivial ‹¬ True›)
  all_goals try (apply exU'; refine ⟨[], [], trivial, ?_⟩; focus (repeat' (first | exact trivial | exact ⟨trivial⟩ | exact Side.mk rfl | exact sF1 rfl | exact Chk.mk (by kernel_rfl) | exact ⟨Chk.mk (by kernel_rfl)⟩ | refine And.intro ?_ ?_ | rfl)))
  · rename_i d1 hd1 d2 hd2 _ _ _ _ _ _ _ _ _ _ _ _ _ _ _ hx0
    rcases d1 with ⟨a, b⟩
    rcases d2 with ⟨c, c2⟩
    dsimp only at *
    have Va : V40 a := v1 (d := (a, b)) hd1
    have Vb : V40 b := v2 (d := (a, b)) hd1
    have Vc : V40 c := v1 (d := (c, c2)) hd2
    have hm' := fun (i : Nat) => merge_bal (a := a) (b := b) (c := c) (i := i) (by omega)
    have hs' := fun (i : Nat) (h : i < (accBest a a).length) => self_at (a := a) (i := i) h
    have Vp := (Va.best Vb).best Vc
    have Vs := Va.best Va
    have lp := Vp.1
    have ls := Vs.1
    have lsa : (accBest a a).length ≤ a.length := by have := accBest_len (a := a) (b := a); omega
    generalize hp : accBest (accBest a b) c = p at *
    generalize hq : accBest a (accBest b c) = q at *
    generalize hs : accBest a a = s at *
    refine W.loopC (D := Nat) (fun i => [(77, .row (p.getD i default).cells), (82, .row (q.getD i default).cells)]) TTok hmo
      (fun i => ⟨117, 0, [(5, .one (.fz (a.map Vote.cells))), (10, .one (.fz (p.map Vote.cells))), (11, .one (.fz (q.map Vote.cells))), (12, .one (.fz (s.map Vote.cells))), (13, oi i)], []⟩) (fun i => p.length - i) (fun i => i ≤ p.length) 0 [] (Nat.zero_le _) ?_ ?_
    · repeat' (first | exact trivial | exact ⟨trivial⟩ | exact Side.mk rfl | exact sF1 rfl | exact Chk.mk (by kernel_rfl) | exact ⟨Chk.mk (by kernel_rfl)⟩ | refine And.intro ?_ ?_ | rfl)
    · intro i hi
      repeat' (first | refine And.intro ?_ ?_ | exact tf | exact ft | refine tt ?_ | refine ff ?_ | exact ⟨trivial⟩ | exact sAll rfl | exact sF1 rfl | exact sBld (by repeat' (first | exact trivial | rfl | exact Nat.le_of_ble_eq_true rfl | refine And.intro ?_ ?_)) rfl | exact sBS (by repeat' (first | exact trivial | rfl | exact Nat.le_of_ble_eq_true rfl | refine And.intro ?_ ?_)) rfl rfl rfl rfl | exact sBSF (by repeat' (first | exact trivial | rfl | exact Nat.le_of_ble_eq_true rfl | refine And.intro ?_ ?_)) rfl rfl rfl rfl | exact sLe rfl | exact Chk.mk (by kernel_rfl) | exact ⟨Chk.mk (by kernel_rfl)⟩ | exact sLeEq rfl rfl | refine fun h => ?_)
      all_goals simp only [decide_eq_true_eq, decide_eq_false_iff_not, List.length_map, Bool.not_eq_true', Bool.not_eq_false', Bool.not_eq_eq_eq_not, Bool.not_true, Bool.not_false, bne_iff_ne, ne_eq, bne_eq_false_iff_eq, beq_iff_eq, beq_eq_false_iff_ne] at *
      all_goals try (exact sRow (by omega) (by rw [Int.toNat_natCast, List.getElem?_map, List.getD_eq_getElem?_getD, List.getElem?_eq_getElem (by omega)]; rfl) rfl)
      all_goals try (first | exact ⟨trivial, trivial⟩ | exact ⟨Nat.le_of_ble_eq_true rfl, trivial⟩ | exact ⟨trivial, Nat.le_of_ble_eq_true rfl, trivial⟩ | exact ⟨Nat.le_of_ble_eq_true rfl, trivial, trivial⟩)
      all_goals try (exfalso; have h3 := hm' i (by omega) (by omega); omega)
      all_goals try (refine ⟨i + 1, [], by omega, by omega, ?_⟩; focus (repeat' (first | exact trivial | exact ⟨trivial⟩ | exact Side.mk rfl | exact sF1 rfl | exact Chk.mk (by kernel_rfl) | exact ⟨Chk.mk (by kernel_rfl)⟩ | exact ⟨by rw [wrapi] <;> omega⟩ | exact ⟨by dsimp only; rw [wrapi] <;> omega⟩ | refine And.intro ?_ ?_ | rfl)))
      all_goals
        refine W.loopC (D := Nat) (fun i => [(94, .row (s.getD i default).cells), (99, .row (a.getD i default).cells), (106, .row (s.getD i default).cells), (111, .row (a.getD i default).cells), (114, .res (ob (decide ((s.getD i default).e = (a.getD i default).e))))]) TTok hmo
          (fun i => ⟨117, 0, [(5, .one (.fz (a.map Vote.cells))), (12, .one (.fz (s.map Vote.cells))), (14, oi i)], []⟩) (fun i => s.length - i) (fun i => i ≤ s.length) 0 [] (Nat.zero_le _) ?_ ?_
      all_goals first
        | (focus (repeat' (first | exact trivial | exact ⟨trivial⟩ | exact Side.mk rfl | exact sF1 rfl | exact Chk.mk (by kernel_rfl) | exact ⟨Chk.mk (by kernel_rfl)⟩ | refine And.intro ?_ ?_ | rfl)); done)
        | (intro k hk
           repeat' (first | refine And.intro ?_ ?_ | exact tf | exact ft | refine tt ?_ | refine ff ?_ | exact ⟨trivial⟩ | exact sAll rfl | exact sF1 rfl | exact sBld (by repeat' (first | exact trivial | rfl | exact Nat.le_of_ble_eq_true rfl | refine And.intro ?_ ?_)) rfl | exact sBS (by repeat' (first | exact trivial | rfl | exact Nat.le_of_ble_eq_true rfl | refine And.intro ?_ ?_)) rfl rfl rfl rfl | exact sBSF (by repeat' (first | exact trivial | rfl | exact Nat.le_of_ble_eq_true rfl | refine And.intro ?_ ?_)) rfl rfl rfl rfl | exact sLe rfl | exact Chk.mk (by kernel_rfl) | exact ⟨Chk.mk (by kernel_rfl)⟩ | exact sLeEq rfl rfl | exact sAnd (by repeat' constructor) (c_impl_CertLike _ _ (Vs.2.get k) (Va.2.get k)) | refine fun h => ?_)
           all_goals simp only [decide_eq_true_eq, decide_eq_false_iff_not, List.length_map, Bool.not_eq_true', Bool.not_eq_false', Bool.not_eq_eq_eq_not, Bool.not_true, Bool.not_false, bne_iff_ne, ne_eq, bne_eq_false_iff_eq, beq_iff_eq, beq_eq_false_iff_ne] at *
           all_goals try (exact sRow (by omega) (by rw [Int.toNat_natCast, List.getElem?_map, List.getD_eq_getElem?_getD, List.getElem?_eq_getElem (by omega)]; rfl) rfl)
           all_goals try (first | exact ⟨trivial, trivial⟩ | exact ⟨Nat.le_of_ble_eq_true rfl, trivial⟩ | exact ⟨trivial, Nat.le_of_ble_eq_true rfl, trivial⟩ | exact ⟨Nat.le_of_ble_eq_true rfl, trivial, trivial⟩)
           all_goals try (exfalso; have h3 := hs' k (by omega); simp_all; done)
           all_goals try (refine ⟨k + 1, [], by omega, by omega, ?_⟩; focus (repeat' (first | exact trivial | exact ⟨trivial⟩ | exact Side.mk rfl | exact sF1 rfl | exact Chk.mk (by kernel_rfl) | exact ⟨Chk.mk (by kernel_rfl)⟩ | exact ⟨by rw [wrapi] <;> omega⟩ | exact ⟨by dsimp only; rw [wrapi] <;> omega⟩ | refine And.intro ?_ ?_ | rfl)))
           all_goals try (apply exU'; refine ⟨[], [], trivial, ?_⟩; focus (repeat' (first | exact trivial | exact ⟨trivial⟩ | exact Side.mk rfl | exact sF1 rfl | exact Chk.mk (by kernel_rfl) | exact ⟨Chk.mk (by kernel_rfl)⟩ | refine And.intro ?_ ?_ | rfl)))
           all_goals skip)
end Mg
