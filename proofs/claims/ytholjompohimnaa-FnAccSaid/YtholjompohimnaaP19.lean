/- Parts of the abstract state logic and of the walks, one behind the other: BE, BF. No condition. -/
import Derived.Test.YtholjompohimnaaP18
import Derived.Test.YtholjompohimnaaP17
/- The law of Acc, walked. No condition. -/
namespace Mg
open Go Go.RowKit
set_option maxRecDepth 100000
set_option linter.unusedVariables false
set_option linter.unusedSimpArgs false
attribute [local irreducible] W Pure Con
theorem castA_vote {a : Acc} {b slot : Int} {e : Entry} (h : accOk a = true) : castA a b slot e = accVote a b slot e := by
  have h0 := (accOk_iff.1 h).1
  by_cases g : (1 ≤ b ∧ b ≤ 3000 ∧ a.p ≤ b) ∧ (0 ≤ slot ∧ slot < 40) ∧ entryOk e = true
  · rw [accVote_up h g.1.1 g.1.2.1 g.1.2.2 g.2.1.1 g.2.1.2 g.2.2]
    have hp : promP a.p b = (b, true) := by unfold promP; rw [if_pos ⟨inr_iff.2 ⟨g.1.1, g.1.2.1⟩, by omega⟩]
    unfold castA; rw [if_pos ⟨⟨inr_iff.2 ⟨g.2.1.1, by omega⟩, g.2.2⟩, by rw [hp]⟩]
  · rw [accVote_no h g]
    unfold castA; rw [if_neg]
    rintro ⟨⟨h1, h2⟩, h3⟩
    have h1 := inr_iff.1 h1
    unfold promP at h3
    split at h3
    · rename_i h4
      have h5 := inr_iff.1 h4.1
      exact g ⟨⟨h5.1, h5.2, by omega⟩, ⟨h1.1, by omega⟩, h2⟩
    · cases h3
theorem promP_acc {a : Acc} {b : Int} (h : accOk a = true) : accPromise a b = (⟨(promP a.p b).1, a.votes⟩, (promP a.p b).2) := by
  unfold accPromise promP
  rw [if_pos h]
  split <;> rfl
theorem DAcc.ok {a : Acc} (h : DAcc a) : a.ok 1000000 := ⟨Nat.le_trans h.1 (by decide), fun v hv => ⟨Nat.le_trans (h.2 v hv).1 (by decide), Nat.le_trans (h.2 v hv).2 (by decide)⟩⟩
theorem DAcc.lim {a : Acc} (h : DAcc a) : a.ok lim := ⟨Nat.le_trans h.1 (by decide), h.2.lim⟩
theorem c_spec_AccPromise (a : Acc) (ha : DAcc a) (bal : Int) : Con PP 39 [.agg a.cells, oi bal] [] 0 (fAcc (accPromise a bal).1 (accPromise a bal).2).p (fAcc (accPromise a bal).1 (accPromise a bal).2).r (fAcc (accPromise a bal).1 (accPromise a bal).2).os := by
  refine Con.vc [(7, .res (ob (accOk a))), (11, .res (.agg [i6 a.p, .own (a.votes.map Vote.cells)])), (13, .con false [2] [] [] (fun _ _ => tProX a.votes (promP a.p bal)))] TTok hmo Go.Proofs.Try.func39 rfl (by kernel_rfl) rfl (by kernel_rfl) ?_
  repeat' (first | refine And.intro ?_ ?_ | exact tf | exact ft | refine tt ?_ | refine ff ?_ | exact ⟨trivial⟩ | exact sAll rfl | exact sF1 rfl | exact sBld (by repeat' (first | exact trivial | rfl | exact Nat.le_of_ble_eq_true rfl | refine And.intro ?_ ?_)) rfl | exact sBS (by repeat' (first | exact trivial | rfl | exact Nat.le_of_ble_eq_true rfl | refine And.intro ?_ ?_)) rfl rfl rfl rfl | exact sBSF (by repeat' (first | exact trivial | rfl | exact Nat.le_of_ble_eq_true rfl | refine And.intro ?_ ?_)) rfl rfl rfl rfl | exact sLe rfl | exact Chk.mk (by kernel_rfl) | exact ⟨Chk.mk (by kernel_rfl)⟩ | exact sLeEq rfl rfl | exact sAnd (by repeat' constructor) (c_spec_AccOk a ha.lim) | exact sAnd (by repeat' constructor) (c_l6CopyP a ha.ok) | refine fun h => ?_)
  all_goals try dsimp only [tProX] at *
  all_goals try (exact ⟨fun _ _ => trivial⟩)
  all_goals try (exact ⟨fun _ _ => ⟨Nat.le_refl _, trivial⟩⟩)
  all_goals try (exact ⟨fun _ _ => ⟨allF Vote.frz, trivial⟩⟩)
  all_goals try (exact ⟨fun _ _ => ⟨by simp, trivial⟩⟩)
  all_goals try (exact ⟨allF Vote.frz, trivial⟩)
  all_goals try (exact ⟨con_arg (c_l6PromiseX a.votes a.p bal) (by rw [List.length_map])⟩)
  all_goals try (exact ⟨Nat.le_of_ble_eq_true rfl, trivial, trivial⟩)
  · have hv : accOk a = false := by simp_all
    rw [accPromise_bad hv]
    apply exU'; refine ⟨[], [], trivial, ?_⟩
    repeat' (first | exact trivial | exact ⟨trivial⟩ | exact Side.mk rfl | exact sF1 rfl | exact Chk.mk (by kernel_rfl) | exact ⟨Chk.mk (by kernel_rfl)⟩ | refine And.intro ?_ ?_ | rfl)
  · have hv : accOk a = true := by simp_all
    rw [promP_acc hv]
    apply exU'; refine ⟨[], [2], trivial, ?_⟩
    repeat' (first | exact trivial | exact ⟨trivial⟩ | exact Side.mk rfl | exact sF1 rfl | exact Chk.mk (by kernel_rfl) | exact ⟨Chk.mk (by kernel_rfl)⟩ | exact sMapZ Vote.frz | exact sFzE rfl | refine And.intro ?_ ?_ | rfl)
theorem c_spec_AccVote (a : Acc) (ha : DAcc a) (bal slot : Int) (e : Entry) (he : e.ok lim) : Con PP 38 [.agg a.cells, oi bal, oi slot, .agg e.cells] [] 0 (fAcc (accVote a bal slot e).1 (accVote a bal slot e).2).p (fAcc (accVote a bal slot e).1 (accVote a bal slot e).2).r (fAcc (accVote a bal slot e).1 (accVote a bal slot e).2).os := by
  have hl : a.votes.length ≤ 1000 := Nat.le_trans ha.1 (by decide)
  refine Con.vc [(11, .res (ob (accOk a))), (15, .res (.agg [i6 a.p, .own (a.votes.map Vote.cells)])), (19, .con false [] [3] [] (fun _ _ => tCaX (castA a bal slot e))), (900003, .row [i6 0, i6 2, i6 3, i6 4, i6 1, i6 5, i6 6, i6 7, i6 8, i6 9])] TTok hmo Go.Proofs.Try.func38 rfl (by kernel_rfl) rfl (by kernel_rfl) ?_
  repeat' (first | refine And.intro ?_ ?_ | exact tf | exact ft | refine tt ?_ | refine ff ?_ | exact ⟨trivial⟩ | exact sAll rfl | exact sF1 rfl | exact sBld (by repeat' (first | exact trivial | rfl | exact Nat.le_of_ble_eq_true rfl | refine And.intro ?_ ?_)) rfl | exact sBS (by repeat' (first | exact trivial | rfl | exact Nat.le_of_ble_eq_true rfl | refine And.intro ?_ ?_)) rfl rfl rfl rfl | exact sBSF (by repeat' (first | exact trivial | rfl | exact Nat.le_of_ble_eq_true rfl | refine And.intro ?_ ?_)) rfl rfl rfl rfl | exact sLe rfl | exact Chk.mk (by kernel_rfl) | exact ⟨Chk.mk (by kernel_rfl)⟩ | exact sLeEq rfl rfl | exact sAnd (by repeat' constructor) (c_spec_AccOk a ha.lim) | exact sAnd (by repeat' constructor) (c_l6CopyP a ha.ok) | refine fun h => ?_)
  all_goals try dsimp only [tCaX] at *
  all_goals try (exact ⟨rfl⟩)
  all_goals try (exact trivial)
  all_goals try (exact ⟨fun _ _ => trivial⟩)
  all_goals try (exact ⟨fun _ _ => ⟨allF Vote.frz, trivial⟩⟩)
  all_goals try (exact ⟨allF Vote.frz, trivial⟩)
  all_goals try (exact ⟨con_arg (c_l6CastX a.votes a.p bal slot e hl he) (by rw [List.length_map]; rfl)⟩)
  all_goals try (exact ⟨Nat.le_of_ble_eq_true rfl, trivial, trivial⟩)
  · have hv : accOk a = false := by simp_all
    rw [accVote_bad hv]
    apply exU'; refine ⟨[], [], trivial, ?_⟩
    repeat' (first | exact trivial | exact ⟨trivial⟩ | exact Side.mk rfl | exact sF1 rfl | exact Chk.mk (by kernel_rfl) | exact ⟨Chk.mk (by kernel_rfl)⟩ | refine And.intro ?_ ?_ | rfl)
  · have hv : accOk a = true := by simp_all
    rw [castA_vote hv]
    apply exU'; refine ⟨[], [4], trivial, ?_⟩
    repeat' (first | exact trivial | exact ⟨trivial⟩ | exact Side.mk rfl | exact sF1 rfl | exact Chk.mk (by kernel_rfl) | exact ⟨Chk.mk (by kernel_rfl)⟩ | exact sMapZ Vote.frz | exact sFzE rfl | refine And.intro ?_ ?_ | rfl)
/-- What was promised and voted under an exact name. -/
theorem exV4 {Q : Acc × Int × Int × Entry → Prop} (a : Acc) (b s : Int) (e : Entry) (h : Q (a, b, s, e)) : ∃ d, Q d := ⟨_, h⟩
set_option maxHeartbeats 4000000 in
theorem c_DrawAccVote (bs : List Int) (hb : Code8 bs) : Con PP 37 [.one (.fz (bs.map u8))] [] 0 (fun d : Acc × Int × Int × Entry => DAcc d.1 ∧ d.2.2.2.ok 30) (fun d => .tup [.agg d.1.cells, oi d.2.1, oi d.2.2.1, .agg d.2.2.2.cells]) (fun _ => []) := by
  refine Con.vc [(11, .con false [] [] [] sOpen), (13, .con false [2] [] [] sAcc), (17, .con false [2] [] [] sPick), (21, .row []), (22, .con false [2] [] [] sNum), (27, .res (.one (.fz ((List.replicate 4 (⟨0, 0⟩ : Two)).map Two.cells)))), (28, .con false [2] [] [] sAny5), (900003, .row [i6 0, i6 1, i6 2, i6 3, i6 4, i6 5, i6 6]), (900005, .row [i6 0, i6 1, i6 2, i6 3, i6 4, i6 5, i6 6, i6 7, i6 8, i6 9])] TTok hmo Go.Proofs.Try.func37 rfl (by kernel_rfl) rfl (by kernel_rfl) ?_
  repeat' (first | refine And.intro ?_ ?_ | exact tf | exact ft | refine tt ?_ | refine ff ?_ | exact ⟨trivial⟩ | exact sAll rfl | exact sF1 rfl | exact sBld (by repeat' (first | exact trivial | rfl | exact Nat.le_of_ble_eq_true rfl | refine And.intro ?_ ?_)) rfl | exact sBS (by repeat' (first | exact trivial | rfl | exact Nat.le_of_ble_eq_true rfl | refine And.intro ?_ ?_)) rfl rfl rfl rfl | exact sBSF (by repeat' (first | exact trivial | rfl | exact Nat.le_of_ble_eq_true rfl | refine And.intro ?_ ?_)) rfl rfl rfl rfl | exact sLe rfl | exact Chk.mk (by kernel_rfl) | exact ⟨Chk.mk (by kernel_rfl)⟩ | exact sLeEq rfl rfl | exact sAnd (by repeat' constructor) (c_BoxOpen) | refine fun h => ?_)
  all_goals dsimp only [sOpen, sAcc, sPick, sNum, sAny5] at *
  all_goals try (exact ⟨rfl⟩)
  all_goals try (exact trivial)
  all_goals try (exact ⟨fun _ _ => trivial⟩)
  all_goals try (exact ⟨c_l15Open bs hb⟩)
  all_goals try (exact ⟨c_l6Acc _ ‹_› _ (by omega) (by omega)⟩)
  all_goals try (exact ⟨c_pick _ ‹_› _ _ (by omega) (by omega)⟩)
  all_goals try (exact ⟨c_num _ ‹_› _ (by omega) (by omega) [0, 1, 2, 3, 5, -1, 40, 39] (by decide) (by decide)⟩)
  all_goals try (exact ⟨c_l5Any _ ‹_› (List.replicate 4 ⟨0, 0⟩) (by decide) _ (by omega) (by omega)⟩)
  all_goals try (first | exact ⟨trivial, trivial⟩ | exact ⟨Nat.le_of_ble_eq_true rfl, trivial⟩ | exact ⟨trivial, Nat.le_of_ble_eq_true rfl, trivial⟩ | exact ⟨Nat.le_of_ble_eq_true rfl, trivial, trivial⟩)
  · exact ⟨Nat.le_of_ble_eq_true rfl, trivial, trivial, Nat.le_of_ble_eq_true rfl, trivial⟩
  · rename_i d0 hd0 d1 hd1 d2 hd2 d3 hd3 d4
    apply exV4 d1.1 _ _ d4.1; refine ⟨[], [], ⟨⟨hd1.1, hd1.2.1⟩, h.1⟩, ?_⟩
    repeat' (first | exact trivial | exact ⟨trivial⟩ | exact Side.mk rfl | exact sF1 rfl | exact Chk.mk (by kernel_rfl) | exact ⟨Chk.mk (by kernel_rfl)⟩ | refine And.intro ?_ ?_ | rfl)
end Mg

/- The law of Acc, walked. No condition. -/
namespace Mg
open Go Go.RowKit
set_option maxRecDepth 100000
set_option linter.unusedVariables false
set_option linter.unusedSimpArgs false
attribute [local irreducible] W Pure Con
def sVoteD (ds : List MV) (os : List Ob) : ConT := ⟨Acc × Int × Int × Entry, fun d => DAcc d.1 ∧ d.2.2.2.ok 30, fun d => .tup [.agg d.1.cells, oi d.2.1, oi d.2.2.1, .agg d.2.2.2.cells], fun _ => []⟩
theorem accVote_cases (a : Acc) (b s : Int) (e : Entry) (ha : accOk a = true) : ((1 ≤ b ∧ b ≤ 3000 ∧ a.p ≤ b) ∧ (0 ≤ s ∧ s < 40) ∧ entryOk e = true ∧ accVote a b s e = (⟨b, (padV a.votes (s.toNat + 1)).set s.toNat ⟨b, e⟩⟩, true)) ∨ accVote a b s e = (a, false) := by
  by_cases g : (1 ≤ b ∧ b ≤ 3000 ∧ a.p ≤ b) ∧ (0 ≤ s ∧ s < 40) ∧ entryOk e = true
  · exact .inl ⟨g.1, g.2.1, g.2.2, accVote_up ha g.1.1 g.1.2.1 g.1.2.2 g.2.1.1 g.2.1.2 g.2.2⟩
  · exact .inr (accVote_no ha g)
theorem padV_ok {vs : List Vote} {n : Nat} {v : Vote} {k : Nat} (h : VsOk lim vs) (hv : v.ok lim) : VsOk lim ((padV vs n).set k v) := VsOk.set (fun x hx => by
  rcases padV_mem hx with hx | hx
  · exact h x hx
  · rw [hx]; exact ⟨Nat.zero_le _, Nat.zero_le _⟩) hv
theorem accVote_ok {a : Acc} {b s : Int} {e : Entry} (ha : a.ok lim) (he : e.ok lim) : (accVote a b s e).1.ok lim := by
  cases h : accOk a with
  | false => rw [accVote_bad h]; exact ⟨Nat.zero_le _, fun v hv => by cases hv⟩
  | true =>
    rcases accVote_cases a b s e h with ⟨g1, g2, g3, g4⟩ | g
    · rw [g4]
      have := accOk_vote (k := s.toNat) h g1.1 g1.2.1 g1.2.2 (by omega) g3
      exact ⟨Nat.le_trans (votesOk_iff.1 (accOk_iff.1 this).2.1).1 (by decide), padV_ok ha.2 he⟩
    · rw [g]; exact ha
theorem accPromise_ok {a : Acc} {b : Int} (ha : a.ok lim) : (accPromise a b).1.ok lim := by
  unfold accPromise
  split
  · split
    · exact ⟨ha.1, ha.2⟩
    · exact ha
  · exact ⟨Nat.zero_le _, fun v hv => by cases hv⟩
structure VF (a : Acc) (bal slot : Int) (e : Entry) (X Y : Acc × Bool) : Prop where
  bad : accOk a = false → X.2 = false ∧ Y.2 = false
  okX : accOk a = true → accOk X.1 = true
  okY : accOk a = true → accOk Y.1 = true
  pX : accOk a = true → ¬ X.1.p < a.p
  pY : accOk a = true → ¬ Y.1.p < a.p
  can : accOk a = true → (Y.2 = true ↔ (bal ≥ a.p ∧ bal ≥ 1 ∧ bal ≤ 3000))
  no : accOk a = true → X.2 = false → X.1 = a
  yes : accOk a = true → X.2 = true → (1 ≤ bal ∧ bal ≤ 3000 ∧ a.p ≤ bal) ∧ (0 ≤ slot ∧ slot < 40) ∧ entryOk e = true ∧ X.1 = ⟨bal, (padV a.votes (slot.toNat + 1)).set slot.toNat ⟨bal, e⟩⟩ ∧ Y.1 = ⟨bal, a.votes⟩
theorem vf (a : Acc) (bal slot : Int) (e : Entry) : VF a bal slot e (accVote a bal slot e) (accPromise a bal) := by
  refine ⟨fun h => by rw [accVote_bad h, accPromise_bad h]; exact ⟨rfl, rfl⟩, fun h => ?_, fun h => ?_, fun h => ?_, fun h => ?_, fun h => ?_, fun h h2 => ?_, fun h h2 => ?_⟩
  · rcases accVote_cases a bal slot e h with ⟨g1, g2, g3, g4⟩ | g
    · rw [g4]; exact accOk_vote h g1.1 g1.2.1 g1.2.2 (by omega) g3
    · rw [g]; exact h
  · by_cases g : 1 ≤ bal ∧ bal ≤ 3000 ∧ a.p ≤ bal
    · rw [accPromise_up h g.1 g.2.1 g.2.2]; exact accOk_up h g.1 g.2.1 g.2.2
    · rw [accPromise_no h g]; exact h
  · rcases accVote_cases a bal slot e h with ⟨g1, g2, g3, g4⟩ | g
    · rw [g4]; dsimp only; omega
    · rw [g]; dsimp only; omega
  · by_cases g : 1 ≤ bal ∧ bal ≤ 3000 ∧ a.p ≤ bal
    · rw [accPromise_up h g.1 g.2.1 g.2.2]; dsimp only; omega
    · rw [accPromise_no h g]; dsimp only; omega
  · by_cases g : 1 ≤ bal ∧ bal ≤ 3000 ∧ a.p ≤ bal
    · rw [accPromise_up h g.1 g.2.1 g.2.2]; simp; omega
    · rw [accPromise_no h g]; simp; omega
  · rcases accVote_cases a bal slot e h with ⟨g1, g2, g3, g4⟩ | g
    · rw [g4] at h2; cases h2
    · rw [g]
  · rcases accVote_cases a bal slot e h with ⟨g1, g2, g3, g4⟩ | g
    · rw [accPromise_up h g1.1 g1.2.1 g1.2.2]; exact ⟨g1, g2, g3, by rw [g4], rfl⟩
    · rw [g] at h2; cases h2
set_option maxHeartbeats 16000000 in
theorem c_FnAcc (bs : List Int) (hb : Code8 bs) : Con PP 9 [.one (.fz (bs.map u8))] [] 0 (fun _ : Unit => True) (fun _ => ob true) (fun _ => []) := by
  refine Con.vc [(25, .con false [] [] [] sVoteD), (800004, .row [])] TTok hmo Go.Proofs.Try.func9 rfl (by kernel_rfl) rfl (by kernel_rfl) ?_
  repeat' (first | refine And.intro ?_ ?_ | exact tf | exact ft | refine tt ?_ | refine ff ?_ | exact ⟨trivial⟩ | exact sAll rfl | exact sF1 rfl | exact sBld (by repeat' (first | exact trivial | rfl | exact Nat.le_of_ble_eq_true rfl | refine And.intro ?_ ?_)) rfl | exact sBS (by repeat' (first | exact trivial | rfl | exact Nat.le_of_ble_eq_true rfl | refine And.intro ?_ ?_)) rfl rfl rfl rfl | exact sBSF (by repeat' (first | exact trivial | rfl | exact Nat.le_of_ble_eq_true rfl | refine And.intro ?_ ?_)) rfl rfl rfl rfl | exact sLe rfl | exact Chk.mk (by kernel_rfl) | exact ⟨Chk.mk (by kernel_rfl)⟩ | exact sLeEq rfl rfl | refine fun h => ?_)
  all_goals try dsimp only [sVoteD] at *
  all_goals try (exact ⟨fun _ _ => trivial⟩)
  all_goals try (exact ⟨c_DrawAccVote bs hb⟩)
  all_goals try (first | exact ⟨trivial, trivial⟩ | exact ⟨Nat.le_of_ble_eq_true rfl, trivial⟩ | exact ⟨trivial, Nat.le_of_ble_eq_true rfl, trivial⟩ | exact ⟨Nat.le_of_ble_eq_true rfl, trivial, trivial⟩)
  all_goals try (apply exU'; refine ⟨[], [], trivial, ?_⟩; focus (repeat' (first | exact trivial | exact ⟨trivial⟩ | exact Side.mk rfl | exact sF1 rfl | exact Chk.mk (by kernel_rfl) | exact ⟨Chk.mk (by kernel_rfl)⟩ | refine And.intro ?_ ?_ | rfl)))
  all_goals try (exact ⟨Nat.le_of_ble_eq_true rfl, trivial, trivial, Nat.le_of_ble_eq_true rfl, trivial⟩)
  · rename_i d
    obtain ⟨a, bal, slot, e⟩ := d
    obtain ⟨hDa, hDe⟩ := h
    dsimp only at *
    have ha := hDa.lim
    have he : e.ok lim := ⟨Nat.le_trans hDe.1 (by decide), Nat.le_trans hDe.2 (by decide)⟩
    have cV := c_AccVoteQ a ha bal slot e he
    have cW := c_spec_AccVote a hDa bal slot e he
    have cP := c_AccPromiseQ a ha bal
    have cR := c_spec_AccPromise a hDa bal
    have hXo := accVote_ok (b := bal) (s := slot) ha he
    have hPo := accPromise_ok (b := bal) ha
    obtain ⟨X, hX⟩ : ∃ X, X = accVote a bal slot e := ⟨_, rfl⟩
    obtain ⟨Y, hY⟩ : ∃ Y, Y = accPromise a bal := ⟨_, rfl⟩
    rw [← hX] at cV cW hXo
    rw [← hY] at cP cR hPo
    have hF := vf a bal slot e
    rw [← hX, ← hY] at hF
    clear hX hY
    refine W.go [(35, .res (qAcc X)), (43, .con false [] [] [] (fun _ _ => fAcc X.1 X.2)), (49, .res (qAcc Y)), (55, .con false [] [] [] (fun _ _ => fAcc Y.1 Y.2)), (69, .res (ob (decide (X.1 = X.1)))), (75, .res (ob (decide (Y.1 = Y.1)))), (80, .res (ob (accOk a))), (82, .res (ob (accOk a))), (86, .res (ob (accOk a))),
      (95, .res (ob (accOk X.1))), (99, .res (ob (accOk Y.1))), (136, .res (ob (decide (X.1 = a)))), (800016, .row [])] TTok hmo ?_
    repeat' (first | refine And.intro ?_ ?_ | exact tf | exact ft | refine tt ?_ | refine ff ?_ | exact ⟨trivial⟩ | exact sAll rfl | exact sF1 rfl | exact sBld (by repeat' (first | exact trivial | rfl | exact Nat.le_of_ble_eq_true rfl | refine And.intro ?_ ?_)) rfl | exact sBS (by repeat' (first | exact trivial | rfl | exact Nat.le_of_ble_eq_true rfl | refine And.intro ?_ ?_)) rfl rfl rfl rfl | exact sBSF (by repeat' (first | exact trivial | rfl | exact Nat.le_of_ble_eq_true rfl | refine And.intro ?_ ?_)) rfl rfl rfl rfl | exact sLe rfl | exact Chk.mk (by kernel_rfl) | exact ⟨Chk.mk (by kernel_rfl)⟩ | exact sLeEq rfl rfl | exact sAnd (by repeat' constructor) (cV) | exact sAnd (by repeat' constructor) (cP) | exact sAnd (by repeat' constructor) (c_impl_AccSame X.1 X.1 hXo hXo) | exact sAnd (by repeat' constructor) (c_impl_AccSame Y.1 Y.1 hPo hPo) | exact sAnd (by repeat' constructor) (c_impl_AccSame X.1 a hXo ha) | exact sAnd (by repeat' constructor) (c_impl_AccOk a ha) | exact sAnd (by repeat' constructor) (c_spec_AccOk a ha) | exact sAnd (by repeat' constructor) (c_impl_AccOk X.1 hXo) | exact sAnd (by repeat' constructor) (c_impl_AccOk Y.1 hPo) | refine fun h => ?_)
    all_goals try dsimp only [fAcc] at *
    all_goals try (exact ⟨cW⟩)
    all_goals try (exact ⟨cR⟩)
    all_goals try (exact ⟨fun _ _ => trivial⟩)
    all_goals try (exact ⟨Nat.le_of_ble_eq_true rfl, trivial, trivial⟩)
    all_goals try (first | exact ⟨trivial, trivial⟩ | exact ⟨Nat.le_of_ble_eq_true rfl, trivial⟩ | exact ⟨trivial, Nat.le_of_ble_eq_true rfl, trivial⟩ | exact ⟨Nat.le_of_ble_eq_true rfl, trivial, trivial⟩)
    all_goals simp only [decide_eq_true_eq, decide_eq_false_iff_not, List.length_map, Bool.not_eq_true', Bool.not_eq_false', Bool.not_eq_eq_eq_not, Bool.not_true, Bool.not_false, bne_iff_ne, ne_eq, bne_eq_false_iff_eq, beq_iff_eq, beq_eq_false_iff_ne] at *
    all_goals try (exfalso; simp_all; done)
    all_goals try (exfalso; have g := hF.bad ‹accOk a = false›; simp_all; done)
    all_goals try (exfalso; have g := hF.okX ‹accOk a = true›; simp_all; done)
    all_goals try (exfalso; have g := hF.okY ‹accOk a = true›; simp_all; done)
    all_goals try (exfalso; have g := hF.pX ‹accOk a = true›; omega)
    all_goals try (exfalso; have g := hF.pY ‹accOk a = true›; omega)
    all_goals try (exfalso; have g := hF.can ‹accOk a = true›; cases hy : Y.2 <;> simp_all <;> omega)
    all_goals try (exfalso; have g := (hF.yes ‹accOk a = true› ‹X.2 = true›).1; omega)
    all_goals try (have g := hF.bad ‹accOk a = false›; apply exU'; refine ⟨[], [], trivial, ?_⟩; focus ((repeat' (first | exact trivial | exact ⟨trivial⟩ | exact Side.mk rfl | exact sF1 rfl | exact Chk.mk (by kernel_rfl) | exact ⟨Chk.mk (by kernel_rfl)⟩ | exact ⟨by simp [g]⟩ | refine And.intro ?_ ?_ | rfl)); done))
    all_goals try (have g := hF.no ‹accOk a = true› ‹X.2 = false›; apply exU'; refine ⟨[], [], trivial, ?_⟩; focus ((repeat' (first | exact trivial | exact ⟨trivial⟩ | exact Side.mk rfl | exact sF1 rfl | exact Chk.mk (by kernel_rfl) | exact ⟨Chk.mk (by kernel_rfl)⟩ | exact ⟨by simp [g]⟩ | refine And.intro ?_ ?_ | rfl)); done))
    · obtain ⟨⟨g1, g2, g3⟩, ⟨g4, g5⟩, g6, g7, g8⟩ := hF.yes ‹accOk a = true› ‹X.2 = true›
      have oA : accOk a = true := by assumption
      have oX := hF.okX oA
      have oY := hF.okY oA
      have eP : accPromise Y.1 bal = (Y.1, true) := by
        rw [accPromise_up oY g1 g2 (by rw [g8]; exact Int.le_refl _)]; rw [g8]
      have eV : accVote X.1 (bal - 1) slot e = (X.1, false) := accVote_no oX (by rw [g7]; dsimp only; omega)
      have cP2 := c_AccPromiseQ Y.1 hPo bal
      rw [eP] at cP2
      have cV2 := c_AccVoteQ X.1 hXo (bal - 1) slot e he
      rw [eV] at cV2
      have lX : X.1.votes.length = max a.votes.length (slot.toNat + 1) := by rw [g7]; simp [padV_len]
      have sX : X.1.votes.getD slot.toNat default = ⟨bal, e⟩ := by rw [g7]; exact set_get (by rw [padV_len]; omega)
      have aX : ∀ i, i < a.votes.length → (i : Int) ≠ slot → X.1.votes.getD i default = a.votes.getD i default := fun i hi hs => by
        rw [g7]
        show ((padV a.votes (slot.toNat + 1)).set slot.toNat ⟨bal, e⟩).getD i default = _
        rw [List.getD_eq_getElem?_getD, List.getElem?_set_ne (by omega), ← List.getD_eq_getElem?_getD, padV_get hi]
      have hla := (votesOk_iff.1 (accOk_iff.1 oA).2.1).1
      have hlx := (votesOk_iff.1 (accOk_iff.1 oX).2.1).1
      have pX : X.1.p = bal := by rw [g7]
      clear cV cW cP cR
      refine W.go [(800021, .row [])] TTok hmo ?_
      repeat' (first | refine And.intro ?_ ?_ | exact tf | exact ft | refine tt ?_ | refine ff ?_ | exact ⟨trivial⟩ | exact sAll rfl | exact sF1 rfl | exact sBld (by repeat' (first | exact trivial | rfl | exact Nat.le_of_ble_eq_true rfl | refine And.intro ?_ ?_)) rfl | exact sBS (by repeat' (first | exact trivial | rfl | exact Nat.le_of_ble_eq_true rfl | refine And.intro ?_ ?_)) rfl rfl rfl rfl | exact sBSF (by repeat' (first | exact trivial | rfl | exact Nat.le_of_ble_eq_true rfl | refine And.intro ?_ ?_)) rfl rfl rfl rfl | exact sLe rfl | exact Chk.mk (by kernel_rfl) | exact ⟨Chk.mk (by kernel_rfl)⟩ | exact sLeEq rfl rfl | refine fun h => ?_)
      refine W.loopC (D := Nat) (fun i => [(151, .row (X.1.votes.getD i default).cells), (157, .row (a.votes.getD i default).cells), (165, .row (X.1.votes.getD i default).cells), (171, .row (a.votes.getD i default).cells), (174, .res (ob (decide ((X.1.votes.getD i default).e = (a.votes.getD i default).e))))]) TTok hmo
        (fun i => ⟨229, 6, [(3, .one (.ptr 0 0 0)), (4, oi bal), (5, oi slot), (6, .one (.ptr 1 0 0)), (7, .one (.ptr 2 0 0)), (11, .one (.ptr 4 0 0)), (15, oi i)], [(0, .box a.cells), (1, .box e.cells), (2, .box X.1.cells), (4, .box Y.1.cells)]⟩) (fun i => a.votes.length - i) (fun i => i ≤ a.votes.length) 0 [] (Nat.zero_le _) ?_ ?_
      · repeat' (first | exact trivial | exact ⟨trivial⟩ | exact Side.mk rfl | exact sF1 rfl | exact Chk.mk (by kernel_rfl) | exact ⟨Chk.mk (by kernel_rfl)⟩ | refine And.intro ?_ ?_ | rfl)
      · intro i hi
        repeat' (first | refine And.intro ?_ ?_ | exact tf | exact ft | refine tt ?_ | refine ff ?_ | exact ⟨trivial⟩ | exact sAll rfl | exact sF1 rfl | exact sBld (by repeat' (first | exact trivial | rfl | exact Nat.le_of_ble_eq_true rfl | refine And.intro ?_ ?_)) rfl | exact sBS (by repeat' (first | exact trivial | rfl | exact Nat.le_of_ble_eq_true rfl | refine And.intro ?_ ?_)) rfl rfl rfl rfl | exact sBSF (by repeat' (first | exact trivial | rfl | exact Nat.le_of_ble_eq_true rfl | refine And.intro ?_ ?_)) rfl rfl rfl rfl | exact sLe rfl | exact Chk.mk (by kernel_rfl) | exact ⟨Chk.mk (by kernel_rfl)⟩ | exact sLeEq rfl rfl | exact sAnd (by repeat' constructor) (c_impl_CertLike _ _ (VsOk.get hXo.2 i) (VsOk.get ha.2 i)) | refine fun h => ?_)
        all_goals simp only [decide_eq_true_eq, decide_eq_false_iff_not, List.length_map, Bool.not_eq_true', Bool.not_eq_false', Bool.not_eq_eq_eq_not, Bool.not_true, Bool.not_false, bne_iff_ne, ne_eq, bne_eq_false_iff_eq, beq_iff_eq, beq_eq_false_iff_ne] at *
        all_goals try (exact sRow (by omega) (by rw [Int.toNat_natCast, List.getElem?_map, List.getD_eq_getElem?_getD, List.getElem?_eq_getElem (by omega)]; rfl) rfl)
        all_goals try (first | exact ⟨trivial, trivial⟩ | exact ⟨Nat.le_of_ble_eq_true rfl, trivial⟩ | exact ⟨trivial, Nat.le_of_ble_eq_true rfl, trivial⟩ | exact ⟨Nat.le_of_ble_eq_true rfl, trivial, trivial⟩)
        all_goals try (exfalso; have g := aX i (by omega) (by assumption); simp_all; done)
        all_goals try (refine ⟨i + 1, [], by omega, by omega, ?_⟩; focus (repeat' (first | exact trivial | exact ⟨trivial⟩ | exact Side.mk rfl | exact sF1 rfl | exact Chk.mk (by kernel_rfl) | exact ⟨Chk.mk (by kernel_rfl)⟩ | exact ⟨by rw [wrapi] <;> omega⟩ | refine And.intro ?_ ?_ | rfl)))
        all_goals
          refine W.go [(181, .res (qAcc (Y.1, true))), (190, .res (qAcc (X.1, false))), (196, .row (⟨bal, e⟩ : Vote).cells), (205, .row (⟨bal, e⟩ : Vote).cells), (209, .res (ob (decide (e = e)))), (217, .res (ob (decide (Y.1 = Y.1))))] TTok hmo ?_
          repeat' (first | refine And.intro ?_ ?_ | exact tf | exact ft | refine tt ?_ | refine ff ?_ | exact ⟨trivial⟩ | exact sAll rfl | exact sF1 rfl | exact sBld (by repeat' (first | exact trivial | rfl | exact Nat.le_of_ble_eq_true rfl | refine And.intro ?_ ?_)) rfl | exact sBS (by repeat' (first | exact trivial | rfl | exact Nat.le_of_ble_eq_true rfl | refine And.intro ?_ ?_)) rfl rfl rfl rfl | exact sBSF (by repeat' (first | exact trivial | rfl | exact Nat.le_of_ble_eq_true rfl | refine And.intro ?_ ?_)) rfl rfl rfl rfl | exact sLe rfl | exact Chk.mk (by kernel_rfl) | exact ⟨Chk.mk (by kernel_rfl)⟩ | exact sLeEq rfl rfl | exact sAnd (by repeat' constructor) (c_impl_CertLike e e he he) | exact sAnd (by repeat' constructor) (cP2) | exact sAnd (by repeat' constructor) (c_impl_AccSame Y.1 Y.1 hPo hPo) | refine fun h => ?_)
        all_goals try (exfalso; simp_all; done)
        all_goals try (exact ⟨trivial, trivial⟩)
        · have hw : IntKind.i64.wrap (bal - 1) = bal - 1 := by rw [wrapi] <;> omega
          exact sLend (by repeat' constructor) cV2 (by rw [hw]; rfl)
        · exact sRow (by omega) (by rw [List.getElem?_map, List.getElem?_eq_getElem (by omega), ← getD_get (by omega), sX]; rfl) rfl
        · exact sRow (by omega) (by rw [List.getElem?_map, List.getElem?_eq_getElem (by omega), ← getD_get (by omega), sX]; rfl) rfl
        · apply exU'; refine ⟨[], [], trivial, ?_⟩
          repeat' (first | exact trivial | exact ⟨trivial⟩ | exact Side.mk rfl | exact sF1 rfl | exact Chk.mk (by kernel_rfl) | exact ⟨Chk.mk (by kernel_rfl)⟩ | exact ⟨by simp [pX]⟩ | refine And.intro ?_ ?_ | rfl)
end Mg
